/- The texts of a proof, one behind the other: an interpreter and its soundness, what the functions of the program answer, and plain laws on that. -/
import Derived.Test.YtckfafoabnfbpaaX2
import Derived.Test.YtckfafoabnfbpaaX1
import Derived.Test.YtckfafoabnfbpaaK4
set_option linter.unusedVariables false
set_option linter.unusedSimpArgs false
set_option linter.unnecessarySimpa false
set_option linter.unusedSectionVars false
/- topo.Gao's round over a link, node by node (printed by wip/tools/geng16d.py). -/
namespace Go.Sim
open Go.RowKit Go.Proofs
set_option linter.unusedVariables false
set_option linter.unusedSimpArgs false
set_option linter.unusedSectionVars false
set_option maxRecDepth 100000
variable [Lv]
theorem lk6_0_1 (N : Nat) (l : List Lk) (c0 c1 c2 c3 c4 c5 : Cf) : LinkOk N l [c0, c1, c2, c3, c4, c5] 0 1 c0 c1 := ⟨fun j r => by kernel_rfl, fun j r => by kernel_rfl, fun j r k v => by kernel_rfl, fun j r => ⟨by kernel_rfl, by kernel_rfl, fun S => by kernel_rfl, fun S => by kernel_rfl, fun S => by kernel_rfl⟩, fun j r => ⟨by kernel_rfl, by kernel_rfl, fun S => by kernel_rfl, fun S => by kernel_rfl, fun S => by kernel_rfl⟩⟩
theorem lk6_0_2 (N : Nat) (l : List Lk) (c0 c1 c2 c3 c4 c5 : Cf) : LinkOk N l [c0, c1, c2, c3, c4, c5] 0 2 c0 c2 := ⟨fun j r => by kernel_rfl, fun j r => by kernel_rfl, fun j r k v => by kernel_rfl, fun j r => ⟨by kernel_rfl, by kernel_rfl, fun S => by kernel_rfl, fun S => by kernel_rfl, fun S => by kernel_rfl⟩, fun j r => ⟨by kernel_rfl, by kernel_rfl, fun S => by kernel_rfl, fun S => by kernel_rfl, fun S => by kernel_rfl⟩⟩
theorem lk6_0_3 (N : Nat) (l : List Lk) (c0 c1 c2 c3 c4 c5 : Cf) : LinkOk N l [c0, c1, c2, c3, c4, c5] 0 3 c0 c3 := ⟨fun j r => by kernel_rfl, fun j r => by kernel_rfl, fun j r k v => by kernel_rfl, fun j r => ⟨by kernel_rfl, by kernel_rfl, fun S => by kernel_rfl, fun S => by kernel_rfl, fun S => by kernel_rfl⟩, fun j r => ⟨by kernel_rfl, by kernel_rfl, fun S => by kernel_rfl, fun S => by kernel_rfl, fun S => by kernel_rfl⟩⟩
theorem lk6_0_4 (N : Nat) (l : List Lk) (c0 c1 c2 c3 c4 c5 : Cf) : LinkOk N l [c0, c1, c2, c3, c4, c5] 0 4 c0 c4 := ⟨fun j r => by kernel_rfl, fun j r => by kernel_rfl, fun j r k v => by kernel_rfl, fun j r => ⟨by kernel_rfl, by kernel_rfl, fun S => by kernel_rfl, fun S => by kernel_rfl, fun S => by kernel_rfl⟩, fun j r => ⟨by kernel_rfl, by kernel_rfl, fun S => by kernel_rfl, fun S => by kernel_rfl, fun S => by kernel_rfl⟩⟩
theorem lk6_0_5 (N : Nat) (l : List Lk) (c0 c1 c2 c3 c4 c5 : Cf) : LinkOk N l [c0, c1, c2, c3, c4, c5] 0 5 c0 c5 := ⟨fun j r => by kernel_rfl, fun j r => by kernel_rfl, fun j r k v => by kernel_rfl, fun j r => ⟨by kernel_rfl, by kernel_rfl, fun S => by kernel_rfl, fun S => by kernel_rfl, fun S => by kernel_rfl⟩, fun j r => ⟨by kernel_rfl, by kernel_rfl, fun S => by kernel_rfl, fun S => by kernel_rfl, fun S => by kernel_rfl⟩⟩
theorem lk6_1_0 (N : Nat) (l : List Lk) (c0 c1 c2 c3 c4 c5 : Cf) : LinkOk N l [c0, c1, c2, c3, c4, c5] 1 0 c1 c0 := ⟨fun j r => by kernel_rfl, fun j r => by kernel_rfl, fun j r k v => by kernel_rfl, fun j r => ⟨by kernel_rfl, by kernel_rfl, fun S => by kernel_rfl, fun S => by kernel_rfl, fun S => by kernel_rfl⟩, fun j r => ⟨by kernel_rfl, by kernel_rfl, fun S => by kernel_rfl, fun S => by kernel_rfl, fun S => by kernel_rfl⟩⟩
theorem lk6_1_2 (N : Nat) (l : List Lk) (c0 c1 c2 c3 c4 c5 : Cf) : LinkOk N l [c0, c1, c2, c3, c4, c5] 1 2 c1 c2 := ⟨fun j r => by kernel_rfl, fun j r => by kernel_rfl, fun j r k v => by kernel_rfl, fun j r => ⟨by kernel_rfl, by kernel_rfl, fun S => by kernel_rfl, fun S => by kernel_rfl, fun S => by kernel_rfl⟩, fun j r => ⟨by kernel_rfl, by kernel_rfl, fun S => by kernel_rfl, fun S => by kernel_rfl, fun S => by kernel_rfl⟩⟩
theorem lk6_1_3 (N : Nat) (l : List Lk) (c0 c1 c2 c3 c4 c5 : Cf) : LinkOk N l [c0, c1, c2, c3, c4, c5] 1 3 c1 c3 := ⟨fun j r => by kernel_rfl, fun j r => by kernel_rfl, fun j r k v => by kernel_rfl, fun j r => ⟨by kernel_rfl, by kernel_rfl, fun S => by kernel_rfl, fun S => by kernel_rfl, fun S => by kernel_rfl⟩, fun j r => ⟨by kernel_rfl, by kernel_rfl, fun S => by kernel_rfl, fun S => by kernel_rfl, fun S => by kernel_rfl⟩⟩
theorem lk6_1_4 (N : Nat) (l : List Lk) (c0 c1 c2 c3 c4 c5 : Cf) : LinkOk N l [c0, c1, c2, c3, c4, c5] 1 4 c1 c4 := ⟨fun j r => by kernel_rfl, fun j r => by kernel_rfl, fun j r k v => by kernel_rfl, fun j r => ⟨by kernel_rfl, by kernel_rfl, fun S => by kernel_rfl, fun S => by kernel_rfl, fun S => by kernel_rfl⟩, fun j r => ⟨by kernel_rfl, by kernel_rfl, fun S => by kernel_rfl, fun S => by kernel_rfl, fun S => by kernel_rfl⟩⟩
theorem lk6_1_5 (N : Nat) (l : List Lk) (c0 c1 c2 c3 c4 c5 : Cf) : LinkOk N l [c0, c1, c2, c3, c4, c5] 1 5 c1 c5 := ⟨fun j r => by kernel_rfl, fun j r => by kernel_rfl, fun j r k v => by kernel_rfl, fun j r => ⟨by kernel_rfl, by kernel_rfl, fun S => by kernel_rfl, fun S => by kernel_rfl, fun S => by kernel_rfl⟩, fun j r => ⟨by kernel_rfl, by kernel_rfl, fun S => by kernel_rfl, fun S => by kernel_rfl, fun S => by kernel_rfl⟩⟩
theorem lk6_2_0 (N : Nat) (l : List Lk) (c0 c1 c2 c3 c4 c5 : Cf) : LinkOk N l [c0, c1, c2, c3, c4, c5] 2 0 c2 c0 := ⟨fun j r => by kernel_rfl, fun j r => by kernel_rfl, fun j r k v => by kernel_rfl, fun j r => ⟨by kernel_rfl, by kernel_rfl, fun S => by kernel_rfl, fun S => by kernel_rfl, fun S => by kernel_rfl⟩, fun j r => ⟨by kernel_rfl, by kernel_rfl, fun S => by kernel_rfl, fun S => by kernel_rfl, fun S => by kernel_rfl⟩⟩
theorem lk6_2_1 (N : Nat) (l : List Lk) (c0 c1 c2 c3 c4 c5 : Cf) : LinkOk N l [c0, c1, c2, c3, c4, c5] 2 1 c2 c1 := ⟨fun j r => by kernel_rfl, fun j r => by kernel_rfl, fun j r k v => by kernel_rfl, fun j r => ⟨by kernel_rfl, by kernel_rfl, fun S => by kernel_rfl, fun S => by kernel_rfl, fun S => by kernel_rfl⟩, fun j r => ⟨by kernel_rfl, by kernel_rfl, fun S => by kernel_rfl, fun S => by kernel_rfl, fun S => by kernel_rfl⟩⟩
theorem lk6_2_3 (N : Nat) (l : List Lk) (c0 c1 c2 c3 c4 c5 : Cf) : LinkOk N l [c0, c1, c2, c3, c4, c5] 2 3 c2 c3 := ⟨fun j r => by kernel_rfl, fun j r => by kernel_rfl, fun j r k v => by kernel_rfl, fun j r => ⟨by kernel_rfl, by kernel_rfl, fun S => by kernel_rfl, fun S => by kernel_rfl, fun S => by kernel_rfl⟩, fun j r => ⟨by kernel_rfl, by kernel_rfl, fun S => by kernel_rfl, fun S => by kernel_rfl, fun S => by kernel_rfl⟩⟩
theorem lk6_2_4 (N : Nat) (l : List Lk) (c0 c1 c2 c3 c4 c5 : Cf) : LinkOk N l [c0, c1, c2, c3, c4, c5] 2 4 c2 c4 := ⟨fun j r => by kernel_rfl, fun j r => by kernel_rfl, fun j r k v => by kernel_rfl, fun j r => ⟨by kernel_rfl, by kernel_rfl, fun S => by kernel_rfl, fun S => by kernel_rfl, fun S => by kernel_rfl⟩, fun j r => ⟨by kernel_rfl, by kernel_rfl, fun S => by kernel_rfl, fun S => by kernel_rfl, fun S => by kernel_rfl⟩⟩
theorem lk6_2_5 (N : Nat) (l : List Lk) (c0 c1 c2 c3 c4 c5 : Cf) : LinkOk N l [c0, c1, c2, c3, c4, c5] 2 5 c2 c5 := ⟨fun j r => by kernel_rfl, fun j r => by kernel_rfl, fun j r k v => by kernel_rfl, fun j r => ⟨by kernel_rfl, by kernel_rfl, fun S => by kernel_rfl, fun S => by kernel_rfl, fun S => by kernel_rfl⟩, fun j r => ⟨by kernel_rfl, by kernel_rfl, fun S => by kernel_rfl, fun S => by kernel_rfl, fun S => by kernel_rfl⟩⟩
theorem lk6_3_0 (N : Nat) (l : List Lk) (c0 c1 c2 c3 c4 c5 : Cf) : LinkOk N l [c0, c1, c2, c3, c4, c5] 3 0 c3 c0 := ⟨fun j r => by kernel_rfl, fun j r => by kernel_rfl, fun j r k v => by kernel_rfl, fun j r => ⟨by kernel_rfl, by kernel_rfl, fun S => by kernel_rfl, fun S => by kernel_rfl, fun S => by kernel_rfl⟩, fun j r => ⟨by kernel_rfl, by kernel_rfl, fun S => by kernel_rfl, fun S => by kernel_rfl, fun S => by kernel_rfl⟩⟩
theorem lk6_3_1 (N : Nat) (l : List Lk) (c0 c1 c2 c3 c4 c5 : Cf) : LinkOk N l [c0, c1, c2, c3, c4, c5] 3 1 c3 c1 := ⟨fun j r => by kernel_rfl, fun j r => by kernel_rfl, fun j r k v => by kernel_rfl, fun j r => ⟨by kernel_rfl, by kernel_rfl, fun S => by kernel_rfl, fun S => by kernel_rfl, fun S => by kernel_rfl⟩, fun j r => ⟨by kernel_rfl, by kernel_rfl, fun S => by kernel_rfl, fun S => by kernel_rfl, fun S => by kernel_rfl⟩⟩
theorem lk6_3_2 (N : Nat) (l : List Lk) (c0 c1 c2 c3 c4 c5 : Cf) : LinkOk N l [c0, c1, c2, c3, c4, c5] 3 2 c3 c2 := ⟨fun j r => by kernel_rfl, fun j r => by kernel_rfl, fun j r k v => by kernel_rfl, fun j r => ⟨by kernel_rfl, by kernel_rfl, fun S => by kernel_rfl, fun S => by kernel_rfl, fun S => by kernel_rfl⟩, fun j r => ⟨by kernel_rfl, by kernel_rfl, fun S => by kernel_rfl, fun S => by kernel_rfl, fun S => by kernel_rfl⟩⟩
theorem lk6_3_4 (N : Nat) (l : List Lk) (c0 c1 c2 c3 c4 c5 : Cf) : LinkOk N l [c0, c1, c2, c3, c4, c5] 3 4 c3 c4 := ⟨fun j r => by kernel_rfl, fun j r => by kernel_rfl, fun j r k v => by kernel_rfl, fun j r => ⟨by kernel_rfl, by kernel_rfl, fun S => by kernel_rfl, fun S => by kernel_rfl, fun S => by kernel_rfl⟩, fun j r => ⟨by kernel_rfl, by kernel_rfl, fun S => by kernel_rfl, fun S => by kernel_rfl, fun S => by kernel_rfl⟩⟩
theorem lk6_3_5 (N : Nat) (l : List Lk) (c0 c1 c2 c3 c4 c5 : Cf) : LinkOk N l [c0, c1, c2, c3, c4, c5] 3 5 c3 c5 := ⟨fun j r => by kernel_rfl, fun j r => by kernel_rfl, fun j r k v => by kernel_rfl, fun j r => ⟨by kernel_rfl, by kernel_rfl, fun S => by kernel_rfl, fun S => by kernel_rfl, fun S => by kernel_rfl⟩, fun j r => ⟨by kernel_rfl, by kernel_rfl, fun S => by kernel_rfl, fun S => by kernel_rfl, fun S => by kernel_rfl⟩⟩
theorem lk6_4_0 (N : Nat) (l : List Lk) (c0 c1 c2 c3 c4 c5 : Cf) : LinkOk N l [c0, c1, c2, c3, c4, c5] 4 0 c4 c0 := ⟨fun j r => by kernel_rfl, fun j r => by kernel_rfl, fun j r k v => by kernel_rfl, fun j r => ⟨by kernel_rfl, by kernel_rfl, fun S => by kernel_rfl, fun S => by kernel_rfl, fun S => by kernel_rfl⟩, fun j r => ⟨by kernel_rfl, by kernel_rfl, fun S => by kernel_rfl, fun S => by kernel_rfl, fun S => by kernel_rfl⟩⟩
theorem lk6_4_1 (N : Nat) (l : List Lk) (c0 c1 c2 c3 c4 c5 : Cf) : LinkOk N l [c0, c1, c2, c3, c4, c5] 4 1 c4 c1 := ⟨fun j r => by kernel_rfl, fun j r => by kernel_rfl, fun j r k v => by kernel_rfl, fun j r => ⟨by kernel_rfl, by kernel_rfl, fun S => by kernel_rfl, fun S => by kernel_rfl, fun S => by kernel_rfl⟩, fun j r => ⟨by kernel_rfl, by kernel_rfl, fun S => by kernel_rfl, fun S => by kernel_rfl, fun S => by kernel_rfl⟩⟩
theorem lk6_4_2 (N : Nat) (l : List Lk) (c0 c1 c2 c3 c4 c5 : Cf) : LinkOk N l [c0, c1, c2, c3, c4, c5] 4 2 c4 c2 := ⟨fun j r => by kernel_rfl, fun j r => by kernel_rfl, fun j r k v => by kernel_rfl, fun j r => ⟨by kernel_rfl, by kernel_rfl, fun S => by kernel_rfl, fun S => by kernel_rfl, fun S => by kernel_rfl⟩, fun j r => ⟨by kernel_rfl, by kernel_rfl, fun S => by kernel_rfl, fun S => by kernel_rfl, fun S => by kernel_rfl⟩⟩
theorem lk6_4_3 (N : Nat) (l : List Lk) (c0 c1 c2 c3 c4 c5 : Cf) : LinkOk N l [c0, c1, c2, c3, c4, c5] 4 3 c4 c3 := ⟨fun j r => by kernel_rfl, fun j r => by kernel_rfl, fun j r k v => by kernel_rfl, fun j r => ⟨by kernel_rfl, by kernel_rfl, fun S => by kernel_rfl, fun S => by kernel_rfl, fun S => by kernel_rfl⟩, fun j r => ⟨by kernel_rfl, by kernel_rfl, fun S => by kernel_rfl, fun S => by kernel_rfl, fun S => by kernel_rfl⟩⟩
theorem lk6_4_5 (N : Nat) (l : List Lk) (c0 c1 c2 c3 c4 c5 : Cf) : LinkOk N l [c0, c1, c2, c3, c4, c5] 4 5 c4 c5 := ⟨fun j r => by kernel_rfl, fun j r => by kernel_rfl, fun j r k v => by kernel_rfl, fun j r => ⟨by kernel_rfl, by kernel_rfl, fun S => by kernel_rfl, fun S => by kernel_rfl, fun S => by kernel_rfl⟩, fun j r => ⟨by kernel_rfl, by kernel_rfl, fun S => by kernel_rfl, fun S => by kernel_rfl, fun S => by kernel_rfl⟩⟩
theorem lk6_5_0 (N : Nat) (l : List Lk) (c0 c1 c2 c3 c4 c5 : Cf) : LinkOk N l [c0, c1, c2, c3, c4, c5] 5 0 c5 c0 := ⟨fun j r => by kernel_rfl, fun j r => by kernel_rfl, fun j r k v => by kernel_rfl, fun j r => ⟨by kernel_rfl, by kernel_rfl, fun S => by kernel_rfl, fun S => by kernel_rfl, fun S => by kernel_rfl⟩, fun j r => ⟨by kernel_rfl, by kernel_rfl, fun S => by kernel_rfl, fun S => by kernel_rfl, fun S => by kernel_rfl⟩⟩
theorem lk6_5_1 (N : Nat) (l : List Lk) (c0 c1 c2 c3 c4 c5 : Cf) : LinkOk N l [c0, c1, c2, c3, c4, c5] 5 1 c5 c1 := ⟨fun j r => by kernel_rfl, fun j r => by kernel_rfl, fun j r k v => by kernel_rfl, fun j r => ⟨by kernel_rfl, by kernel_rfl, fun S => by kernel_rfl, fun S => by kernel_rfl, fun S => by kernel_rfl⟩, fun j r => ⟨by kernel_rfl, by kernel_rfl, fun S => by kernel_rfl, fun S => by kernel_rfl, fun S => by kernel_rfl⟩⟩
theorem lk6_5_2 (N : Nat) (l : List Lk) (c0 c1 c2 c3 c4 c5 : Cf) : LinkOk N l [c0, c1, c2, c3, c4, c5] 5 2 c5 c2 := ⟨fun j r => by kernel_rfl, fun j r => by kernel_rfl, fun j r k v => by kernel_rfl, fun j r => ⟨by kernel_rfl, by kernel_rfl, fun S => by kernel_rfl, fun S => by kernel_rfl, fun S => by kernel_rfl⟩, fun j r => ⟨by kernel_rfl, by kernel_rfl, fun S => by kernel_rfl, fun S => by kernel_rfl, fun S => by kernel_rfl⟩⟩
theorem lk6_5_3 (N : Nat) (l : List Lk) (c0 c1 c2 c3 c4 c5 : Cf) : LinkOk N l [c0, c1, c2, c3, c4, c5] 5 3 c5 c3 := ⟨fun j r => by kernel_rfl, fun j r => by kernel_rfl, fun j r k v => by kernel_rfl, fun j r => ⟨by kernel_rfl, by kernel_rfl, fun S => by kernel_rfl, fun S => by kernel_rfl, fun S => by kernel_rfl⟩, fun j r => ⟨by kernel_rfl, by kernel_rfl, fun S => by kernel_rfl, fun S => by kernel_rfl, fun S => by kernel_rfl⟩⟩
theorem lk6_5_4 (N : Nat) (l : List Lk) (c0 c1 c2 c3 c4 c5 : Cf) : LinkOk N l [c0, c1, c2, c3, c4, c5] 5 4 c5 c4 := ⟨fun j r => by kernel_rfl, fun j r => by kernel_rfl, fun j r k v => by kernel_rfl, fun j r => ⟨by kernel_rfl, by kernel_rfl, fun S => by kernel_rfl, fun S => by kernel_rfl, fun S => by kernel_rfl⟩, fun j r => ⟨by kernel_rfl, by kernel_rfl, fun S => by kernel_rfl, fun S => by kernel_rfl, fun S => by kernel_rfl⟩⟩
theorem lk6 {N : Nat} {l : List Lk} {c0 c1 c2 c3 c4 c5 ca cb : Cf} : ∀ {a b : Nat}, a ≠ b → [c0, c1, c2, c3, c4, c5][a]? = some ca → [c0, c1, c2, c3, c4, c5][b]? = some cb → LinkOk N l [c0, c1, c2, c3, c4, c5] a b ca cb
  | 0, 0, h, _, _ => absurd rfl h
  | 0, 1, _, ha, hb => by cases ha; cases hb; exact lk6_0_1 N l c0 c1 c2 c3 c4 c5
  | 0, 2, _, ha, hb => by cases ha; cases hb; exact lk6_0_2 N l c0 c1 c2 c3 c4 c5
  | 0, 3, _, ha, hb => by cases ha; cases hb; exact lk6_0_3 N l c0 c1 c2 c3 c4 c5
  | 0, 4, _, ha, hb => by cases ha; cases hb; exact lk6_0_4 N l c0 c1 c2 c3 c4 c5
  | 0, 5, _, ha, hb => by cases ha; cases hb; exact lk6_0_5 N l c0 c1 c2 c3 c4 c5
  | 0, b + 6, _, _, hb => by simp at hb
  | 1, 0, _, ha, hb => by cases ha; cases hb; exact lk6_1_0 N l c0 c1 c2 c3 c4 c5
  | 1, 1, h, _, _ => absurd rfl h
  | 1, 2, _, ha, hb => by cases ha; cases hb; exact lk6_1_2 N l c0 c1 c2 c3 c4 c5
  | 1, 3, _, ha, hb => by cases ha; cases hb; exact lk6_1_3 N l c0 c1 c2 c3 c4 c5
  | 1, 4, _, ha, hb => by cases ha; cases hb; exact lk6_1_4 N l c0 c1 c2 c3 c4 c5
  | 1, 5, _, ha, hb => by cases ha; cases hb; exact lk6_1_5 N l c0 c1 c2 c3 c4 c5
  | 1, b + 6, _, _, hb => by simp at hb
  | 2, 0, _, ha, hb => by cases ha; cases hb; exact lk6_2_0 N l c0 c1 c2 c3 c4 c5
  | 2, 1, _, ha, hb => by cases ha; cases hb; exact lk6_2_1 N l c0 c1 c2 c3 c4 c5
  | 2, 2, h, _, _ => absurd rfl h
  | 2, 3, _, ha, hb => by cases ha; cases hb; exact lk6_2_3 N l c0 c1 c2 c3 c4 c5
  | 2, 4, _, ha, hb => by cases ha; cases hb; exact lk6_2_4 N l c0 c1 c2 c3 c4 c5
  | 2, 5, _, ha, hb => by cases ha; cases hb; exact lk6_2_5 N l c0 c1 c2 c3 c4 c5
  | 2, b + 6, _, _, hb => by simp at hb
  | 3, 0, _, ha, hb => by cases ha; cases hb; exact lk6_3_0 N l c0 c1 c2 c3 c4 c5
  | 3, 1, _, ha, hb => by cases ha; cases hb; exact lk6_3_1 N l c0 c1 c2 c3 c4 c5
  | 3, 2, _, ha, hb => by cases ha; cases hb; exact lk6_3_2 N l c0 c1 c2 c3 c4 c5
  | 3, 3, h, _, _ => absurd rfl h
  | 3, 4, _, ha, hb => by cases ha; cases hb; exact lk6_3_4 N l c0 c1 c2 c3 c4 c5
  | 3, 5, _, ha, hb => by cases ha; cases hb; exact lk6_3_5 N l c0 c1 c2 c3 c4 c5
  | 3, b + 6, _, _, hb => by simp at hb
  | 4, 0, _, ha, hb => by cases ha; cases hb; exact lk6_4_0 N l c0 c1 c2 c3 c4 c5
  | 4, 1, _, ha, hb => by cases ha; cases hb; exact lk6_4_1 N l c0 c1 c2 c3 c4 c5
  | 4, 2, _, ha, hb => by cases ha; cases hb; exact lk6_4_2 N l c0 c1 c2 c3 c4 c5
  | 4, 3, _, ha, hb => by cases ha; cases hb; exact lk6_4_3 N l c0 c1 c2 c3 c4 c5
  | 4, 4, h, _, _ => absurd rfl h
  | 4, 5, _, ha, hb => by cases ha; cases hb; exact lk6_4_5 N l c0 c1 c2 c3 c4 c5
  | 4, b + 6, _, _, hb => by simp at hb
  | 5, 0, _, ha, hb => by cases ha; cases hb; exact lk6_5_0 N l c0 c1 c2 c3 c4 c5
  | 5, 1, _, ha, hb => by cases ha; cases hb; exact lk6_5_1 N l c0 c1 c2 c3 c4 c5
  | 5, 2, _, ha, hb => by cases ha; cases hb; exact lk6_5_2 N l c0 c1 c2 c3 c4 c5
  | 5, 3, _, ha, hb => by cases ha; cases hb; exact lk6_5_3 N l c0 c1 c2 c3 c4 c5
  | 5, 4, _, ha, hb => by cases ha; cases hb; exact lk6_5_4 N l c0 c1 c2 c3 c4 c5
  | 5, 5, h, _, _ => absurd rfl h
  | 5, b + 6, _, _, hb => by simp at hb
  | a + 6, _, _, ha, _ => by simp at ha
theorem lk4_0_1 (N : Nat) (l : List Lk) (c0 c1 c2 c3 : Cf) : LinkOk N l [c0, c1, c2, c3] 0 1 c0 c1 := ⟨fun j r => by kernel_rfl, fun j r => by kernel_rfl, fun j r k v => by kernel_rfl, fun j r => ⟨by kernel_rfl, by kernel_rfl, fun S => by kernel_rfl, fun S => by kernel_rfl, fun S => by kernel_rfl⟩, fun j r => ⟨by kernel_rfl, by kernel_rfl, fun S => by kernel_rfl, fun S => by kernel_rfl, fun S => by kernel_rfl⟩⟩
theorem lk4_0_2 (N : Nat) (l : List Lk) (c0 c1 c2 c3 : Cf) : LinkOk N l [c0, c1, c2, c3] 0 2 c0 c2 := ⟨fun j r => by kernel_rfl, fun j r => by kernel_rfl, fun j r k v => by kernel_rfl, fun j r => ⟨by kernel_rfl, by kernel_rfl, fun S => by kernel_rfl, fun S => by kernel_rfl, fun S => by kernel_rfl⟩, fun j r => ⟨by kernel_rfl, by kernel_rfl, fun S => by kernel_rfl, fun S => by kernel_rfl, fun S => by kernel_rfl⟩⟩
theorem lk4_0_3 (N : Nat) (l : List Lk) (c0 c1 c2 c3 : Cf) : LinkOk N l [c0, c1, c2, c3] 0 3 c0 c3 := ⟨fun j r => by kernel_rfl, fun j r => by kernel_rfl, fun j r k v => by kernel_rfl, fun j r => ⟨by kernel_rfl, by kernel_rfl, fun S => by kernel_rfl, fun S => by kernel_rfl, fun S => by kernel_rfl⟩, fun j r => ⟨by kernel_rfl, by kernel_rfl, fun S => by kernel_rfl, fun S => by kernel_rfl, fun S => by kernel_rfl⟩⟩
theorem lk4_1_0 (N : Nat) (l : List Lk) (c0 c1 c2 c3 : Cf) : LinkOk N l [c0, c1, c2, c3] 1 0 c1 c0 := ⟨fun j r => by kernel_rfl, fun j r => by kernel_rfl, fun j r k v => by kernel_rfl, fun j r => ⟨by kernel_rfl, by kernel_rfl, fun S => by kernel_rfl, fun S => by kernel_rfl, fun S => by kernel_rfl⟩, fun j r => ⟨by kernel_rfl, by kernel_rfl, fun S => by kernel_rfl, fun S => by kernel_rfl, fun S => by kernel_rfl⟩⟩
theorem lk4_1_2 (N : Nat) (l : List Lk) (c0 c1 c2 c3 : Cf) : LinkOk N l [c0, c1, c2, c3] 1 2 c1 c2 := ⟨fun j r => by kernel_rfl, fun j r => by kernel_rfl, fun j r k v => by kernel_rfl, fun j r => ⟨by kernel_rfl, by kernel_rfl, fun S => by kernel_rfl, fun S => by kernel_rfl, fun S => by kernel_rfl⟩, fun j r => ⟨by kernel_rfl, by kernel_rfl, fun S => by kernel_rfl, fun S => by kernel_rfl, fun S => by kernel_rfl⟩⟩
theorem lk4_1_3 (N : Nat) (l : List Lk) (c0 c1 c2 c3 : Cf) : LinkOk N l [c0, c1, c2, c3] 1 3 c1 c3 := ⟨fun j r => by kernel_rfl, fun j r => by kernel_rfl, fun j r k v => by kernel_rfl, fun j r => ⟨by kernel_rfl, by kernel_rfl, fun S => by kernel_rfl, fun S => by kernel_rfl, fun S => by kernel_rfl⟩, fun j r => ⟨by kernel_rfl, by kernel_rfl, fun S => by kernel_rfl, fun S => by kernel_rfl, fun S => by kernel_rfl⟩⟩
theorem lk4_2_0 (N : Nat) (l : List Lk) (c0 c1 c2 c3 : Cf) : LinkOk N l [c0, c1, c2, c3] 2 0 c2 c0 := ⟨fun j r => by kernel_rfl, fun j r => by kernel_rfl, fun j r k v => by kernel_rfl, fun j r => ⟨by kernel_rfl, by kernel_rfl, fun S => by kernel_rfl, fun S => by kernel_rfl, fun S => by kernel_rfl⟩, fun j r => ⟨by kernel_rfl, by kernel_rfl, fun S => by kernel_rfl, fun S => by kernel_rfl, fun S => by kernel_rfl⟩⟩
theorem lk4_2_1 (N : Nat) (l : List Lk) (c0 c1 c2 c3 : Cf) : LinkOk N l [c0, c1, c2, c3] 2 1 c2 c1 := ⟨fun j r => by kernel_rfl, fun j r => by kernel_rfl, fun j r k v => by kernel_rfl, fun j r => ⟨by kernel_rfl, by kernel_rfl, fun S => by kernel_rfl, fun S => by kernel_rfl, fun S => by kernel_rfl⟩, fun j r => ⟨by kernel_rfl, by kernel_rfl, fun S => by kernel_rfl, fun S => by kernel_rfl, fun S => by kernel_rfl⟩⟩
theorem lk4_2_3 (N : Nat) (l : List Lk) (c0 c1 c2 c3 : Cf) : LinkOk N l [c0, c1, c2, c3] 2 3 c2 c3 := ⟨fun j r => by kernel_rfl, fun j r => by kernel_rfl, fun j r k v => by kernel_rfl, fun j r => ⟨by kernel_rfl, by kernel_rfl, fun S => by kernel_rfl, fun S => by kernel_rfl, fun S => by kernel_rfl⟩, fun j r => ⟨by kernel_rfl, by kernel_rfl, fun S => by kernel_rfl, fun S => by kernel_rfl, fun S => by kernel_rfl⟩⟩
theorem lk4_3_0 (N : Nat) (l : List Lk) (c0 c1 c2 c3 : Cf) : LinkOk N l [c0, c1, c2, c3] 3 0 c3 c0 := ⟨fun j r => by kernel_rfl, fun j r => by kernel_rfl, fun j r k v => by kernel_rfl, fun j r => ⟨by kernel_rfl, by kernel_rfl, fun S => by kernel_rfl, fun S => by kernel_rfl, fun S => by kernel_rfl⟩, fun j r => ⟨by kernel_rfl, by kernel_rfl, fun S => by kernel_rfl, fun S => by kernel_rfl, fun S => by kernel_rfl⟩⟩
theorem lk4_3_1 (N : Nat) (l : List Lk) (c0 c1 c2 c3 : Cf) : LinkOk N l [c0, c1, c2, c3] 3 1 c3 c1 := ⟨fun j r => by kernel_rfl, fun j r => by kernel_rfl, fun j r k v => by kernel_rfl, fun j r => ⟨by kernel_rfl, by kernel_rfl, fun S => by kernel_rfl, fun S => by kernel_rfl, fun S => by kernel_rfl⟩, fun j r => ⟨by kernel_rfl, by kernel_rfl, fun S => by kernel_rfl, fun S => by kernel_rfl, fun S => by kernel_rfl⟩⟩
theorem lk4_3_2 (N : Nat) (l : List Lk) (c0 c1 c2 c3 : Cf) : LinkOk N l [c0, c1, c2, c3] 3 2 c3 c2 := ⟨fun j r => by kernel_rfl, fun j r => by kernel_rfl, fun j r k v => by kernel_rfl, fun j r => ⟨by kernel_rfl, by kernel_rfl, fun S => by kernel_rfl, fun S => by kernel_rfl, fun S => by kernel_rfl⟩, fun j r => ⟨by kernel_rfl, by kernel_rfl, fun S => by kernel_rfl, fun S => by kernel_rfl, fun S => by kernel_rfl⟩⟩
theorem lk4 {N : Nat} {l : List Lk} {c0 c1 c2 c3 ca cb : Cf} : ∀ {a b : Nat}, a ≠ b → [c0, c1, c2, c3][a]? = some ca → [c0, c1, c2, c3][b]? = some cb → LinkOk N l [c0, c1, c2, c3] a b ca cb
  | 0, 0, h, _, _ => absurd rfl h
  | 0, 1, _, ha, hb => by cases ha; cases hb; exact lk4_0_1 N l c0 c1 c2 c3
  | 0, 2, _, ha, hb => by cases ha; cases hb; exact lk4_0_2 N l c0 c1 c2 c3
  | 0, 3, _, ha, hb => by cases ha; cases hb; exact lk4_0_3 N l c0 c1 c2 c3
  | 0, b + 4, _, _, hb => by simp at hb
  | 1, 0, _, ha, hb => by cases ha; cases hb; exact lk4_1_0 N l c0 c1 c2 c3
  | 1, 1, h, _, _ => absurd rfl h
  | 1, 2, _, ha, hb => by cases ha; cases hb; exact lk4_1_2 N l c0 c1 c2 c3
  | 1, 3, _, ha, hb => by cases ha; cases hb; exact lk4_1_3 N l c0 c1 c2 c3
  | 1, b + 4, _, _, hb => by simp at hb
  | 2, 0, _, ha, hb => by cases ha; cases hb; exact lk4_2_0 N l c0 c1 c2 c3
  | 2, 1, _, ha, hb => by cases ha; cases hb; exact lk4_2_1 N l c0 c1 c2 c3
  | 2, 2, h, _, _ => absurd rfl h
  | 2, 3, _, ha, hb => by cases ha; cases hb; exact lk4_2_3 N l c0 c1 c2 c3
  | 2, b + 4, _, _, hb => by simp at hb
  | 3, 0, _, ha, hb => by cases ha; cases hb; exact lk4_3_0 N l c0 c1 c2 c3
  | 3, 1, _, ha, hb => by cases ha; cases hb; exact lk4_3_1 N l c0 c1 c2 c3
  | 3, 2, _, ha, hb => by cases ha; cases hb; exact lk4_3_2 N l c0 c1 c2 c3
  | 3, 3, h, _, _ => absurd rfl h
  | 3, b + 4, _, _, hb => by simp at hb
  | a + 4, _, _, ha, _ => by simp at ha
end Go.Sim

/- topo.Gao's round over a link, node by node (printed by wip/tools/geng16d.py). -/
namespace Go.Sim
open Go.RowKit Go.Proofs
set_option linter.unusedVariables false
set_option linter.unusedSimpArgs false
set_option linter.unusedSectionVars false
set_option maxRecDepth 100000
variable [Lv]
theorem lk5_0_1 (N : Nat) (l : List Lk) (c0 c1 c2 c3 c4 : Cf) : LinkOk N l [c0, c1, c2, c3, c4] 0 1 c0 c1 := ⟨fun j r => by kernel_rfl, fun j r => by kernel_rfl, fun j r k v => by kernel_rfl, fun j r => ⟨by kernel_rfl, by kernel_rfl, fun S => by kernel_rfl, fun S => by kernel_rfl, fun S => by kernel_rfl⟩, fun j r => ⟨by kernel_rfl, by kernel_rfl, fun S => by kernel_rfl, fun S => by kernel_rfl, fun S => by kernel_rfl⟩⟩
theorem lk5_0_2 (N : Nat) (l : List Lk) (c0 c1 c2 c3 c4 : Cf) : LinkOk N l [c0, c1, c2, c3, c4] 0 2 c0 c2 := ⟨fun j r => by kernel_rfl, fun j r => by kernel_rfl, fun j r k v => by kernel_rfl, fun j r => ⟨by kernel_rfl, by kernel_rfl, fun S => by kernel_rfl, fun S => by kernel_rfl, fun S => by kernel_rfl⟩, fun j r => ⟨by kernel_rfl, by kernel_rfl, fun S => by kernel_rfl, fun S => by kernel_rfl, fun S => by kernel_rfl⟩⟩
theorem lk5_0_3 (N : Nat) (l : List Lk) (c0 c1 c2 c3 c4 : Cf) : LinkOk N l [c0, c1, c2, c3, c4] 0 3 c0 c3 := ⟨fun j r => by kernel_rfl, fun j r => by kernel_rfl, fun j r k v => by kernel_rfl, fun j r => ⟨by kernel_rfl, by kernel_rfl, fun S => by kernel_rfl, fun S => by kernel_rfl, fun S => by kernel_rfl⟩, fun j r => ⟨by kernel_rfl, by kernel_rfl, fun S => by kernel_rfl, fun S => by kernel_rfl, fun S => by kernel_rfl⟩⟩
theorem lk5_0_4 (N : Nat) (l : List Lk) (c0 c1 c2 c3 c4 : Cf) : LinkOk N l [c0, c1, c2, c3, c4] 0 4 c0 c4 := ⟨fun j r => by kernel_rfl, fun j r => by kernel_rfl, fun j r k v => by kernel_rfl, fun j r => ⟨by kernel_rfl, by kernel_rfl, fun S => by kernel_rfl, fun S => by kernel_rfl, fun S => by kernel_rfl⟩, fun j r => ⟨by kernel_rfl, by kernel_rfl, fun S => by kernel_rfl, fun S => by kernel_rfl, fun S => by kernel_rfl⟩⟩
theorem lk5_1_0 (N : Nat) (l : List Lk) (c0 c1 c2 c3 c4 : Cf) : LinkOk N l [c0, c1, c2, c3, c4] 1 0 c1 c0 := ⟨fun j r => by kernel_rfl, fun j r => by kernel_rfl, fun j r k v => by kernel_rfl, fun j r => ⟨by kernel_rfl, by kernel_rfl, fun S => by kernel_rfl, fun S => by kernel_rfl, fun S => by kernel_rfl⟩, fun j r => ⟨by kernel_rfl, by kernel_rfl, fun S => by kernel_rfl, fun S => by kernel_rfl, fun S => by kernel_rfl⟩⟩
theorem lk5_1_2 (N : Nat) (l : List Lk) (c0 c1 c2 c3 c4 : Cf) : LinkOk N l [c0, c1, c2, c3, c4] 1 2 c1 c2 := ⟨fun j r => by kernel_rfl, fun j r => by kernel_rfl, fun j r k v => by kernel_rfl, fun j r => ⟨by kernel_rfl, by kernel_rfl, fun S => by kernel_rfl, fun S => by kernel_rfl, fun S => by kernel_rfl⟩, fun j r => ⟨by kernel_rfl, by kernel_rfl, fun S => by kernel_rfl, fun S => by kernel_rfl, fun S => by kernel_rfl⟩⟩
theorem lk5_1_3 (N : Nat) (l : List Lk) (c0 c1 c2 c3 c4 : Cf) : LinkOk N l [c0, c1, c2, c3, c4] 1 3 c1 c3 := ⟨fun j r => by kernel_rfl, fun j r => by kernel_rfl, fun j r k v => by kernel_rfl, fun j r => ⟨by kernel_rfl, by kernel_rfl, fun S => by kernel_rfl, fun S => by kernel_rfl, fun S => by kernel_rfl⟩, fun j r => ⟨by kernel_rfl, by kernel_rfl, fun S => by kernel_rfl, fun S => by kernel_rfl, fun S => by kernel_rfl⟩⟩
theorem lk5_1_4 (N : Nat) (l : List Lk) (c0 c1 c2 c3 c4 : Cf) : LinkOk N l [c0, c1, c2, c3, c4] 1 4 c1 c4 := ⟨fun j r => by kernel_rfl, fun j r => by kernel_rfl, fun j r k v => by kernel_rfl, fun j r => ⟨by kernel_rfl, by kernel_rfl, fun S => by kernel_rfl, fun S => by kernel_rfl, fun S => by kernel_rfl⟩, fun j r => ⟨by kernel_rfl, by kernel_rfl, fun S => by kernel_rfl, fun S => by kernel_rfl, fun S => by kernel_rfl⟩⟩
theorem lk5_2_0 (N : Nat) (l : List Lk) (c0 c1 c2 c3 c4 : Cf) : LinkOk N l [c0, c1, c2, c3, c4] 2 0 c2 c0 := ⟨fun j r => by kernel_rfl, fun j r => by kernel_rfl, fun j r k v => by kernel_rfl, fun j r => ⟨by kernel_rfl, by kernel_rfl, fun S => by kernel_rfl, fun S => by kernel_rfl, fun S => by kernel_rfl⟩, fun j r => ⟨by kernel_rfl, by kernel_rfl, fun S => by kernel_rfl, fun S => by kernel_rfl, fun S => by kernel_rfl⟩⟩
theorem lk5_2_1 (N : Nat) (l : List Lk) (c0 c1 c2 c3 c4 : Cf) : LinkOk N l [c0, c1, c2, c3, c4] 2 1 c2 c1 := ⟨fun j r => by kernel_rfl, fun j r => by kernel_rfl, fun j r k v => by kernel_rfl, fun j r => ⟨by kernel_rfl, by kernel_rfl, fun S => by kernel_rfl, fun S => by kernel_rfl, fun S => by kernel_rfl⟩, fun j r => ⟨by kernel_rfl, by kernel_rfl, fun S => by kernel_rfl, fun S => by kernel_rfl, fun S => by kernel_rfl⟩⟩
theorem lk5_2_3 (N : Nat) (l : List Lk) (c0 c1 c2 c3 c4 : Cf) : LinkOk N l [c0, c1, c2, c3, c4] 2 3 c2 c3 := ⟨fun j r => by kernel_rfl, fun j r => by kernel_rfl, fun j r k v => by kernel_rfl, fun j r => ⟨by kernel_rfl, by kernel_rfl, fun S => by kernel_rfl, fun S => by kernel_rfl, fun S => by kernel_rfl⟩, fun j r => ⟨by kernel_rfl, by kernel_rfl, fun S => by kernel_rfl, fun S => by kernel_rfl, fun S => by kernel_rfl⟩⟩
theorem lk5_2_4 (N : Nat) (l : List Lk) (c0 c1 c2 c3 c4 : Cf) : LinkOk N l [c0, c1, c2, c3, c4] 2 4 c2 c4 := ⟨fun j r => by kernel_rfl, fun j r => by kernel_rfl, fun j r k v => by kernel_rfl, fun j r => ⟨by kernel_rfl, by kernel_rfl, fun S => by kernel_rfl, fun S => by kernel_rfl, fun S => by kernel_rfl⟩, fun j r => ⟨by kernel_rfl, by kernel_rfl, fun S => by kernel_rfl, fun S => by kernel_rfl, fun S => by kernel_rfl⟩⟩
theorem lk5_3_0 (N : Nat) (l : List Lk) (c0 c1 c2 c3 c4 : Cf) : LinkOk N l [c0, c1, c2, c3, c4] 3 0 c3 c0 := ⟨fun j r => by kernel_rfl, fun j r => by kernel_rfl, fun j r k v => by kernel_rfl, fun j r => ⟨by kernel_rfl, by kernel_rfl, fun S => by kernel_rfl, fun S => by kernel_rfl, fun S => by kernel_rfl⟩, fun j r => ⟨by kernel_rfl, by kernel_rfl, fun S => by kernel_rfl, fun S => by kernel_rfl, fun S => by kernel_rfl⟩⟩
theorem lk5_3_1 (N : Nat) (l : List Lk) (c0 c1 c2 c3 c4 : Cf) : LinkOk N l [c0, c1, c2, c3, c4] 3 1 c3 c1 := ⟨fun j r => by kernel_rfl, fun j r => by kernel_rfl, fun j r k v => by kernel_rfl, fun j r => ⟨by kernel_rfl, by kernel_rfl, fun S => by kernel_rfl, fun S => by kernel_rfl, fun S => by kernel_rfl⟩, fun j r => ⟨by kernel_rfl, by kernel_rfl, fun S => by kernel_rfl, fun S => by kernel_rfl, fun S => by kernel_rfl⟩⟩
theorem lk5_3_2 (N : Nat) (l : List Lk) (c0 c1 c2 c3 c4 : Cf) : LinkOk N l [c0, c1, c2, c3, c4] 3 2 c3 c2 := ⟨fun j r => by kernel_rfl, fun j r => by kernel_rfl, fun j r k v => by kernel_rfl, fun j r => ⟨by kernel_rfl, by kernel_rfl, fun S => by kernel_rfl, fun S => by kernel_rfl, fun S => by kernel_rfl⟩, fun j r => ⟨by kernel_rfl, by kernel_rfl, fun S => by kernel_rfl, fun S => by kernel_rfl, fun S => by kernel_rfl⟩⟩
theorem lk5_3_4 (N : Nat) (l : List Lk) (c0 c1 c2 c3 c4 : Cf) : LinkOk N l [c0, c1, c2, c3, c4] 3 4 c3 c4 := ⟨fun j r => by kernel_rfl, fun j r => by kernel_rfl, fun j r k v => by kernel_rfl, fun j r => ⟨by kernel_rfl, by kernel_rfl, fun S => by kernel_rfl, fun S => by kernel_rfl, fun S => by kernel_rfl⟩, fun j r => ⟨by kernel_rfl, by kernel_rfl, fun S => by kernel_rfl, fun S => by kernel_rfl, fun S => by kernel_rfl⟩⟩
theorem lk5_4_0 (N : Nat) (l : List Lk) (c0 c1 c2 c3 c4 : Cf) : LinkOk N l [c0, c1, c2, c3, c4] 4 0 c4 c0 := ⟨fun j r => by kernel_rfl, fun j r => by kernel_rfl, fun j r k v => by kernel_rfl, fun j r => ⟨by kernel_rfl, by kernel_rfl, fun S => by kernel_rfl, fun S => by kernel_rfl, fun S => by kernel_rfl⟩, fun j r => ⟨by kernel_rfl, by kernel_rfl, fun S => by kernel_rfl, fun S => by kernel_rfl, fun S => by kernel_rfl⟩⟩
theorem lk5_4_1 (N : Nat) (l : List Lk) (c0 c1 c2 c3 c4 : Cf) : LinkOk N l [c0, c1, c2, c3, c4] 4 1 c4 c1 := ⟨fun j r => by kernel_rfl, fun j r => by kernel_rfl, fun j r k v => by kernel_rfl, fun j r => ⟨by kernel_rfl, by kernel_rfl, fun S => by kernel_rfl, fun S => by kernel_rfl, fun S => by kernel_rfl⟩, fun j r => ⟨by kernel_rfl, by kernel_rfl, fun S => by kernel_rfl, fun S => by kernel_rfl, fun S => by kernel_rfl⟩⟩
theorem lk5_4_2 (N : Nat) (l : List Lk) (c0 c1 c2 c3 c4 : Cf) : LinkOk N l [c0, c1, c2, c3, c4] 4 2 c4 c2 := ⟨fun j r => by kernel_rfl, fun j r => by kernel_rfl, fun j r k v => by kernel_rfl, fun j r => ⟨by kernel_rfl, by kernel_rfl, fun S => by kernel_rfl, fun S => by kernel_rfl, fun S => by kernel_rfl⟩, fun j r => ⟨by kernel_rfl, by kernel_rfl, fun S => by kernel_rfl, fun S => by kernel_rfl, fun S => by kernel_rfl⟩⟩
theorem lk5_4_3 (N : Nat) (l : List Lk) (c0 c1 c2 c3 c4 : Cf) : LinkOk N l [c0, c1, c2, c3, c4] 4 3 c4 c3 := ⟨fun j r => by kernel_rfl, fun j r => by kernel_rfl, fun j r k v => by kernel_rfl, fun j r => ⟨by kernel_rfl, by kernel_rfl, fun S => by kernel_rfl, fun S => by kernel_rfl, fun S => by kernel_rfl⟩, fun j r => ⟨by kernel_rfl, by kernel_rfl, fun S => by kernel_rfl, fun S => by kernel_rfl, fun S => by kernel_rfl⟩⟩
theorem lk5 {N : Nat} {l : List Lk} {c0 c1 c2 c3 c4 ca cb : Cf} : ∀ {a b : Nat}, a ≠ b → [c0, c1, c2, c3, c4][a]? = some ca → [c0, c1, c2, c3, c4][b]? = some cb → LinkOk N l [c0, c1, c2, c3, c4] a b ca cb
  | 0, 0, h, _, _ => absurd rfl h
  | 0, 1, _, ha, hb => by cases ha; cases hb; exact lk5_0_1 N l c0 c1 c2 c3 c4
  | 0, 2, _, ha, hb => by cases ha; cases hb; exact lk5_0_2 N l c0 c1 c2 c3 c4
  | 0, 3, _, ha, hb => by cases ha; cases hb; exact lk5_0_3 N l c0 c1 c2 c3 c4
  | 0, 4, _, ha, hb => by cases ha; cases hb; exact lk5_0_4 N l c0 c1 c2 c3 c4
  | 0, b + 5, _, _, hb => by simp at hb
  | 1, 0, _, ha, hb => by cases ha; cases hb; exact lk5_1_0 N l c0 c1 c2 c3 c4
  | 1, 1, h, _, _ => absurd rfl h
  | 1, 2, _, ha, hb => by cases ha; cases hb; exact lk5_1_2 N l c0 c1 c2 c3 c4
  | 1, 3, _, ha, hb => by cases ha; cases hb; exact lk5_1_3 N l c0 c1 c2 c3 c4
  | 1, 4, _, ha, hb => by cases ha; cases hb; exact lk5_1_4 N l c0 c1 c2 c3 c4
  | 1, b + 5, _, _, hb => by simp at hb
  | 2, 0, _, ha, hb => by cases ha; cases hb; exact lk5_2_0 N l c0 c1 c2 c3 c4
  | 2, 1, _, ha, hb => by cases ha; cases hb; exact lk5_2_1 N l c0 c1 c2 c3 c4
  | 2, 2, h, _, _ => absurd rfl h
  | 2, 3, _, ha, hb => by cases ha; cases hb; exact lk5_2_3 N l c0 c1 c2 c3 c4
  | 2, 4, _, ha, hb => by cases ha; cases hb; exact lk5_2_4 N l c0 c1 c2 c3 c4
  | 2, b + 5, _, _, hb => by simp at hb
  | 3, 0, _, ha, hb => by cases ha; cases hb; exact lk5_3_0 N l c0 c1 c2 c3 c4
  | 3, 1, _, ha, hb => by cases ha; cases hb; exact lk5_3_1 N l c0 c1 c2 c3 c4
  | 3, 2, _, ha, hb => by cases ha; cases hb; exact lk5_3_2 N l c0 c1 c2 c3 c4
  | 3, 3, h, _, _ => absurd rfl h
  | 3, 4, _, ha, hb => by cases ha; cases hb; exact lk5_3_4 N l c0 c1 c2 c3 c4
  | 3, b + 5, _, _, hb => by simp at hb
  | 4, 0, _, ha, hb => by cases ha; cases hb; exact lk5_4_0 N l c0 c1 c2 c3 c4
  | 4, 1, _, ha, hb => by cases ha; cases hb; exact lk5_4_1 N l c0 c1 c2 c3 c4
  | 4, 2, _, ha, hb => by cases ha; cases hb; exact lk5_4_2 N l c0 c1 c2 c3 c4
  | 4, 3, _, ha, hb => by cases ha; cases hb; exact lk5_4_3 N l c0 c1 c2 c3 c4
  | 4, 4, h, _, _ => absurd rfl h
  | 4, b + 5, _, _, hb => by simp at hb
  | a + 5, _, _, ha, _ => by simp at ha
theorem lk3_0_1 (N : Nat) (l : List Lk) (c0 c1 c2 : Cf) : LinkOk N l [c0, c1, c2] 0 1 c0 c1 := ⟨fun j r => by kernel_rfl, fun j r => by kernel_rfl, fun j r k v => by kernel_rfl, fun j r => ⟨by kernel_rfl, by kernel_rfl, fun S => by kernel_rfl, fun S => by kernel_rfl, fun S => by kernel_rfl⟩, fun j r => ⟨by kernel_rfl, by kernel_rfl, fun S => by kernel_rfl, fun S => by kernel_rfl, fun S => by kernel_rfl⟩⟩
theorem lk3_0_2 (N : Nat) (l : List Lk) (c0 c1 c2 : Cf) : LinkOk N l [c0, c1, c2] 0 2 c0 c2 := ⟨fun j r => by kernel_rfl, fun j r => by kernel_rfl, fun j r k v => by kernel_rfl, fun j r => ⟨by kernel_rfl, by kernel_rfl, fun S => by kernel_rfl, fun S => by kernel_rfl, fun S => by kernel_rfl⟩, fun j r => ⟨by kernel_rfl, by kernel_rfl, fun S => by kernel_rfl, fun S => by kernel_rfl, fun S => by kernel_rfl⟩⟩
theorem lk3_1_0 (N : Nat) (l : List Lk) (c0 c1 c2 : Cf) : LinkOk N l [c0, c1, c2] 1 0 c1 c0 := ⟨fun j r => by kernel_rfl, fun j r => by kernel_rfl, fun j r k v => by kernel_rfl, fun j r => ⟨by kernel_rfl, by kernel_rfl, fun S => by kernel_rfl, fun S => by kernel_rfl, fun S => by kernel_rfl⟩, fun j r => ⟨by kernel_rfl, by kernel_rfl, fun S => by kernel_rfl, fun S => by kernel_rfl, fun S => by kernel_rfl⟩⟩
theorem lk3_1_2 (N : Nat) (l : List Lk) (c0 c1 c2 : Cf) : LinkOk N l [c0, c1, c2] 1 2 c1 c2 := ⟨fun j r => by kernel_rfl, fun j r => by kernel_rfl, fun j r k v => by kernel_rfl, fun j r => ⟨by kernel_rfl, by kernel_rfl, fun S => by kernel_rfl, fun S => by kernel_rfl, fun S => by kernel_rfl⟩, fun j r => ⟨by kernel_rfl, by kernel_rfl, fun S => by kernel_rfl, fun S => by kernel_rfl, fun S => by kernel_rfl⟩⟩
theorem lk3_2_0 (N : Nat) (l : List Lk) (c0 c1 c2 : Cf) : LinkOk N l [c0, c1, c2] 2 0 c2 c0 := ⟨fun j r => by kernel_rfl, fun j r => by kernel_rfl, fun j r k v => by kernel_rfl, fun j r => ⟨by kernel_rfl, by kernel_rfl, fun S => by kernel_rfl, fun S => by kernel_rfl, fun S => by kernel_rfl⟩, fun j r => ⟨by kernel_rfl, by kernel_rfl, fun S => by kernel_rfl, fun S => by kernel_rfl, fun S => by kernel_rfl⟩⟩
theorem lk3_2_1 (N : Nat) (l : List Lk) (c0 c1 c2 : Cf) : LinkOk N l [c0, c1, c2] 2 1 c2 c1 := ⟨fun j r => by kernel_rfl, fun j r => by kernel_rfl, fun j r k v => by kernel_rfl, fun j r => ⟨by kernel_rfl, by kernel_rfl, fun S => by kernel_rfl, fun S => by kernel_rfl, fun S => by kernel_rfl⟩, fun j r => ⟨by kernel_rfl, by kernel_rfl, fun S => by kernel_rfl, fun S => by kernel_rfl, fun S => by kernel_rfl⟩⟩
theorem lk3 {N : Nat} {l : List Lk} {c0 c1 c2 ca cb : Cf} : ∀ {a b : Nat}, a ≠ b → [c0, c1, c2][a]? = some ca → [c0, c1, c2][b]? = some cb → LinkOk N l [c0, c1, c2] a b ca cb
  | 0, 0, h, _, _ => absurd rfl h
  | 0, 1, _, ha, hb => by cases ha; cases hb; exact lk3_0_1 N l c0 c1 c2
  | 0, 2, _, ha, hb => by cases ha; cases hb; exact lk3_0_2 N l c0 c1 c2
  | 0, b + 3, _, _, hb => by simp at hb
  | 1, 0, _, ha, hb => by cases ha; cases hb; exact lk3_1_0 N l c0 c1 c2
  | 1, 1, h, _, _ => absurd rfl h
  | 1, 2, _, ha, hb => by cases ha; cases hb; exact lk3_1_2 N l c0 c1 c2
  | 1, b + 3, _, _, hb => by simp at hb
  | 2, 0, _, ha, hb => by cases ha; cases hb; exact lk3_2_0 N l c0 c1 c2
  | 2, 1, _, ha, hb => by cases ha; cases hb; exact lk3_2_1 N l c0 c1 c2
  | 2, 2, h, _, _ => absurd rfl h
  | 2, b + 3, _, _, hb => by simp at hb
  | a + 3, _, _, ha, _ => by simp at ha
end Go.Sim

/- topo.Gao: its second loop. -/
namespace Go.Sim
open Go.RowKit Go.Proofs
set_option linter.unusedVariables false
set_option linter.unusedSimpArgs false
set_option linter.unusedSectionVars false
set_option maxRecDepth 100000
theorem cells_set : ∀ {t : List Cf} {a b : Nat} {c c' : Cf}, t[a]? = some c → c'.a = c.a → c'.d = c.d → c'.h = c.h → c'.k = c.k → c'.w = c.w → cellsG b (t.set a c') = cellsG b t
  | [], a, b, c, c', h, _, _, _, _, _ => by simp at h
  | x :: t, 0, b, c, c', h, h1, h2, h3, h4, h5 => by
    simp only [List.getElem?_cons_zero, Option.some.injEq] at h
    subst h
    simp only [List.set_cons_zero, cellsG, h1, h2, h3, h4, h5]
  | x :: t, a + 1, b, c, c', h, h1, h2, h3, h4, h5 => by
    simp only [List.set_cons_succ, cellsG]
    rw [cells_set (a := a) (by simpa using h) h1 h2 h3 h4 h5]
theorem rows_set : ∀ (t : List Cf) (a : Nat) (c' : Cf), rowsG (t.set a c') = (rowsG t).set a (.row 48 4 (c'.s.map Sd.t))
  | [], _, _ => rfl
  | x :: t, 0, c' => rfl
  | x :: t, a + 1, c' => by simp only [List.set_cons_succ, rowsG]; rw [rows_set t a c']
theorem rows_len : ∀ t : List Cf, (rowsG t).length = t.length
  | [] => rfl
  | x :: t => by simp only [rowsG, List.length_cons, rows_len t]
theorem heap_add {t : List Cf} {a m : Nat} {c : Cf} {S : Sd} {H : List AObj} (h : t[a]? = some c) : (heapG m t H).set (2 + a) (.row 48 4 (c.s.map Sd.t ++ [S.t])) = heapG m (t.set a (addS c S)) H := by
  have hl := (List.getElem?_eq_some_iff.1 h).1
  unfold heapG
  rw [show 2 + a = a + 1 + 1 by omega, List.set_cons_succ, List.set_cons_succ, List.set_append_left _ _ (by rw [rows_len]; exact hl), rows_set, List.length_set, cells_set (c' := addS c S) h rfl rfl rfl rfl rfl]
  simp [addS]
variable [Lv]
theorem q43_1 (N : Nat) (a : Int) : callP env (N + 6) 43 [i64 a, i64 1] = W [i64 a, i64 1] (.ok (sideG a 1).t) := by kernel_rfl
theorem q43_2 (N : Nat) (a : Int) : callP env (N + 6) 43 [i64 a, i64 2] = W [i64 a, i64 2] (.ok (sideG a 2).t) := by kernel_rfl
theorem q43_3 (N : Nat) (a : Int) : callP env (N + 6) 43 [i64 a, i64 3] = W [i64 a, i64 3] (.ok (sideG a 3).t) := by kernel_rfl
theorem f43_ok {M : Nat} {a r : Int} (hM : 6 ≤ M) (ha : ok64 a = true) (h1 : 1 ≤ r) (h3 : r ≤ 3) : callP env M 43 [i64 a, i64 r] = .ok (sideG a r).t := by
  obtain ⟨m, rfl⟩ : ∃ m, M = m + 6 := ⟨M - 6, by omega⟩
  have hr : r = 1 ∨ r = 2 ∨ r = 3 := by omega
  rcases hr with rfl | rfl | rfl
  · rw [q43_1, W_ok (wfs2 (wf_int ha) rfl)]
  · rw [q43_2, W_ok (wfs2 (wf_int ha) rfl)]
  · rw [q43_3, W_ok (wfs2 (wf_int ha) rfl)]
theorem g2_head (N : Nat) (l : List Lk) (t : List Cf) (j : Nat) : seqX env N 21 [6] 0 2 (sG2 l t j) = bif decide ((j : Int) < (((l.map Lk.t).length : Nat) : Int)) then .ok (.norm, sG2b l t j (decide ((j : Int) < (((l.map Lk.t).length : Nat) : Int)))) else .ok (.exit 2, sG2b l t j (decide ((j : Int) < (((l.map Lk.t).length : Nat) : Int)))) := by kernel_rfl
noncomputable def op18 : Array Oper := opsX env 21 [6] 3
/-- Behind a round. -/
def sGz (l : List Lk) (t : List Cf) (j : Int) (x : T) : St := ⟨slots 153 (lvG l j), heapG t.length t [.box 40 3 (.t x)]⟩
theorem g2_end3 (N : Nat) (l : List Lk) (j : Int) (p : Nat) (H : List AObj) (d : Nat → PV) : (opsK env (recOf env N) op18 (op18.toList.map fun o => (o, false)) ⟨slotsD 153 d ((11, .ptr p 0) :: lvG l j), H⟩ fun s => (.ok s : Res St)).bind (fun s => (.ok ⟨keepOnly [7, 9, 55, 56, 57] s.tmps, id s.heap⟩ : Res St)) = .ok ⟨slots 153 (lvG l (IntKind.i64.wrap (j + 1))), H⟩ := by kernel_rfl
theorem g2_keep (l : List Lk) (j : Int) (p : Nat) (d : Nat → PV) : keepOnly [7, 9, 11, 55, 56, 57] (slotsD 153 d ((11, .ptr p 0) :: lvG l j)) = slots 153 ((11, .ptr p 0) :: lvG l j) := by kernel_rfl
theorem g2_keepe (l : List Lk) (j : Int) (p : Nat) (v : Bool) : keepOnly [7, 9, 11, 55, 56, 57] (slots 153 ((11, .ptr p 0) :: (13, .t (.bool v)) :: (105, .t (.bool v)) :: lvG l j)) = slots 153 ((11, .ptr p 0) :: lvG l j) := by kernel_rfl
theorem g2_used (N : Nat) (l : List Lk) (t : List Cf) (j : Int) (a b : Nat) (r : Int) : seqX env N 21 [6, 2] 4 2 (sGd l t j a b r true) = .ok (.exit 3, sGe l t j a b r true) := by kernel_rfl
theorem g2_free (N : Nat) (l : List Lk) (t : List Cf) (j : Int) (a b : Nat) (r : Int) : seqX env N 21 [6, 2] 4 2 (sGd l t j a b r false) = .ok (.norm, sGe l t j a b r false) := by kernel_rfl
theorem sGc_d (l : List Lk) (j : Int) (p : Nat) (H : List AObj) : (⟨slots 153 ((11, .ptr p 0) :: lvG l j), H⟩ : St) = ⟨slotsD 153 (fun _ => .junk) ((11, .ptr p 0) :: lvG l j), H⟩ := by kernel_rfl
theorem sGe_d (l : List Lk) (j : Int) (p : Nat) (v : Bool) (H : List AObj) : (⟨slots 153 ((11, .ptr p 0) :: (13, .t (.bool v)) :: (105, .t (.bool v)) :: lvG l j), H⟩ : St) = ⟨slotsD 153 (slotAt [(13, .t (.bool v)), (105, .t (.bool v))]) ((11, .ptr p 0) :: lvG l j), H⟩ := by kernel_rfl
theorem linkOk {N : Nat} {l : List Lk} {t : List Cf} {a b : Nat} {ca cb : Cf} (h0 : t ≠ []) (h8 : t.length ≤ 8) (hab : a ≠ b) (ha : t[a]? = some ca) (hb : t[b]? = some cb) : LinkOk N l t a b ca cb :=
  upto8 (P := fun t => t[a]? = some ca → t[b]? = some cb → LinkOk N l t a b ca cb) (fun _ => lk1 hab) (fun _ _ => lk2 hab) (fun _ _ _ => lk3 hab) (fun _ _ _ _ => lk4 hab) (fun _ _ _ _ _ => lk5 hab) (fun _ _ _ _ _ _ => lk6 hab) (fun _ _ _ _ _ _ _ => lk7 hab) (fun _ _ _ _ _ _ _ _ => lk8 hab) t h0 h8 ha hb
theorem canonZ {l : List Lk} {t : List Cf} {j : Int} {x : T} (h0 : t ≠ []) (h8 : t.length ≤ 8) : canon 0 (hintX env 21 [] 6).1 (sGz l t j x) = sG2 l t j :=
  upto8 (P := fun t => canon 0 (hintX env 21 [] 6).1 (sGz l t j x) = sG2 l t j) (fun _ => by kernel_rfl) (fun _ _ => by kernel_rfl) (fun _ _ _ => by kernel_rfl) (fun _ _ _ _ => by kernel_rfl) (fun _ _ _ _ _ => by kernel_rfl) (fun _ _ _ _ _ _ => by kernel_rfl) (fun _ _ _ _ _ _ _ => by kernel_rfl) (fun _ _ _ _ _ _ _ _ => by kernel_rfl) t h0 h8
/-- A side is added: the whole region. -/
theorem add_runs {N i n d dd ra : Nat} {s : St} {xs : List T} {p w : Int} {S : Sd} (h : AddOk N i n d dd ra s xs p w) (hc : callP env N 43 [i64 p, i64 w] = .ok S.t) (hx : (xs.length + 1) * 64 ≤ big)
    (hl : ((drawFlags (opG i)).drop (n + 3)).take 3 = (drawFlags (opG i)).drop (n + 3)) : ∃ sf, runsA env (recOf env N) (opG i) s.heap.length (drawFlags (opG i)) s sf ∧ keepOnly [7, 9, 11, 55, 56, 57] sf.tmps = s.tmps ∧ sf.heap = s.heap.set ra (.row 48 4 (xs ++ [S.t])) := by
  have hn := runK_nat env N
  have h2 := h.a2
  rw [hc] at h2
  have h4 := h.a4 S
  rw [decide_eq_true (show (xs.length + 1) * 64 ≤ 140737488355328 by have := big_val; omega), chk_true] at h4
  obtain ⟨sf, h5, h6⟩ := bind_ok_inv (h.a5 S)
  simp only [Res.ok.injEq, St.mk.injEq] at h6
  have h1 := h.a1
  have h3 := h.a3 S
  unfold runGA at h1 h2 h3 h4 h5
  generalize hL : drawFlags (opG i) = L at h1 h2 h3 h4 h5 hl ⊢
  have r1 := opsA_runs hn h1
  have r2 := opsA_runs hn h2
  have r3 := opsA_runs hn h3
  have r4 := opsA_runs hn h4
  have r5 := opsA_runs hn h5
  rw [hl] at r5
  have cut : ∀ (k m : Nat) {s1 s2 s3 : St}, runsA env (recOf env N) (opG i) s.heap.length ((L.drop k).take m) s1 s2 → runsA env (recOf env N) (opG i) s.heap.length (L.drop (k + m)) s2 s3 → runsA env (recOf env N) (opG i) s.heap.length (L.drop k) s1 s3 := fun k m s1 s2 s3 a b => runsA_cut _ a (by rw [List.drop_drop]; exact b)
  have c4 := cut (n + 2) 1 r4 r5
  have c3 := cut (n + 1) 1 r3 c4
  have c2 := cut n 1 r2 c3
  have c1 := cut 0 n r1 (by rw [Nat.zero_add]; exact c2)
  rw [List.drop_zero] at c1
  exact ⟨sf, c1, h6.1, h6.2⟩
end Go.Sim

/- topo.Gao: a round over a link, and the whole. -/
namespace Go.Sim
open Go.RowKit Go.Proofs
set_option linter.unusedVariables false
set_option linter.unusedSimpArgs false
set_option linter.unusedSectionVars false
set_option maxRecDepth 100000
variable [Lv]
/-- A part that draws its order, as it is run, and told otherwise behind it. -/
theorem partD_draw {E : Env} {n : Nat} {f : FuncId} {p : List Nat} (he : EnvOk E) {i : Nat} {st st' : St} {Q : Ex → St → Prop} {R : St → Prop} (hp : ∃ id ops, (partsC E f p)[i]? = some (.region id ops true) ∧ RegSem E (.region id ops true) st' R) (ht : TurnS st st') (hR : ∀ s, R s → ∃ s2, TurnS s s2 ∧ partD E n f p (i + 1) s2 Q) : partD E n f p i st Q := by
  obtain ⟨id, ops, h1, h2⟩ := hp
  exact partD_sem h1 ⟨_, _, _, rfl⟩ (RegSem.pre ht (RegSem.turn h2 hR))
theorem reg3 : ∃ id, (partsC env 21 [6, 2])[3]? = some (.region id (opG 3) true) := ⟨firstRegion ((partsC env 21 [6, 2]).getD 3 .skip), by kernel_rfl⟩
theorem reg6 : ∃ id, (partsC env 21 [6, 2])[6]? = some (.region id (opG 6) true) := ⟨firstRegion ((partsC env 21 [6, 2]).getD 6 .skip), by kernel_rfl⟩
theorem reg7 : ∃ id, (partsC env 21 [6, 2])[7]? = some (.region id (opG 7) true) := ⟨firstRegion ((partsC env 21 [6, 2]).getD 7 .skip), by kernel_rfl⟩
theorem len3 : ((drawFlags (opG 3)).drop 12).take 9 = (drawFlags (opG 3)).drop 12 := by kernel_rfl
theorem len6 : ((drawFlags (opG 6)).drop (17 + 3)).take 3 = (drawFlags (opG 6)).drop (17 + 3) := by kernel_rfl
theorem len7 : ((drawFlags (opG 7)).drop (18 + 3)).take 3 = (drawFlags (opG 7)).drop (18 + 3) := by kernel_rfl
theorem ok3 : drawOk (opG 3) = true := by kernel_rfl
theorem ok6 : drawOkA (opG 6) = true := by kernel_rfl
theorem ok7 : drawOkA (opG 7) = true := by kernel_rfl
theorem side_run {N : Nat} {l : List Lk} {t : List Cf} {a b : Nat} {ca cb : Cf} {j r k : Int} {v : Bool} (h : LinkOk N l t a b ca cb) (hc : callP env N 29 [ca.t, i64 cb.a] = .ok (.tup [i64 k, .bool v])) :
    ∃ sf, opsK env (recOf env N) (opG 3) (drawFlags (opG 3)) (sGc l t j a b r) (fun s => (.ok s : Res St)) = .ok sf ∧ keepOnly [7, 9, 11, 13, 55, 56, 57] sf.tmps = (sGd l t j a b r v).tmps ∧ sf.heap = (sGd l t j a b r v).heap := by
  have hn := runK_nat env N
  have h1 := h.r1 j r
  have h2 := h.r2 j r
  rw [hc] at h2
  have h2 : runG N 3 11 1 (s14 N l t j a b r) = .ok (s14k N l t j a b r k v) := h2
  obtain ⟨sf, h3, h4⟩ := bind_ok_inv (h.r3 j r k v)
  simp only [Res.ok.injEq] at h4
  unfold runG at h1 h2 h3
  rw [len3] at h3
  have c2 := opsK_cut (l := (drawFlags (opG 3)).drop 11) hn 1 h2 (by rw [List.drop_drop]; exact h3)
  have c1 := opsK_cut (l := drawFlags (opG 3)) hn 11 (by rw [List.drop_zero] at h1; exact h1) c2
  exact ⟨sf, c1, by have := congrArg St.tmps h4; exact this, by have := congrArg St.heap h4; exact this⟩
omit [Lv] in
theorem kP_exit {A C : Prop} {B : Nat → Prop} {j : Nat} (h : B j) : Ex.kP (.exit j) A B C := h
theorem g2_round {N : Nat} (he : EnvOk env) (hN : big + 30 ≤ N) {l : List Lk} {t : List Cf} {j : Nat} {x : Lk} {Q : Ex → St → Prop} (h0 : t ≠ []) (h8 : t.length ≤ 8) (hl : l.length ≤ big) (hx : l[j]? = some x) (hxo : x.ok) (ht : ∀ c ∈ t, c.ok ∧ (c.s.length + 1) * 64 ≤ big)
    (hQ : ∀ s, canon 0 (hintX env 21 [] 6).1 s = sG2 l (linkG t x) ((j + 1 : Nat) : Int) → Q .norm s) : partD env N 21 [6] 0 (sG2 l t j) Q := by
  have hbg := big_val
  have hj := (List.getElem?_eq_some_iff.1 hx).1
  obtain ⟨n1, rfl⟩ : ∃ n1, N = n1 + 1 := ⟨N - 1, by omega⟩
  have h1 := g2_head (n1 + 1) l t j
  rw [decide_eq_true (show (j : Int) < (((l.map Lk.t).length : Nat) : Int) by rw [List.length_map]; omega)] at h1
  refine partD_x (e := .norm) 2 h1 ?_
  refine partD_block (p := [6]) (i := 2) (id := 3) (c := innerC ((partsC env 21 [6]).getD 2 .skip)) (by kernel_rfl) (by kernel_rfl) ?_
  show partD env (n1 + 1) 21 [6, 2] 0 _ _
  have hB := gaoB (N := n1) (t := t) h0 h8 (b := true) hx
  have hw := wrap_succ (show j ≤ big by omega)
  -- behind the block
  have behind : ∀ (t' : List Cf) (p : Nat) (y : T) (d : Nat → PV), t' ≠ [] → t'.length ≤ 8 → linkG t x = t' → partD env (n1 + 1) 21 [6] 3 ⟨slotsD 153 d ((11, .ptr p 0) :: lvG l j), heapG t'.length t' [.box 40 3 (.t y)]⟩ Q := fun t' p y d g0 g8 e => by
    have h3 := g2_end3 (n1 + 1) l j p (heapG t'.length t' [.box 40 3 (.t y)]) d
    rw [hw] at h3
    refine partD_run (i := 3) (g := id) he (by kernel_rfl) (of_decide_eq_true (by kernel_rfl)) h3 turn_id ?_
    refine partD_end (by kernel_rfl) (hQ _ ?_)
    rw [e]
    exact canonZ g0 g8
  cases hg : goodL t.length x with
  | false =>
    obtain ⟨d, hs⟩ := hB.1 hg
    refine partD_x (e := .exit 3) 3 hs ?_
    refine kP_exit (kP_exit ?_)
    simp only [if_true]
    exact behind t _ x.t d h0 h8 (by unfold linkG; rw [hg]; rfl)
  | true =>
  obtain ⟨d, hs⟩ := hB.2 hg
  refine partD_x (e := .norm) 3 hs ?_
  obtain ⟨xa, xb, r⟩ := x
  have hg' := hg
  unfold goodL at hg'
  simp only [Bool.and_eq_true, decide_eq_true_eq, Bool.not_eq_true', beq_eq_false_iff_ne] at hg'
  obtain ⟨⟨⟨⟨⟨⟨a1, a2⟩, a3⟩, a4⟩, a5⟩, a6⟩, a7⟩ := hg'
  obtain ⟨a, rfl⟩ : ∃ a : Nat, xa = a := ⟨xa.toNat, by omega⟩
  obtain ⟨b, rfl⟩ : ∃ b : Nat, xb = b := ⟨xb.toNat, by omega⟩
  have hab : a ≠ b := fun e => a5 (by rw [e])
  have hca : t[a]? = some t[a] := List.getElem?_eq_getElem (by omega)
  have hcb : t[b]? = some t[b] := List.getElem?_eq_getElem (by omega)
  generalize t[a] = ca at hca
  generalize t[b] = cb at hcb
  have hco := (ht ca (List.mem_of_getElem? hca)).1
  have hdo := (ht cb (List.mem_of_getElem? hcb)).1
  have hlk : linkG t ⟨a, b, r⟩ = if (idxOf ca cb.a).isSome then t else (t.set a (addS ca (sideG cb.a r))).set b (addS cb (sideG ca.a (4 - r))) := by
    unfold linkG
    rw [hg, if_pos rfl]
    simp only [Int.toNat_natCast, hca, hcb]
  have L1 := linkOk (N := n1 + 1) (l := l) h0 h8 hab hca hcb
  obtain ⟨n2, rfl⟩ : ∃ n2, n1 = n2 + 1 := ⟨n1 - 1, by omega⟩
  have hside := f29_ok (M := n2 + 1) (c := ca) (n := cb.a) (by omega) hco hdo.a
  generalize hv : (idxOf ca cb.a).isSome = v at hside hlk
  obtain ⟨sf, k1, k2, k3⟩ := side_run (j := j) (r := r) L1 hside
  have hn := runK_nat env (n2 + 1 + 1)
  obtain ⟨_, n2'⟩ := runK_ok he (n2 + 1 + 1)
  have hcal : CallerOk env (recOf env (n2 + 1 + 1)) := callerOk_of he hn n2'
  obtain ⟨id3, e3⟩ := reg3
  refine partD_draw he (st' := sGc l t j a b r) (R := fun s => s = sf) ⟨id3, opG 3, e3, RegSem.draw he.mixed hcal ok3 k1 rfl⟩ ?_ fun s hs => ?_
  · exact TurnS.keepTo [7, 9, 11, 55, 56, 57] (g2_keep l j (t.length + 2) d)
  subst hs
  refine ⟨sGd l t j a b r v, ?_, ?_⟩
  · have : s = ⟨s.tmps, (sGd l t j a b r v).heap⟩ := by rw [← k3]
    rw [this]
    exact TurnS.keepTo [7, 9, 11, 13, 55, 56, 57] k2
  cases v with
  | true =>
    refine partD_x (e := .exit 3) 2 (g2_used (n2 + 1 + 1) l t j a b r) ?_
    refine kP_exit (kP_exit ?_)
    simp only [if_true]
    unfold sGe
    rw [sGe_d]
    exact behind t _ _ _ h0 h8 (by rw [hlk]; rfl)
  | false =>
  refine partD_x (e := .norm) 2 (g2_free (n2 + 1 + 1) l t j a b r) ?_
  -- a's side
  have s1 := f43_ok (M := n2 + 1 + 1) (a := cb.a) (r := r) (by omega) hdo.a a6 a7
  have ha8 := (ht ca (List.mem_of_getElem? hca)).2
  have hb8 := (ht cb (List.mem_of_getElem? hcb)).2
  obtain ⟨sa, r1, r2, r3⟩ := add_runs (L1.ra j r) s1 (by rw [List.length_map]; exact ha8) len6
  obtain ⟨id6, e6⟩ := reg6
  refine partD_draw he (st' := sGc l t j a b r) (R := fun s => s = sa) ⟨id6, opG 6, e6, draw_sem he.mixed hcal ok6 r1 rfl⟩ ?_ fun s hs => ?_
  · exact TurnS.keepTo [7, 9, 11, 55, 56, 57] (g2_keepe l j (t.length + 2) false)
  subst hs
  have ht1 : t.set a (addS ca (sideG cb.a r)) ≠ [] := by
    intro e
    have := congrArg List.length e
    rw [List.length_set] at this
    exact h0 (List.eq_nil_of_length_eq_zero this)
  have hl1 : (t.set a (addS ca (sideG cb.a r))).length = t.length := List.length_set ..
  refine ⟨sGc l (t.set a (addS ca (sideG cb.a r))) j a b r, ?_, ?_⟩
  · have e1 : s = ⟨s.tmps, (sGc l (t.set a (addS ca (sideG cb.a r))) j a b r).heap⟩ := by
      have : s.heap = (sGc l (t.set a (addS ca (sideG cb.a r))) j a b r).heap := by
        rw [r3]
        show (heapG t.length t (lkH a b r)).set (2 + a) _ = heapG (t.set a (addS ca (sideG cb.a r))).length _ _
        rw [hl1]
        exact heap_add hca
      rw [← this]
    rw [e1]
    refine TurnS.keepTo [7, 9, 11, 55, 56, 57] (r2.trans ?_)
    show slots 153 ((11, .ptr (t.length + 2) 0) :: lvG l j) = slots 153 ((11, .ptr ((t.set a (addS ca (sideG cb.a r))).length + 2) 0) :: lvG l j)
    rw [hl1]
  -- b's side
  have hca1 : (t.set a (addS ca (sideG cb.a r)))[a]? = some (addS ca (sideG cb.a r)) := List.getElem?_set_self (by omega)
  have hcb1 : (t.set a (addS ca (sideG cb.a r)))[b]? = some cb := by rw [List.getElem?_set_ne hab]; exact hcb
  have L2 := linkOk (N := n2 + 1 + 1) (l := l) ht1 (by rw [hl1]; exact h8) hab hca1 hcb1
  have hwr : IntKind.i64.wrap (4 - r) = 4 - r := wrap64 (by omega)
  have s2 := f43_ok (M := n2 + 1 + 1) (a := ca.a) (r := 4 - r) (by omega) hco.a (by omega) (by omega)
  have L2b := L2.rb j r
  rw [hwr] at L2b
  obtain ⟨sb, q1, q2, q3⟩ := add_runs L2b s2 (by rw [List.length_map]; exact hb8) len7
  obtain ⟨id7, e7⟩ := reg7
  refine partD_draw he (st' := sGc l (t.set a (addS ca (sideG cb.a r))) j a b r) (R := fun s => s = sb) ⟨id7, opG 7, e7, draw_sem he.mixed hcal ok7 q1 rfl⟩ (TurnS.refl _) fun s hs => ?_
  subst hs
  have hl2 : ((t.set a (addS ca (sideG cb.a r))).set b (addS cb (sideG ca.a (4 - r)))).length = t.length := by rw [List.length_set, List.length_set]
  have ht2 : (t.set a (addS ca (sideG cb.a r))).set b (addS cb (sideG ca.a (4 - r))) ≠ [] := by
    intro e
    have := congrArg List.length e
    rw [hl2] at this
    exact h0 (List.eq_nil_of_length_eq_zero this)
  refine ⟨sGc l ((t.set a (addS ca (sideG cb.a r))).set b (addS cb (sideG ca.a (4 - r)))) j a b r, ?_, ?_⟩
  · have e1 : s = ⟨s.tmps, (sGc l ((t.set a (addS ca (sideG cb.a r))).set b (addS cb (sideG ca.a (4 - r)))) j a b r).heap⟩ := by
      have : s.heap = (sGc l ((t.set a (addS ca (sideG cb.a r))).set b (addS cb (sideG ca.a (4 - r)))) j a b r).heap := by
        rw [q3]
        show (heapG (t.set a (addS ca (sideG cb.a r))).length _ (lkH a b r)).set (2 + b) _ = heapG ((t.set a (addS ca (sideG cb.a r))).set b (addS cb (sideG ca.a (4 - r)))).length _ _
        rw [hl1, hl2]
        exact heap_add hcb1
      rw [← this]
    rw [e1]
    refine TurnS.keepTo [7, 9, 11, 55, 56, 57] (q2.trans ?_)
    show slots 153 ((11, .ptr ((t.set a (addS ca (sideG cb.a r))).length + 2) 0) :: lvG l j) = slots 153 ((11, .ptr (((t.set a (addS ca (sideG cb.a r))).set b (addS cb (sideG ca.a (4 - r)))).length + 2) 0) :: lvG l j)
    rw [hl1, hl2]
  refine partD_end (by kernel_rfl) ?_
  show partD env (n2 + 1 + 1) 21 [6] 3 _ Q
  unfold sGc
  rw [sGc_d]
  exact behind _ _ _ _ ht2 (by rw [hl2]; exact h8) (by rw [hlk]; rfl)
end Go.Sim

/- topo.Gao, whole. -/
namespace Go.Sim
open Go.RowKit Go.Proofs
set_option linter.unusedVariables false
set_option linter.unusedSimpArgs false
set_option linter.unusedSectionVars false
set_option maxRecDepth 100000
theorem sideG_ok {a r : Int} (ha : ok64 a = true) (h1 : 1 ≤ r) (h3 : r ≤ 3) : (sideG a r).ok := by
  have hr : ∀ m v x n : Int, ok64 m = true → ok64 v = true → ok64 x = true → ok64 n = true → Ru.ok ⟨m, ⟨0, 0⟩, v, x, n⟩ := fun m v x n h1 h2 h3 h4 => ⟨h1, ⟨rfl, rfl⟩, h2, h3, h4⟩
  have hb := big_val
  refine ⟨ha, ok64_iff.2 (by show -9223372036854775808 ≤ r ∧ r ≤ _; omega), ⟨by show 1 ≤ big; omega, fun x hx => ?_⟩, ?_⟩
  · simp only [sideG, List.mem_singleton] at hx
    subst hx
    exact hr _ _ _ _ rfl rfl rfl (ok64_iff.2 (by omega))
  · show okL Ru.ok (if r = 1 then _ else _)
    split
    · refine ⟨by show 1 ≤ big; omega, fun x hx => ?_⟩
      rw [List.mem_singleton] at hx
      subst hx
      exact hr _ _ _ _ rfl rfl rfl rfl
    · refine ⟨by show 2 ≤ big; omega, fun x hx => ?_⟩
      simp only [List.mem_cons, List.not_mem_nil, or_false] at hx
      rcases hx with rfl | rfl
      · exact hr _ _ _ _ rfl rfl rfl rfl
      · exact hr _ _ _ _ rfl rfl rfl rfl
/-- Nodes as they may be, of j sides at most. -/
def gOk (m j : Nat) (t : List Cf) : Prop := t.length = m ∧ ∀ c ∈ t, c.ok ∧ c.s.length ≤ j
theorem addS_ok {c : Cf} {s : Sd} (h : c.ok) (hs : s.ok) (hl : c.s.length + 1 ≤ big) : (addS c s).ok := ⟨h.a, h.d, h.h, h.k, h.w, ⟨by simpa [addS] using hl, fun x hx => by
  rcases List.mem_append.1 hx with hx | hx
  · exact h.s.2 x hx
  · rw [List.mem_singleton.1 hx]; exact hs⟩⟩
theorem linkG_ok {m j : Nat} {t : List Cf} {x : Lk} (h : gOk m j t) (hj : j + 1 ≤ big) : gOk m (j + 1) (linkG t x) := by
  have weak : gOk m (j + 1) t := ⟨h.1, fun c hc => ⟨(h.2 c hc).1, by have := (h.2 c hc).2; omega⟩⟩
  unfold linkG
  split
  · rename_i hg
    split
    · rename_i c d hc hd
      split
      · exact weak
      · unfold goodL at hg
        simp only [Bool.and_eq_true, decide_eq_true_eq, Bool.not_eq_true', beq_eq_false_iff_ne] at hg
        obtain ⟨⟨⟨⟨⟨⟨a1, a2⟩, a3⟩, a4⟩, a5⟩, a6⟩, a7⟩ := hg
        have h1 := h.2 c (List.mem_of_getElem? hc)
        have h2 := h.2 d (List.mem_of_getElem? hd)
        refine ⟨by rw [List.length_set, List.length_set]; exact h.1, fun e he => ?_⟩
        rcases List.mem_or_eq_of_mem_set he with he | rfl
        · rcases List.mem_or_eq_of_mem_set he with he | rfl
          · exact weak.2 e he
          · exact ⟨addS_ok h1.1 (sideG_ok h2.1.a a6 a7) (by omega), by simp [addS]; omega⟩
        · exact ⟨addS_ok h2.1 (sideG_ok h1.1.a (by omega) (by omega)) (by omega), by simp [addS]; omega⟩
    · exact weak
  · exact weak
theorem links_ok {m : Nat} : ∀ (l : List Lk) {j : Nat} {t : List Cf}, gOk m j t → j + l.length ≤ big → gOk m (j + l.length) (l.foldl linkG t)
  | [], j, t, h, _ => h
  | x :: l, j, t, h, hj => by
    rw [List.foldl_cons, List.length_cons, show j + (l.length + 1) = (j + 1) + l.length by omega]
    rw [List.length_cons] at hj
    exact links_ok l (linkG_ok h (by omega)) (by omega)
theorem numG_bounds (n : Int) : 1 ≤ numG n ∧ numG n ≤ 8 := by unfold numG; omega
theorem minmax_numG (n : Int) : minmax true [minmax false [8] n] 1 = ((numG n : Nat) : Int) := by
  unfold numG
  show (if (if (8 : Int) < n then (8 : Int) else n) > 1 then (if (8 : Int) < n then (8 : Int) else n) else 1) = _
  split <;> split <;> omega
theorem nodeG_ok {own : List Px} {i : Nat} (ho : okL Px.ok own) (hi : i < 8) : (nodeG own i).ok := by
  have hb := big_val
  have hw : okL Px.ok (ownG own i) := by
    unfold ownG
    split
    · rename_i p hp
      split
      · exact ⟨by show 1 ≤ big; omega, fun x hx => by rw [List.mem_singleton.1 hx]; exact ho.2 p (List.mem_of_getElem? hp)⟩
      · exact ⟨Nat.zero_le _, fun x hx => by cases hx⟩
    · exact ⟨Nat.zero_le _, fun x hx => by cases hx⟩
  exact ⟨ok64_iff.2 (by show -9223372036854775808 ≤ 65001 + (i : Int) ∧ 65001 + (i : Int) ≤ _; omega), ok64_iff.2 (by show -9223372036854775808 ≤ 167772161 + (i : Int) ∧ 167772161 + (i : Int) ≤ _; omega), rfl, rfl, hw, ⟨Nat.zero_le _, fun x hx => by cases hx⟩⟩
theorem nodes_ok {own : List Px} {m : Nat} (ho : okL Px.ok own) (hm : m ≤ 8) : gOk m 0 ((List.range m).map (nodeG own)) := ⟨by simp, fun c hc => by
  obtain ⟨i, hi, rfl⟩ := List.mem_map.1 hc
  exact ⟨nodeG_ok ho (by have := List.mem_range.1 hi; omega), Nat.le_refl _⟩⟩
variable [Lv]
def sGs (n : Int) (own : List Px) (l : List Lk) : St := ⟨slots 153 [(0, .t (i64 n)), (1, .t (.sl 2 (own.map Px.t))), (2, .t (.sl 3 (l.map Lk.t)))], []⟩
def sGs1 (n : Int) (own : List Px) (l : List Lk) (k m : Int) : St := ⟨slots 153 [(0, .t (i64 n)), (1, .t (.sl 2 (own.map Px.t))), (2, .t (.sl 3 (l.map Lk.t))), (14, .t (i64 n)), (15, .t (i64 k)), (16, .t (i64 m))], []⟩
def sGs2 (own : List Px) (l : List Lk) (m : Nat) (xs : List PV) : St := ⟨slots 153 [(1, .t (.sl 2 (own.map Px.t))), (2, .t (.sl 3 (l.map Lk.t))), (7, .ptr 1 0)], [.vec 45 6 m xs, .box 22 1 (.own 0)]⟩
noncomputable def opR1 : Array Oper := opsX env 21 [] 1
theorem gR0 (N : Nat) (n : Int) (own : List Px) (l : List Lk) : (opsK env (recOf env N) (opsX env 21 [] 0) ((opsX env 21 [] 0).toList.map fun o => (o, false)) (startS env 21 [.t (i64 n), .t (.sl 2 (own.map Px.t)), .t (.sl 3 (l.map Lk.t))]) (fun s => (.ok s : Res St))).bind (fun s => (.ok ⟨keepOnly [0, 1, 2] s.tmps, id s.heap⟩ : Res St)) = .ok (sGs n own l) := by kernel_rfl
theorem gR1a (N : Nat) (n : Int) (own : List Px) (l : List Lk) : opsK env (recOf env N) opR1 ((opR1.toList.take 3).map fun o => (o, false)) (sGs n own l) (fun s => (.ok s : Res St)) = .ok (sGs1 n own l (minmax false [8] n) (minmax true [minmax false [8] n] 1)) := by kernel_rfl
theorem gR1b (n k : Int) (own : List Px) (l : List Lk) : ∀ m : Nat, 1 ≤ m → m ≤ 8 → makeVecK env (sGs1 n own l k m) 22 (.t (i64 m)) (.t (i64 m)) = some (.own 0, ⟨(sGs1 n own l k m).tmps, [.vec 45 6 m (zerosG m)]⟩)
  | 1, _, _ => by kernel_rfl
  | 2, _, _ => by kernel_rfl
  | 3, _, _ => by kernel_rfl
  | 4, _, _ => by kernel_rfl
  | 5, _, _ => by kernel_rfl
  | 6, _, _ => by kernel_rfl
  | 7, _, _ => by kernel_rfl
  | 8, _, _ => by kernel_rfl
  | 0, h, _ => absurd h (by omega)
  | m + 9, _, h => absurd h (by omega)
theorem gR1c (N : Nat) (n k : Int) (own : List Px) (l : List Lk) (m : Nat) (xs : List PV) : (opsK env (recOf env N) opR1 ((opR1.toList.drop 4).map fun o => (o, false)) ⟨setT (sGs1 n own l k m).tmps (some 17) (.own 0), [.vec 45 6 m xs]⟩ (fun s => (.ok s : Res St))).bind (fun s => (.ok ⟨keepOnly [1, 2, 7] s.tmps, s.heap⟩ : Res St)) = .ok (sGs2 own l m xs) := by kernel_rfl
theorem gR2 (N : Nat) (own : List Px) (l : List Lk) : ∀ m : Nat, 1 ≤ m → m ≤ 8 → canX env 21 [] (2 + 1) (seqX env N 21 [] 2 1 (sGs2 own l m (zerosG m))) = .ok (.norm, sG1 own l m [])
  | 1, _, _ => by kernel_rfl
  | 2, _, _ => by kernel_rfl
  | 3, _, _ => by kernel_rfl
  | 4, _, _ => by kernel_rfl
  | 5, _, _ => by kernel_rfl
  | 6, _, _ => by kernel_rfl
  | 7, _, _ => by kernel_rfl
  | 8, _, _ => by kernel_rfl
  | 0, h, _ => absurd h (by omega)
  | m + 9, _, h => absurd h (by omega)
theorem gX1 {own : List Px} {l : List Lk} {t : List Cf} (h0 : t ≠ []) (h8 : t.length ≤ 8) : canon 0 (hintX env 21 [] 3).2 (sG1a own l t.length t false) = sG1x l t :=
  upto8 (P := fun t => canon 0 (hintX env 21 [] 3).2 (sG1a own l t.length t false) = sG1x l t) (fun _ => by kernel_rfl) (fun _ _ => by kernel_rfl) (fun _ _ _ => by kernel_rfl) (fun _ _ _ _ => by kernel_rfl) (fun _ _ _ _ _ => by kernel_rfl) (fun _ _ _ _ _ _ => by kernel_rfl) (fun _ _ _ _ _ _ _ => by kernel_rfl) (fun _ _ _ _ _ _ _ _ => by kernel_rfl) t h0 h8
theorem gX2 {N : Nat} {l : List Lk} {t : List Cf} (h0 : t ≠ []) (h8 : t.length ≤ 8) : canX env 21 [] (4 + 2) (seqX env N 21 [] 4 2 (sG1x l t)) = .ok (.norm, sG2 l t ((0 : Nat) : Int)) :=
  upto8 (P := fun t => canX env 21 [] (4 + 2) (seqX env N 21 [] 4 2 (sG1x l t)) = .ok (.norm, sG2 l t ((0 : Nat) : Int))) (fun _ => by kernel_rfl) (fun _ _ => by kernel_rfl) (fun _ _ _ => by kernel_rfl) (fun _ _ _ _ => by kernel_rfl) (fun _ _ _ _ _ => by kernel_rfl) (fun _ _ _ _ _ _ => by kernel_rfl) (fun _ _ _ _ _ _ _ => by kernel_rfl) (fun _ _ _ _ _ _ _ _ => by kernel_rfl) t h0 h8
theorem gX3 {l : List Lk} {t : List Cf} {j : Nat} (h0 : t ≠ []) (h8 : t.length ≤ 8) : canon 0 (hintX env 21 [] 6).2 (sG2b l t j false) = sG2x t :=
  upto8 (P := fun t => canon 0 (hintX env 21 [] 6).2 (sG2b l t j false) = sG2x t) (fun _ => by kernel_rfl) (fun _ _ => by kernel_rfl) (fun _ _ _ => by kernel_rfl) (fun _ _ _ _ => by kernel_rfl) (fun _ _ _ _ _ => by kernel_rfl) (fun _ _ _ _ _ _ => by kernel_rfl) (fun _ _ _ _ _ _ _ => by kernel_rfl) (fun _ _ _ _ _ _ _ _ => by kernel_rfl) t h0 h8
def frowsG : List Cf → List AObj
  | [] => []
  | c :: r => .frow 48 4 (c.s.map Sd.t) :: frowsG r
def sGy (t : List Cf) : St := ⟨slots 153 [(6, .own 1)], .box 22 1 (.own 1) :: .frow 45 6 (t.map Cf.t) :: frowsG t⟩
theorem gX4 {N : Nat} {t : List Cf} (h0 : t ≠ []) (h8 : t.length ≤ 8) : (opsK env (recOf env N) (opsX env 21 [] 7) ((opsX env 21 [] 7).toList.map fun o => (o, false)) (sG2x t) (fun s => (.ok s : Res St))).bind (fun s => (.ok ⟨keepOnly [6] s.tmps, freezeV 1 s.heap⟩ : Res St)) = .ok (sGy t) :=
  upto8 (P := fun t => (opsK env (recOf env N) (opsX env 21 [] 7) ((opsX env 21 [] 7).toList.map fun o => (o, false)) (sG2x t) (fun s => (.ok s : Res St))).bind (fun s => (.ok ⟨keepOnly [6] s.tmps, freezeV 1 s.heap⟩ : Res St)) = .ok (sGy t)) (fun _ => by kernel_rfl) (fun _ _ => by kernel_rfl) (fun _ _ _ => by kernel_rfl) (fun _ _ _ _ => by kernel_rfl) (fun _ _ _ _ _ => by kernel_rfl) (fun _ _ _ _ _ _ => by kernel_rfl) (fun _ _ _ _ _ _ _ => by kernel_rfl) (fun _ _ _ _ _ _ _ _ => by kernel_rfl) t h0 h8
theorem gRet (N : Nat) (t : List Cf) : seqX env N 21 [] 8 1 (sGy t) = .ok (.ret, sGy t) := by kernel_rfl
theorem gEnd (t : List Cf) : endD env (funcE env 21) (fun r H' => outK env 21 r H' = .ok (.sl 6 (t.map Cf.t))) (sGy t) := ⟨.own 1, (sGy t).heap, by kernel_rfl, show outK env 21 (.own 1) (sGy t).heap = .ok (.sl 6 (t.map Cf.t)) by kernel_rfl⟩
theorem gao_make {N : Nat} (he : EnvOk env) {n k : Int} {own : List Px} {l : List Lk} {m : Nat} (h1 : 1 ≤ m) (h8 : m ≤ 8) (hm : minmax true [minmax false [8] n] 1 = (m : Int)) {Q : Ex → St → Prop} (hQ : partD env N 21 [] 2 (sGs2 own l m (zerosG m)) Q) : partD env N 21 [] 1 (sGs n own l) Q := by
  obtain ⟨n1, n2⟩ := runK_ok he N
  have hc : CallerOk env (recOf env N) := callerOk_of he n1 n2
  have hp : (partsC env 21 [])[1]? = some (.region (firstRegion ((partsC env 21 []).getD 1 .skip)) opR1 false) := by kernel_rfl
  obtain ⟨sf, g1, g2⟩ := bind_ok_inv (gR1c N n (minmax false [8] n) own l m (zerosG m))
  simp only [Res.ok.injEq] at g2
  refine partD_sem hp ⟨_, _, _, rfl⟩ (RegSem.turn (Q' := fun s => s = sf) (RegSem.of_opsG ?_) fun s hs => ?_)
  · have e1 : opR1.toList = opR1.toList.take 3 ++ opR1.toList.drop 3 := (List.take_append_drop _ _).symm
    rw [e1]
    have h3 := gR1a N n own l
    rw [hm] at h3
    refine opsG_run n1 hc h3 ?_
    have e2 : opR1.toList.drop 3 = (opR1.toList.getD 3 default) :: opR1.toList.drop 4 := by kernel_rfl
    rw [e2]
    have q1 : (opR1.toList.getD 3 default).guard = none := by kernel_rfl
    have q2 : (opR1.toList.getD 3 default).op = .makeSlice 22 (.tmp 16) (.tmp 16) := by kernel_rfl
    have q3 : evalO env.P (sGs1 n own l (minmax false [8] n) m).tmps 0 (.tmp 16) = some (.t (i64 m)) := by kernel_rfl
    refine step_makeVec q1 q2 q3 q3 (gR1b n _ own l m h1 h8) ?_
    have e3 : (opR1.toList.getD 3 default).dst = some 17 := by kernel_rfl
    rw [e3]
    have := opsG_run (ops := opR1) (l := opR1.toList.drop 4) (m := []) (Q := fun s => s = sf) n1 hc g1 rfl
    rwa [List.append_nil] at this
  · subst hs
    refine ⟨sGs2 own l m (zerosG m), ?_, hQ⟩
    rw [← g2]
    exact TurnS.keep [1, 2, 7] s.tmps s.heap
theorem gao_funD {N : Nat} (he : EnvOk env) (hN : big + 40 ≤ N) {n : Int} {own : List Px} {l : List Lk} (ho : okL Px.ok own) (hl : okL Lk.ok l) (hlb : (l.length + 1) * 64 ≤ big) :
    funD env (recOf env N) 21 ([i64 n, .sl 2 (own.map Px.t), .sl 3 (l.map Lk.t)].map .t) [] (fun r H' => outK env 21 r H' = .ok (.sl 6 ((gaoR n own l).map Cf.t))) := by
  have hbg := big_val
  obtain ⟨hm1, hm8⟩ := numG_bounds n
  refine funD_parts ⟨funcE env 21, by kernel_rfl, by kernel_rfl⟩ ?_
  refine partD_run (i := 0) he (by kernel_rfl) (of_decide_eq_true (by kernel_rfl)) (gR0 N n own l) turn_id ?_
  refine gao_make (k := n) he hm1 hm8 (minmax_numG n) ?_
  unfold gaoR
  generalize numG n = m at hm1 hm8 ⊢
  refine partD_xrloop (i := 2) 1 (id := 0) (c := innerC ((partsC env 21 []).getD 3 .skip)) (gR2 N own l m hm1 hm8) (by kernel_rfl) (by kernel_rfl) (fun k st => ∃ i, i + k = m ∧ st = sG1 own l m ((List.range i).map (nodeG own))) (m := m) ⟨0, by omega, rfl⟩ ?_
  rintro k st ⟨i, hik, rfl⟩
  show partD env N 21 [3] 0 _ _
  have hli : ((List.range i).map (nodeG own)).length = i := by simp
  by_cases him : i < m
  · refine g1_round he (by omega) ho hm8 (by rw [hli]; exact him) ?_
    refine ⟨k - 1, by omega, i + 1, by omega, ?_⟩
    rw [hli]
    have e : (List.range i).map (nodeG own) ++ [nodeG own i] = (List.range (i + 1)).map (nodeG own) := by rw [List.range_succ, List.map_append]; rfl
    rw [e]
    have hl1 : ((List.range (i + 1)).map (nodeG own)).length = i + 1 := by simp
    exact (nodeB (N := N) (own := own) (l := l) (m := m) (i := i) hl1 (by omega) hm8).n5
  · obtain rfl : i = m := by omega
    have h1 := g1_head N own l i ((List.range i).map (nodeG own))
    rw [hli, decide_eq_false (by omega)] at h1
    refine partD_x (e := .exit 0) 2 h1 ?_
    refine kP_exit (kP_exit ?_)
    simp only [if_true]
    have hne : (List.range i).map (nodeG own) ≠ [] := fun e => by rw [e] at hli; simp at hli; omega
    have hx := gX1 (own := own) (l := l) hne (by rw [hli]; exact hm8)
    rw [hli] at hx
    have hg0 := nodes_ok (own := own) (m := i) ho hm8
    generalize (List.range i).map (nodeG own) = t0 at hli hne hx hg0 h1
    show partD env N 21 [] (2 + 1 + 1) (canon 0 (hintX env 21 [] 3).2 (sG1a own l i t0 false)) _
    rw [hx]
    refine partD_xrloop (i := 4) 2 (id := 2) (c := innerC ((partsC env 21 []).getD 6 .skip)) (gX2 hne (by omega)) (by kernel_rfl) (by kernel_rfl) (fun k st => ∃ j, j + k = l.length ∧ st = sG2 l ((l.take j).foldl linkG t0) (j : Nat)) (m := l.length) ⟨0, by omega, rfl⟩ ?_
    rintro k st ⟨j, hjk, rfl⟩
    show partD env N 21 [6] 0 _ _
    have hgj : gOk i (0 + (l.take j).length) ((l.take j).foldl linkG t0) := links_ok _ hg0 (by rw [List.length_take]; omega)
    rw [List.length_take, Nat.min_eq_left (show j ≤ l.length by omega), Nat.zero_add] at hgj
    have hnj : (l.take j).foldl linkG t0 ≠ [] := fun e => by have := hgj.1; rw [e] at this; simp at this; omega
    by_cases hj : j < l.length
    · have hx' : l[j]? = some l[j] := List.getElem?_eq_getElem hj
      refine g2_round he (by omega) hnj (by rw [hgj.1]; omega) hl.1 hx' (hl.2 _ (List.mem_of_getElem? hx')) (fun c hc => ⟨(hgj.2 c hc).1, by have := (hgj.2 c hc).2; have : (c.s.length + 1) * 64 ≤ (l.length + 1) * 64 := Nat.mul_le_mul_right _ (by omega); omega⟩) fun s hs => ?_
      refine ⟨k - 1, by omega, j + 1, by omega, ?_⟩
      show canon 0 (hintX env 21 [] 6).1 s = _
      rw [hs, List.take_add_one, hx', List.foldl_append]
      rfl
    · obtain rfl : j = l.length := by omega
      have h1 := g2_head N l ((l.take l.length).foldl linkG t0) l.length
      rw [decide_eq_false (show ¬ ((l.length : Nat) : Int) < (((l.map Lk.t).length : Nat) : Int) by rw [List.length_map]; omega)] at h1
      refine partD_x (e := .exit 2) 2 h1 ?_
      refine kP_exit (kP_exit ?_)
      simp only [if_true]
      rw [List.take_length] at hnj hgj ⊢
      show partD env N 21 [] (4 + 2 + 1) (canon 0 (hintX env 21 [] 6).2 (sG2b l (l.foldl linkG t0) l.length false)) _
      rw [gX3 hnj (by rw [hgj.1]; omega)]
      refine partD_run (i := 7) (g := freezeV 1) he (by kernel_rfl) (of_decide_eq_true (by kernel_rfl)) (gX4 hnj (by rw [hgj.1]; omega)) (fun tm H => turn_freezeV 1) ?_
      refine partD_x (e := .ret) 1 (gRet N _) ?_
      exact gEnd _
end Go.Sim

/- Trees tell their data. -/
namespace Go.Sim
set_option linter.unusedVariables false
set_option linter.unusedSimpArgs false
theorem map_tells {α : Type} {f : α → T} (h : ∀ a b, f a = f b → a = b) : ∀ {l m : List α}, l.map f = m.map f → l = m
  | [], [], _ => rfl
  | [], _ :: _, e => by simp at e
  | _ :: _, [], e => by simp at e
  | a :: l, b :: m, e => by
    simp only [List.map_cons, List.cons.injEq] at e
    rw [h a b e.1, map_tells h e.2]
theorem i64_tells (a b : Int) (h : i64 a = i64 b) : a = b := by injection h
theorem ints_tells {l m : List Int} (h : ints l = ints m) : l = m := map_tells i64_tells h
theorem Px.tells (x y : Px) (h : x.t = y.t) : x = y := by
  cases x; cases y
  simp only [Px.t, T.agg.injEq, List.cons.injEq, and_true] at h
  rw [i64_tells _ _ h.1, i64_tells _ _ h.2]
theorem En.tells (x y : En) (h : x.t = y.t) : x = y := by
  obtain ⟨⟨a, n⟩, ⟨o, s, hh, c⟩⟩ := x
  obtain ⟨⟨a', n'⟩, ⟨o', s', hh', c'⟩⟩ := y
  simp only [En.t, T.agg.injEq, List.cons.injEq, T.sl.injEq, and_true, true_and] at h
  obtain ⟨h1, h2, h3, h4, h5, h6⟩ := h
  rw [i64_tells _ _ h1, i64_tells _ _ h2, i64_tells _ _ h3, ints_tells h4, i64_tells _ _ h5, i64_tells _ _ h6]
theorem Ru.tells (x y : Ru) (h : x.t = y.t) : x = y := by
  obtain ⟨m, ⟨a, n⟩, v, b, k⟩ := x
  obtain ⟨m', ⟨a', n'⟩, v', b', k'⟩ := y
  simp only [Ru.t, T.agg.injEq, List.cons.injEq, and_true] at h
  obtain ⟨h1, h2, h3, h4, h5, h6⟩ := h
  rw [i64_tells _ _ h1, i64_tells _ _ h2, i64_tells _ _ h3, i64_tells _ _ h4, i64_tells _ _ h5, i64_tells _ _ h6]
theorem Sd.tells (x y : Sd) (h : x.t = y.t) : x = y := by
  obtain ⟨a, r, i, o⟩ := x
  obtain ⟨a', r', i', o'⟩ := y
  simp only [Sd.t, T.agg.injEq, List.cons.injEq, T.sl.injEq, and_true, true_and] at h
  obtain ⟨h1, h2, h3, h4⟩ := h
  rw [i64_tells _ _ h1, i64_tells _ _ h2, map_tells Ru.tells h3, map_tells Ru.tells h4]
theorem Cf.tells (x y : Cf) (h : x.t = y.t) : x = y := by
  obtain ⟨a, d, k, m, w, s⟩ := x
  obtain ⟨a', d', k', m', w', s'⟩ := y
  simp only [Cf.t, T.agg.injEq, List.cons.injEq, T.sl.injEq, and_true, true_and] at h
  obtain ⟨h1, h2, h3, h4, h5, h6⟩ := h
  rw [i64_tells _ _ h1, i64_tells _ _ h2, i64_tells _ _ h3, i64_tells _ _ h4, map_tells Px.tells h5, map_tells Sd.tells h6]
end Go.Sim

/- The frames of layer 16: first one without contracts, then one that has topo.Ring's and topo.Gao's. -/
namespace Go.Sim
open Go.RowKit Go.Proofs
set_option linter.unusedVariables false
set_option linter.unusedSimpArgs false
set_option linter.unusedSectionVars false
set_option maxRecDepth 100000
theorem Lk.tells (x y : Lk) (h : x.t = y.t) : x = y := by
  cases x; cases y
  simp only [Lk.t, T.agg.injEq, List.cons.injEq, and_true] at h
  simp only [i64_tells _ _ h.1, i64_tells _ _ h.2.1, i64_tells _ _ h.2.2]
/-- Nodes of which none has too many sides. -/
def roomN (t : List Cf) : Prop := ∀ c ∈ t, (c.s.length + 1) * 8 ≤ big
noncomputable def ringG (ts : List T) : Res T := open Classical in if h : ∃ t : List Cf, ts = [.sl 6 (t.map Cf.t)] ∧ okL Cf.ok t ∧ roomN t then .ok (oneT (ringR h.choose)) else .stuck
theorem ringG_ok {t : List Cf} (h : okL Cf.ok t) (hr : roomN t) : ringG [.sl 6 (t.map Cf.t)] = .ok (oneT (ringR t)) := by
  have hc : ∃ t' : List Cf, [T.sl 6 (t.map Cf.t)] = [.sl 6 (t'.map Cf.t)] ∧ okL Cf.ok t' ∧ roomN t' := ⟨t, rfl, h, hr⟩
  unfold ringG
  rw [dif_pos hc]
  have h1 := hc.choose_spec.1
  generalize hc.choose = q at h1 ⊢
  simp only [List.cons.injEq, T.sl.injEq, true_and, and_true] at h1
  rw [← map_tells Cf.tells h1]
noncomputable def gaoG (ts : List T) : Res T := open Classical in if h : ∃ q : Int × List Px × List Lk, ts = [i64 q.1, .sl 2 (q.2.1.map Px.t), .sl 3 (q.2.2.map Lk.t)] ∧ okL Px.ok q.2.1 ∧ okL Lk.ok q.2.2 ∧ (q.2.2.length + 1) * 64 ≤ big then .ok (.sl 6 ((gaoR h.choose.1 h.choose.2.1 h.choose.2.2).map Cf.t)) else .stuck
theorem gaoG_ok {n : Int} {own : List Px} {l : List Lk} (h1 : okL Px.ok own) (h2 : okL Lk.ok l) (h3 : (l.length + 1) * 64 ≤ big) : gaoG [i64 n, .sl 2 (own.map Px.t), .sl 3 (l.map Lk.t)] = .ok (.sl 6 ((gaoR n own l).map Cf.t)) := by
  have hc : ∃ q : Int × List Px × List Lk, [i64 n, .sl 2 (own.map Px.t), .sl 3 (l.map Lk.t)] = [i64 q.1, .sl 2 (q.2.1.map Px.t), .sl 3 (q.2.2.map Lk.t)] ∧ okL Px.ok q.2.1 ∧ okL Lk.ok q.2.2 ∧ (q.2.2.length + 1) * 64 ≤ big := ⟨(n, own, l), rfl, h1, h2, h3⟩
  unfold gaoG
  rw [dif_pos hc]
  have e := hc.choose_spec.1
  generalize hc.choose = q at e ⊢
  simp only [List.cons.injEq, T.sl.injEq, true_and, and_true] at e
  rw [← i64_tells _ _ e.1, ← map_tells Px.tells e.2.1, ← map_tells Lk.tells e.2.2]
@[reducible] def lv0 : Lv := {}
theorem ok0 : EnvOk (@env lv0) := @env_ok_of lv0 (fun e h => by cases h) (fun e h => by cases h) (fun e h => by cases h)
theorem ring_ext : ExtOk (@env lv0) 18 ringG := by
  refine extD_ok ok0 (f := 18) (G := ringG) fun ts hw hne => ?_
  letI := lv0
  by_cases hc : ∃ t : List Cf, ts = [.sl 6 (t.map Cf.t)] ∧ okL Cf.ok t ∧ roomN t
  · obtain ⟨t, rfl, h1, h2⟩ := hc
    exact ⟨big + 80, _, ringG_ok h1 h2, ring_funD (Nat.le_refl _) h1 h2⟩
  · refine absurd ?_ hne
    unfold ringG
    exact dif_neg hc
theorem gao_ext : ExtOk (@env lv0) 21 gaoG := by
  refine extD_ok ok0 (f := 21) (G := gaoG) fun ts hw hne => ?_
  letI := lv0
  by_cases hc : ∃ q : Int × List Px × List Lk, ts = [i64 q.1, .sl 2 (q.2.1.map Px.t), .sl 3 (q.2.2.map Lk.t)] ∧ okL Px.ok q.2.1 ∧ okL Lk.ok q.2.2 ∧ (q.2.2.length + 1) * 64 ≤ big
  · obtain ⟨⟨n, own, l⟩, rfl, h1, h2, h3⟩ := hc
    exact ⟨big + 80, _, gaoG_ok h1 h2 h3, gao_funD ok0 (by omega) h1 h2 h3⟩
  · refine absurd ?_ hne
    unfold gaoG
    exact dif_neg hc
@[reducible] noncomputable def lv1 : Lv := { ring := some ringG, gao := some gaoG }
theorem ok1 : EnvOk (@env lv1) := @env_ok_of lv1 (fun e h => by
  have h : some ringG = some e := h
  injection h with h
  subst h
  exact ExtOk.env (E := @env lv0) (E' := @env lv1) rfl rfl ring_ext) (fun e h => by
  have h : some gaoG = some e := h
  injection h with h
  subst h
  exact ExtOk.env (E := @env lv0) (E' := @env lv1) rfl rfl gao_ext) (fun e h => by cases h)
noncomputable instance lvI : Lv := lv1
theorem env_ok : EnvOk env := ok1
theorem f18_ok {M : Nat} {t : List Cf} (h : okL Cf.ok t) (hr : roomN t) : callP env M 18 [.sl 6 (t.map Cf.t)] = .ok (oneT (ringR t)) := by
  have e : callP env M 18 [.sl 6 (t.map Cf.t)] = bif T.wfs [.sl 6 (t.map Cf.t)] then ringG [.sl 6 (t.map Cf.t)] else .absurd := rfl
  rw [e, wfs1 (wf_t16 h)]
  exact ringG_ok h hr
theorem f21_ok {M : Nat} {n : Int} {own : List Px} {l : List Lk} (hn : ok64 n = true) (h1 : okL Px.ok own) (h2 : okL Lk.ok l) (h3 : (l.length + 1) * 64 ≤ big) : callP env M 21 [i64 n, .sl 2 (own.map Px.t), .sl 3 (l.map Lk.t)] = .ok (.sl 6 ((gaoR n own l).map Cf.t)) := by
  have e : callP env M 21 [i64 n, .sl 2 (own.map Px.t), .sl 3 (l.map Lk.t)] = bif T.wfs [i64 n, .sl 2 (own.map Px.t), .sl 3 (l.map Lk.t)] then gaoG [i64 n, .sl 2 (own.map Px.t), .sl 3 (l.map Lk.t)] else .absurd := rfl
  rw [e, wfs3 (wf_int hn) (wf_okL (fun _ h => Px.ok.wf h) h1) (wf_okL (fun _ h => Lk.ok.wf h) h2)]
  exact gaoG_ok h1 h2 h3
end Go.Sim

/- The document's example, on plain data. -/
namespace Go.Sim
open Go.RowKit Go.Proofs
set_option linter.unusedVariables false
set_option linter.unusedSimpArgs false
set_option linter.unusedSectionVars false
set_option maxRecDepth 100000
/-- The four nodes that the example begins with. -/
def links4 : List Lk := [⟨0, 1, 2⟩, ⟨0, 2, 1⟩, ⟨1, 3, 1⟩]
def gao4 : List Cf := [⟨65001, 167772161, 90, 1000, [], [sideG 65002 2, sideG 65003 1]⟩, ⟨65002, 167772162, 90, 1000, [], [sideG 65001 2, sideG 65004 1]⟩, ⟨65003, 167772163, 90, 1000, [], [sideG 65001 3]⟩, ⟨65004, 167772164, 90, 1000, [], [sideG 65002 3]⟩]
theorem gao4_is : gaoR 4 [] links4 = gao4 := by kernel_rfl
/-- The same, and two of them take from each other with a preference. -/
def sideP (a n : Int) : Sd := { sideG a 2 with i := [⟨0, ⟨0, 0⟩, 0, 2, n⟩] }
def twoR (n : Int) : List Cf := [⟨65001, 167772161, 90, 1000, [], [sideP 65002 n, sideG 65003 1]⟩, ⟨65002, 167772162, 90, 1000, [], [sideP 65001 n, sideG 65004 1]⟩, ⟨65003, 167772163, 90, 1000, [], [sideG 65001 3]⟩, ⟨65004, 167772164, 90, 1000, [], [sideG 65002 3]⟩]
theorem check200 : checkR (twoR 200) = (0, 0) := by kernel_rfl
theorem check310 : (checkR (twoR 310)).2 = 10 := by kernel_rfl
end Go.Sim
namespace Go.Sim
theorem dis_all : ((List.range 399).all fun j => decide ((checkR (twoR ((j : Int) + 1))).2 = if 299 < j ∨ j < 99 then 10 else 0)) = true := by kernel_rfl
end Go.Sim

/- What calls come to: printed by wip/tools/eq2.py: layer 16's statements. -/
namespace Go.Sim
open Go.RowKit Go.Proofs
set_option linter.unusedVariables false
set_option maxRecDepth 100000
variable [Lv]

theorem q10 (N : Nat)  : callP env (N + 1) 10 [] = W [] (cl N 25 [i64 310] fun x => cl N 16 [x] fun x => compT x 0 fun y => compT x 1 fun y => cl N 25 [i64 200] fun x => cl N 16 [x] fun x => compT x 0 fun y_1 => compT x 1 fun y_2 => cl N 16 [T.sl 6 []] fun x => compT x 0 fun y_3 => compT x 1 fun y_4 => cl N 25 [i64 200] fun x => cl N 14 [x, i64 0, i64 0] fun x => compT x 0 fun y_5 => compT x 1 fun y_6 => compT x 2 fun y_7 => cl N 25 [i64 200] fun x => cl N 12 [x, i64 65002] fun x => compT x 0 fun y_8 => compT x 1 fun y_9 => cl N 25 [i64 200] fun x => cl N 18 [x] fun x => compT x 0 fun y_10 => compT x 1 fun y_11 => iT IntKind.i64 y fun a => bif a == 10 then iT IntKind.i64 y_2 fun a => bif a == 0 then iT IntKind.i64 y_4 fun a => bif a == 1 then bT y_7 fun b => bif b then iT IntKind.i64 y_5 fun a => bif a == 1 then iT IntKind.i64 y_6 fun a => bif a == 0 then bT y_9 fun b => bif b then iT IntKind.i64 y_8 fun a => bif a == 1 then bT y_11 fun b => rB !b else rB false else rB false else rB false else rB false else rB false else rB false else rB false else rB false) := by kernel_rfl
theorem q8 (N : Nat) (n : Int) : callP env (N + 1) 8 [i64 n] = W [i64 n] (cl N 10 [] fun x => cl N 25 [i64 (IntKind.i64.wrap (1 + (IntKind.i64.wrap (↑(BitVec.ofInt 64 n &&& BitVec.ofInt 64 65535).toNat : Int)).tmod 399))] fun x_1 => cl N 16 [x_1] fun x_2 => compT x_2 0 fun y => compT x_2 1 fun y => bif decide (IntKind.i64.wrap (1 + (IntKind.i64.wrap (↑(BitVec.ofInt 64 n &&& BitVec.ofInt 64 65535).toNat : Int)).tmod 399) > 300) then bT x fun b => bif b then iT IntKind.i64 y fun a => rB (a == 10) else rB false else bif decide (IntKind.i64.wrap (1 + (IntKind.i64.wrap (↑(BitVec.ofInt 64 n &&& BitVec.ofInt 64 65535).toNat : Int)).tmod 399) < 100) then bT x fun b => bif b then iT IntKind.i64 y fun a => rB (a == 10) else rB false else bT x fun b => bif b then iT IntKind.i64 y fun a => rB (a == 0) else rB false) := by kernel_rfl
theorem q7 (N : Nat) (t : List Cf) : callP env (N + 1) 7 [.sl 6 (t.map Cf.t)] = W [.sl 6 (t.map Cf.t)] (cl N 10 [] fun x => clB N 11 [T.sl 6 (List.map Cf.t t)] fun b => bif !b then Res.ok x else cl N 16 [T.sl 6 (List.map Cf.t t)] fun x_1 => compT x_1 0 fun y => compT x_1 1 fun y => iT IntKind.i64 y fun a => bif a != 0 then Res.ok x else loopL env N 7 8 { tmps := slots 176 [(0, PV.t (T.sl 6 (List.map Cf.t t))), (3, PV.t x), (6, PV.t (i64 0))], heap := [] }) := by kernel_rfl
theorem q11 (N : Nat) (t : List Cf) : callP env (N + 1) 11 [.sl 6 (t.map Cf.t)] = W [.sl 6 (t.map Cf.t)] (loopL env N 11 2 { tmps := slots 19 [(0, PV.t (T.sl 6 (List.map Cf.t t))), (3, PV.t (i64 0))], heap := [] }) := by kernel_rfl
end Go.Sim

/- What calls come to: printed by wip/tools/eq2.py: two. -/
namespace Go.Sim
open Go.RowKit Go.Proofs
set_option linter.unusedVariables false
set_option maxRecDepth 100000
variable [Lv]

def sTw (n i : Int) (l : List Cf) : St := ⟨slots 55 [(0, .t (i64 n)), (3, .own 0), (4, .t (i64 i))], [.row 45 6 (l.map Cf.t)]⟩
theorem b25_5 (N : Nat) (n : Int) (l : List Cf) : bodyL env N 25 0 5 (sTw n 2 l) = Res.ok (Ex.exit 0, { tmps := slots 55 [(3, PV.own 0)], heap := [AObj.row 45 6 (List.map Cf.t l)] }) := by kernel_rfl
theorem t25_5_exit0 (N : Nat) (l : List Cf) : tailL env N 25 0 5 (outK env 25) (.exit 0) (⟨slots 55 [(3, .own 0)], [.row 45 6 (l.map Cf.t)]⟩) = Res.ok (T.sl 6 (List.map Cf.t l)) := by kernel_rfl
end Go.Sim

/- Layer 16: what its statements begin with; TopoDisagree. -/
namespace Go.Sim
open Go.RowKit Go.Proofs
set_option linter.unusedVariables false
set_option linter.unusedSimpArgs false
set_option linter.unusedSectionVars false
set_option maxRecDepth 100000
def twoH (n : Int) : List Cf := [⟨65001, 167772161, 90, 1000, [], [sideP 65002 n, sideG 65003 1]⟩, ⟨65002, 167772162, 90, 1000, [], [sideG 65001 2, sideG 65004 1]⟩, ⟨65003, 167772163, 90, 1000, [], [sideG 65001 3]⟩, ⟨65004, 167772164, 90, 1000, [], [sideG 65002 3]⟩]
theorem twB0 (N : Nat) (n : Int) : bodyL env N 25 0 5 (sTw n 0 gao4) = .ok (.norm, sTw n 1 (twoH n)) := by kernel_rfl
theorem twB1 (N : Nat) (n : Int) : bodyL env N 25 0 5 (sTw n 1 (twoH n)) = .ok (.norm, sTw n 2 (twoR n)) := by kernel_rfl
theorem links4_ok : okL Lk.ok links4 := ⟨by show 3 ≤ big; decide, fun x hx => by
  simp only [links4, List.mem_cons, List.not_mem_nil, or_false] at hx
  rcases hx with rfl | rfl | rfl <;> exact ⟨rfl, rfl, rfl⟩⟩
noncomputable def twoK [Lv] (N : Nat) (n : Int) (x : T) : Res T := slT 6 x fun ys => chk (decide ((0 + ys.length) * 80 ≤ 140737488355328)) (bif (↑ys.length : Int) != 4 then Res.ok (T.sl 6 []) else chk (decide (0 < (↑ys.length : Int))) (sllT ((ys.getD 0 T.nilp).partD 5 1 false) fun n_1 => bif n_1 != 2 then Res.ok (T.sl 6 []) else chk (decide (1 < (↑ys.length : Int))) (sllT ((ys.getD 1 T.nilp).partD 5 1 false) fun n_2 => bif n_2 != 2 then Res.ok (T.sl 6 []) else loopL env N 25 5 { tmps := slots 55 [(0, PV.t (i64 n)), (3, PV.own 0), (4, PV.t (i64 0))], heap := [AObj.row 45 6 ys] })))
theorem two_eq (N : Nat) (n : Int) : callP env (N + 1) 25 [i64 n] = W [i64 n] (cl N 21 [i64 4, T.sl 2 (([] : List Px).map Px.t), T.sl 3 (links4.map Lk.t)] (twoK N n)) := by kernel_rfl
theorem twoK_eq (N : Nat) (n : Int) : twoK N n (.sl 6 (gao4.map Cf.t)) = loopL env N 25 5 (sTw n 0 gao4) := by kernel_rfl
theorem f25_ok {M : Nat} {n : Int} (hM : big ≤ M) (hn : ok64 n = true) : callP env (M + 1) 25 [i64 n] = .ok (.sl 6 ((twoR n).map Cf.t)) := by
  have hbg := big_val
  obtain ⟨m, rfl⟩ : ∃ m, M = m + 3 := ⟨M - 3, by omega⟩
  have hg := f21_ok (M := m + 3) (n := 4) (own := []) (l := links4) rfl ⟨Nat.zero_le _, fun x hx => by cases hx⟩ links4_ok (show 4 * 64 ≤ big by decide)
  rw [gao4_is] at hg
  rw [two_eq, W_ok (wfs1 (wf_int hn)), cl_ok hg, twoK_eq]
  have it : iterR (bodyL env (m + 3) 25 0 5) (m + 3) (sTw n 0 gao4) = .ok (.exit 0, ⟨slots 55 [(3, PV.own 0)], [AObj.row 45 6 (List.map Cf.t (twoR n))]⟩) := by
    rw [iterR_step (twB0 _ n), iterR_step (twB1 _ n)]
    exact iterR_exit (b25_5 _ n (twoR n))
  exact (loopL_end it).trans (t25_5_exit0 _ (twoR n))
theorem sideG_okR {a r : Int} (ha : ok64 a = true) (h : r = 1 ∨ r = 2 ∨ r = 3) : (sideG a r).ok := sideG_ok ha (by omega) (by omega)
theorem sideP_ok {a n : Int} (ha : ok64 a = true) (hn : ok64 n = true) : (sideP a n).ok := by
  have h := sideG_okR ha (.inr (.inl rfl) : (2 : Int) = 1 ∨ (2 : Int) = 2 ∨ (2 : Int) = 3)
  exact ⟨h.a, h.r, ⟨by show 1 ≤ big; decide, fun x hx => by
    simp only [sideP, List.mem_singleton] at hx
    subst hx
    exact ⟨rfl, ⟨rfl, rfl⟩, rfl, rfl, hn⟩⟩, h.o⟩
theorem two_parts {n : Int} (hn : ok64 n = true) : okL Cf.ok (twoR n) ∧ roomN (twoR n) := by
  have hb := big_val
  have h0 : okL Px.ok [] := ⟨Nat.zero_le _, fun x hx => by cases hx⟩
  refine ⟨⟨by show 4 ≤ big; decide, fun c hc => ?_⟩, fun c hc => ?_⟩
  · simp only [twoR, List.mem_cons, List.not_mem_nil, or_false] at hc
    rcases hc with rfl | rfl | rfl | rfl
    · exact ⟨rfl, rfl, rfl, rfl, h0, ⟨by show 2 ≤ big; decide, fun x hx => by
        simp only [List.mem_cons, List.not_mem_nil, or_false] at hx
        rcases hx with rfl | rfl
        · exact sideP_ok rfl hn
        · exact sideG_okR rfl (by omega)⟩⟩
    · exact ⟨rfl, rfl, rfl, rfl, h0, ⟨by show 2 ≤ big; decide, fun x hx => by
        simp only [List.mem_cons, List.not_mem_nil, or_false] at hx
        rcases hx with rfl | rfl
        · exact sideP_ok rfl hn
        · exact sideG_okR rfl (by omega)⟩⟩
    · exact ⟨rfl, rfl, rfl, rfl, h0, ⟨by show 1 ≤ big; decide, fun x hx => by
        rw [List.mem_singleton.1 hx]
        exact sideG_okR rfl (by omega)⟩⟩
    · exact ⟨rfl, rfl, rfl, rfl, h0, ⟨by show 1 ≤ big; decide, fun x hx => by
        rw [List.mem_singleton.1 hx]
        exact sideG_okR rfl (by omega)⟩⟩
  · simp only [twoR, List.mem_cons, List.not_mem_nil, or_false] at hc
    rcases hc with rfl | rfl | rfl | rfl
    · show 3 * 8 ≤ big; decide
    · show 3 * 8 ≤ big; decide
    · show 2 * 8 ≤ big; decide
    · show 2 * 8 ≤ big; decide
/-- The check of nodes that may be told. -/
theorem check_ok {M : Nat} {t : List Cf} (hM : big + 40 ≤ M) (ht : okL Cf.ok t) (hr : roomN t) : callP env (M + 1) 16 [.sl 6 (t.map Cf.t)] = .ok (.tup [i64 ((checkR t).1 : Int), i64 (checkR t).2]) :=
  f16_ok hM ht (fun c hc => by have := hr c hc; omega) fun m => .inl (f18_ok ht hr)
theorem far200 : farR (twoR 200) 0 0 = some (1, 0) := by kernel_rfl
theorem find200 : findA (twoR 200) 65002 = some 1 := by kernel_rfl
theorem ring200 : ringR (twoR 200) = none := by kernel_rfl
theorem checkNil : checkR [] = (0, 1) := by kernel_rfl
theorem f10_ok {M : Nat} (hM : big + 50 ≤ M) : callP env (M + 1) 10 [] = .ok (.bool true) := by
  have hb := big_val
  obtain ⟨m, rfl⟩ := exM (show 1 ≤ M by omega)
  have h310 := two_parts (n := 310) rfl
  have h200 := two_parts (n := 200) rfl
  have hnil : callP env (m + 1) 16 [.sl 6 []] = .ok (.tup [i64 0, i64 1]) := by
    have := check_ok (M := m) (t := []) (by omega) ⟨Nat.zero_le _, fun x hx => by cases hx⟩ fun c hc => by cases hc
    rw [checkNil] at this
    exact this
  have hfar := f14_ok (M := m) (t := twoR 200) (i := 0) (k := 0) (by omega) h200.1 rfl rfl
  rw [far200] at hfar
  have hfind := f12_ok (M := m) (t := twoR 200) (a := 65002) (by omega) h200.1 rfl
  rw [find200] at hfind
  rw [q10, W_ok rfl, cl_ok (f25_ok (by omega) rfl), cl_ok (check_ok (by omega) h310.1 h310.2), check310]
  simp only [compT, List.getElem?_cons_zero, List.getElem?_cons_succ]
  rw [cl_ok (f25_ok (by omega) rfl), cl_ok (check_ok (by omega) h200.1 h200.2), check200]
  simp only [compT, List.getElem?_cons_zero, List.getElem?_cons_succ]
  rw [cl_ok hnil]
  simp only [compT, List.getElem?_cons_zero, List.getElem?_cons_succ]
  rw [cl_ok (f25_ok (by omega) rfl), cl_ok hfar]
  simp only [farT, compT, List.getElem?_cons_zero, List.getElem?_cons_succ]
  rw [cl_ok (f25_ok (by omega) rfl), cl_ok hfind]
  simp only [compT, List.getElem?_cons_zero, List.getElem?_cons_succ]
  rw [cl_ok (f25_ok (by omega) rfl), cl_ok (f18_ok h200.1 h200.2), ring200]
  rfl
theorem two_rest {n : Int} : ∃ j : Nat, j < 399 ∧ IntKind.i64.wrap (1 + (IntKind.i64.wrap (↑(BitVec.ofInt 64 n &&& BitVec.ofInt 64 65535).toNat : Int)).tmod 399) = (j : Int) + 1 := by
  have hlt : (BitVec.ofInt 64 n &&& BitVec.ofInt 64 65535).toNat < 65536 := by
    rw [BitVec.toNat_and]
    exact Nat.lt_of_le_of_lt (Nat.and_le_right) (by decide)
  generalize (BitVec.ofInt 64 n &&& BitVec.ofInt 64 65535).toNat = v at hlt
  rw [wrap64 (n := (v : Int)) (by omega)]
  have e : ((v : Int)).tmod 399 = ((v % 399 : Nat) : Int) := by
    rw [Int.tmod_eq_emod_of_nonneg (by omega)]; omega
  have := Nat.mod_lt v (show 399 > 0 by omega)
  refine ⟨v % 399, this, ?_⟩
  rw [e, wrap64 (by omega)]
  omega
theorem f8_ok {M : Nat} {n : Int} (hM : big + 60 ≤ M) (hn : ok64 n = true) : callP env (M + 1) 8 [i64 n] = .ok (.bool true) := by
  have hb := big_val
  obtain ⟨m, rfl⟩ := exM (show 1 ≤ M by omega)
  obtain ⟨j, hj, e⟩ := two_rest (n := n)
  rw [q8, W_ok (wfs1 (wf_int hn)), e, cl_ok (f10_ok (by omega))]
  have hk : ok64 ((j : Int) + 1) = true := ok64_iff.2 (by omega)
  have h2 := two_parts hk
  rw [cl_ok (f25_ok (by omega) hk), cl_ok (check_ok (by omega) h2.1 h2.2)]
  simp only [compT, List.getElem?_cons_zero, List.getElem?_cons_succ]
  have hd := List.all_eq_true.1 dis_all j (List.mem_range.2 hj)
  rw [of_decide_eq_true hd]
  simp only [bT, cond_true]
  by_cases h1 : 299 < j
  · rw [decide_eq_true (show (j : Int) + 1 > 300 by omega), if_pos (.inl h1)]; rfl
  rw [decide_eq_false (show ¬ (j : Int) + 1 > 300 by omega)]
  by_cases h3 : j < 99
  · rw [decide_eq_true (show (j : Int) + 1 < 100 by omega), if_pos (.inr h3)]; rfl
  rw [decide_eq_false (show ¬ (j : Int) + 1 < 100 by omega), if_neg (by omega)]; rfl
end Go.Sim
