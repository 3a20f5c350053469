/- The texts of a proof, one behind the other: an interpreter and its soundness, what the functions of the program answer, and plain laws on that. -/
import Derived.Test.YtnhmdimpgcphdabGreatX1
import Derived.Test.YtnhmdimpgcphdabGreatK3
import Derived.Test.YtnhmdimpgcphdabGreatProg
import Derived.Shelf.SlSortCmp.WholeK
set_option linter.unusedVariables false
set_option linter.unusedSimpArgs false
set_option linter.unnecessarySimpa false
set_option linter.unusedSectionVars false
/- What calls come to: printed by wip/tools/eq2.py: rounds of edge.all. -/
namespace Go.Sim
open Go.RowKit Go.Proofs
set_option linter.unusedVariables false
set_option maxRecDepth 100000
variable [Lv]

def pnI1 (c : Cf) (k : Int) (x : Px) (p : Pa) (b : Bool) : Pin := ⟨67, [.ptr 0 0, .ptr 1 0, .ptr 2 0, .ptr 3 0], inH c k x p (T.agg [i64 0, i64 0, i64 0, i64 0, i64 0, i64 0]) 0, .t (.bool b), inH c k x p (T.agg [i64 0, i64 0, i64 0, i64 0, i64 0, i64 0]) 0⟩
def pnI2 (c : Cf) (k : Int) (x : Px) (p : Pa) (b : Bool) : Pin := ⟨69, [.ptr 3 0, .ptr 0 0, .ptr 1 0], inH c k x p (T.agg [i64 0, i64 0, i64 0, i64 0, i64 0, i64 0]) 0, .t (.bool b), inH c k x p (T.agg [i64 0, i64 0, i64 0, i64 0, i64 0, i64 0]) 0⟩
def pnI3 (c : Cf) (k : Int) (x : Px) (p : Pa) (b : Bool) : Pin := ⟨70, [.ptr 3 0, .ptr 0 0], inH c k x p (T.agg [i64 0, i64 0, i64 0, i64 0, i64 0, i64 0]) 0, .t (.bool b), inH c k x p (T.agg [i64 0, i64 0, i64 0, i64 0, i64 0, i64 0]) 0⟩
def pnI4 (c : Cf) (k : Int) (x : Px) (p : Pa) (b : Bool) (o : Int) : Pin := ⟨72, [.ptr 0 0, .ptr 1 0, .ptr 3 0, .ptr 6 0], inH c k x p (T.agg [i64 0, i64 0, i64 0, i64 0, i64 0, i64 0]) 0, .t (.bool b), inH c k x p (T.agg [i64 0, i64 0, i64 0, i64 0, i64 0, i64 0]) o⟩
def pnI5 (c : Cf) (k : Int) (x : Px) (p : Pa) (b : Bool) (o : Int) (r : T) : Pin := ⟨74, [.ptr 0 0, .ptr 1 0, .ptr 2 0, .ptr 3 0, .ptr 5 0], inH c k x p (T.agg [i64 0, i64 0, i64 0, i64 0, i64 0, i64 0]) o, .t (.bool b), inH c k x p r o⟩
def pnAll (c : Cf) (k : Int) (x : Px) (p : Pa) (b : Bool) (o : Int) (r : T) : Pin := ⟨66, [.own 7], inH0 c k x p (T.agg [i64 0, i64 0, i64 0, i64 0, i64 0, i64 0]) 0, .t (.bool b), inH c k x p r o⟩
def sAl0 (c : Cf) (k : Int) (x : Px) (p : Pa) (r : T) (o : Int) : St := ⟨slots 15 [(5, .own 7), (6, .t (i64 5)), (7, .t (i64 0))], [.box 25 6 (.t c.t), .box 3 1 (.t (i64 k)), .box 28 2 (.t x.t), .box 31 4 (.t p.t), .box 45 6 (.agg [.t (i64 0), .t (i64 0), .own 8, .t (i64 0), .t (i64 0), .t (i64 0)]), .box 54 6 (.t r), .box 3 1 (.t (i64 o)), .vec 32 inV, .row 3 1 []]⟩
def sAl1 (c : Cf) (k : Int) (x : Px) (p : Pa) (r : T) (o : Int) : St := ⟨slots 15 [(5, .own 7), (6, .t (i64 5)), (7, .t (i64 1))], [.box 25 6 (.t c.t), .box 3 1 (.t (i64 k)), .box 28 2 (.t x.t), .box 31 4 (.t p.t), .box 45 6 (.agg [.t (i64 0), .t (i64 0), .own 8, .t (i64 0), .t (i64 0), .t (i64 0)]), .box 54 6 (.t r), .box 3 1 (.t (i64 o)), .vec 32 inV, .row 3 1 []]⟩
def sAl2 (c : Cf) (k : Int) (x : Px) (p : Pa) (r : T) (o : Int) : St := ⟨slots 15 [(5, .own 7), (6, .t (i64 5)), (7, .t (i64 2))], [.box 25 6 (.t c.t), .box 3 1 (.t (i64 k)), .box 28 2 (.t x.t), .box 31 4 (.t p.t), .box 45 6 (.agg [.t (i64 0), .t (i64 0), .own 8, .t (i64 0), .t (i64 0), .t (i64 0)]), .box 54 6 (.t r), .box 3 1 (.t (i64 o)), .vec 32 inV, .row 3 1 []]⟩
def sAl3 (c : Cf) (k : Int) (x : Px) (p : Pa) (r : T) (o : Int) : St := ⟨slots 15 [(5, .own 7), (6, .t (i64 5)), (7, .t (i64 3))], [.box 25 6 (.t c.t), .box 3 1 (.t (i64 k)), .box 28 2 (.t x.t), .box 31 4 (.t p.t), .box 45 6 (.agg [.t (i64 0), .t (i64 0), .own 8, .t (i64 0), .t (i64 0), .t (i64 0)]), .box 54 6 (.t r), .box 3 1 (.t (i64 o)), .vec 32 inV, .row 3 1 []]⟩
def sAl4 (c : Cf) (k : Int) (x : Px) (p : Pa) (r : T) (o : Int) : St := ⟨slots 15 [(5, .own 7), (6, .t (i64 5)), (7, .t (i64 4))], [.box 25 6 (.t c.t), .box 3 1 (.t (i64 k)), .box 28 2 (.t x.t), .box 31 4 (.t p.t), .box 45 6 (.agg [.t (i64 0), .t (i64 0), .own 8, .t (i64 0), .t (i64 0), .t (i64 0)]), .box 54 6 (.t r), .box 3 1 (.t (i64 o)), .vec 32 inV, .row 3 1 []]⟩
def sAl5 (c : Cf) (k : Int) (x : Px) (p : Pa) (r : T) (o : Int) : St := ⟨slots 15 [(5, .own 7), (6, .t (i64 5)), (7, .t (i64 5))], [.box 25 6 (.t c.t), .box 3 1 (.t (i64 k)), .box 28 2 (.t x.t), .box 31 4 (.t p.t), .box 45 6 (.agg [.t (i64 0), .t (i64 0), .own 8, .t (i64 0), .t (i64 0), .t (i64 0)]), .box 54 6 (.t r), .box 3 1 (.t (i64 o)), .vec 32 inV, .row 3 1 []]⟩
theorem pk66 (N : Nat) (c : Cf) (k : Int) (x : Px) (p : Pa) (b : Bool) {β : Type} (K : PV → List AObj → Res β) : funK env (recP env N [pnI1 c k x p b]) N 66 [.own 7] [.box 25 6 (.t c.t), .box 3 1 (.t (i64 k)), .box 28 2 (.t x.t), .box 31 4 (.t p.t), .box 45 6 (.agg [.t (i64 0), .t (i64 0), .nil 3 1, .t (i64 0), .t (i64 0), .t (i64 0)]), .box 54 6 (.t (T.agg [i64 0, i64 0, i64 0, i64 0, i64 0, i64 0])), .box 3 1 (.t (i64 0)), .vec 32 inV] K = loopR env (recP env N [pnI1 c k x p b]) N 66 8 2 K { tmps := slots 15 [(5, PV.own 7), (6, PV.t (i64 5)), (7, PV.t (i64 0))], heap := [AObj.box 25 6 (PV.t c.t), AObj.box 3 1 (PV.t (i64 k)), AObj.box 28 2 (PV.t x.t), AObj.box 31 4 (PV.t p.t), AObj.box 45 6 (PV.agg [PV.t (i64 0), PV.t (i64 0), PV.own 8, PV.t (i64 0), PV.t (i64 0), PV.t (i64 0)]), AObj.box 54 6 (PV.t (T.agg [i64 0, i64 0, i64 0, i64 0, i64 0, i64 0])), AObj.box 3 1 (PV.t (i64 0)), AObj.vec 32 [PV.fn 67 [] [PV.ptr 0 0, PV.ptr 1 0, PV.ptr 2 0, PV.ptr 3 0], PV.fn 69 [] [PV.ptr 3 0, PV.ptr 0 0, PV.ptr 1 0], PV.fn 70 [] [PV.ptr 3 0, PV.ptr 0 0], PV.fn 72 [] [PV.ptr 0 0, PV.ptr 1 0, PV.ptr 3 0, PV.ptr 6 0], PV.fn 74 [] [PV.ptr 0 0, PV.ptr 1 0, PV.ptr 2 0, PV.ptr 3 0, PV.ptr 5 0]], AObj.row 3 1 []] } := by kernel_rfl
theorem pkb66_2 (N : Nat) (c : Cf) (k : Int) (x : Px) (p : Pa) (b : Bool) : bodyR env (recP env N [pnI1 c k x p b]) N 66 8 2 (sAl0 c k x p (T.agg [i64 0, i64 0, i64 0, i64 0, i64 0, i64 0]) 0) = chkP ([PV.ptr 0 0, PV.ptr 1 0, PV.ptr 2 0, PV.ptr 3 0] = [PV.ptr 0 0, PV.ptr 1 0, PV.ptr 2 0, PV.ptr 3 0] ∧ [AObj.box 25 6 (PV.t c.t), AObj.box 3 1 (PV.t (i64 k)), AObj.box 28 2 (PV.t x.t), AObj.box 31 4 (PV.t p.t), AObj.box 45 6 (PV.agg [PV.t (i64 0), PV.t (i64 0), PV.own 8, PV.t (i64 0), PV.t (i64 0), PV.t (i64 0)]), AObj.box 54 6 (PV.t (T.agg [i64 0, i64 0, i64 0, i64 0, i64 0, i64 0])), AObj.box 3 1 (PV.t (i64 0)), AObj.vec 32 [PV.fn 67 [] [PV.ptr 0 0, PV.ptr 1 0, PV.ptr 2 0, PV.ptr 3 0], PV.fn 69 [] [PV.ptr 3 0, PV.ptr 0 0, PV.ptr 1 0], PV.fn 70 [] [PV.ptr 3 0, PV.ptr 0 0], PV.fn 72 [] [PV.ptr 0 0, PV.ptr 1 0, PV.ptr 3 0, PV.ptr 6 0], PV.fn 74 [] [PV.ptr 0 0, PV.ptr 1 0, PV.ptr 2 0, PV.ptr 3 0, PV.ptr 5 0]], AObj.row 3 1 []] = [AObj.box 25 6 (PV.t c.t), AObj.box 3 1 (PV.t (i64 k)), AObj.box 28 2 (PV.t x.t), AObj.box 31 4 (PV.t p.t), AObj.box 45 6 (PV.agg [PV.t (i64 0), PV.t (i64 0), PV.own 8, PV.t (i64 0), PV.t (i64 0), PV.t (i64 0)]), AObj.box 54 6 (PV.t (T.agg [i64 0, i64 0, i64 0, i64 0, i64 0, i64 0])), AObj.box 3 1 (PV.t (i64 0)), AObj.vec 32 [PV.fn 67 [] [PV.ptr 0 0, PV.ptr 1 0, PV.ptr 2 0, PV.ptr 3 0], PV.fn 69 [] [PV.ptr 3 0, PV.ptr 0 0, PV.ptr 1 0], PV.fn 70 [] [PV.ptr 3 0, PV.ptr 0 0], PV.fn 72 [] [PV.ptr 0 0, PV.ptr 1 0, PV.ptr 3 0, PV.ptr 6 0], PV.fn 74 [] [PV.ptr 0 0, PV.ptr 1 0, PV.ptr 2 0, PV.ptr 3 0, PV.ptr 5 0]], AObj.row 3 1 []]) (bif !b then Res.ok (Ex.ret, { tmps := slots 15 [(2, PV.t (T.bool false))], heap := [AObj.box 25 6 (PV.t c.t), AObj.box 3 1 (PV.t (i64 k)), AObj.box 28 2 (PV.t x.t), AObj.box 31 4 (PV.t p.t), AObj.box 45 6 (PV.agg [PV.t (i64 0), PV.t (i64 0), PV.own 8, PV.t (i64 0), PV.t (i64 0), PV.t (i64 0)]), AObj.box 54 6 (PV.t (T.agg [i64 0, i64 0, i64 0, i64 0, i64 0, i64 0])), AObj.box 3 1 (PV.t (i64 0)), AObj.vec 32 [PV.fn 67 [] [PV.ptr 0 0, PV.ptr 1 0, PV.ptr 2 0, PV.ptr 3 0], PV.fn 69 [] [PV.ptr 3 0, PV.ptr 0 0, PV.ptr 1 0], PV.fn 70 [] [PV.ptr 3 0, PV.ptr 0 0], PV.fn 72 [] [PV.ptr 0 0, PV.ptr 1 0, PV.ptr 3 0, PV.ptr 6 0], PV.fn 74 [] [PV.ptr 0 0, PV.ptr 1 0, PV.ptr 2 0, PV.ptr 3 0, PV.ptr 5 0]], AObj.row 3 1 []] }) else Res.ok (Ex.norm, { tmps := slots 15 [(5, PV.own 7), (6, PV.t (i64 5)), (7, PV.t (i64 1))], heap := [AObj.box 25 6 (PV.t c.t), AObj.box 3 1 (PV.t (i64 k)), AObj.box 28 2 (PV.t x.t), AObj.box 31 4 (PV.t p.t), AObj.box 45 6 (PV.agg [PV.t (i64 0), PV.t (i64 0), PV.own 8, PV.t (i64 0), PV.t (i64 0), PV.t (i64 0)]), AObj.box 54 6 (PV.t (T.agg [i64 0, i64 0, i64 0, i64 0, i64 0, i64 0])), AObj.box 3 1 (PV.t (i64 0)), AObj.vec 32 [PV.fn 67 [] [PV.ptr 0 0, PV.ptr 1 0, PV.ptr 2 0, PV.ptr 3 0], PV.fn 69 [] [PV.ptr 3 0, PV.ptr 0 0, PV.ptr 1 0], PV.fn 70 [] [PV.ptr 3 0, PV.ptr 0 0], PV.fn 72 [] [PV.ptr 0 0, PV.ptr 1 0, PV.ptr 3 0, PV.ptr 6 0], PV.fn 74 [] [PV.ptr 0 0, PV.ptr 1 0, PV.ptr 2 0, PV.ptr 3 0, PV.ptr 5 0]], AObj.row 3 1 []] })) := by kernel_rfl
theorem pkt66_2_ret (N : Nat) (c : Cf) (k : Int) (x : Px) (p : Pa) (b : Bool) (H : List AObj) {β : Type} (K : PV → List AObj → Res β) : tailR env (recP env N [pnI1 c k x p b]) N 66 8 2 K (.ret) (⟨slots 15 [(2, .t (.bool false))], H⟩) = K (PV.t (T.bool false)) H := by kernel_rfl
theorem pk66_2 (N : Nat) (c : Cf) (k : Int) (x : Px) (p : Pa) (b : Bool) {β : Type} (K : PV → List AObj → Res β) : funK env (recP env N [pnI1 c k x p true, pnI2 c k x p b]) N 66 [.own 7] [.box 25 6 (.t c.t), .box 3 1 (.t (i64 k)), .box 28 2 (.t x.t), .box 31 4 (.t p.t), .box 45 6 (.agg [.t (i64 0), .t (i64 0), .nil 3 1, .t (i64 0), .t (i64 0), .t (i64 0)]), .box 54 6 (.t (T.agg [i64 0, i64 0, i64 0, i64 0, i64 0, i64 0])), .box 3 1 (.t (i64 0)), .vec 32 inV] K = loopR env (recP env N [pnI1 c k x p true, pnI2 c k x p b]) N 66 8 2 K { tmps := slots 15 [(5, PV.own 7), (6, PV.t (i64 5)), (7, PV.t (i64 0))], heap := [AObj.box 25 6 (PV.t c.t), AObj.box 3 1 (PV.t (i64 k)), AObj.box 28 2 (PV.t x.t), AObj.box 31 4 (PV.t p.t), AObj.box 45 6 (PV.agg [PV.t (i64 0), PV.t (i64 0), PV.own 8, PV.t (i64 0), PV.t (i64 0), PV.t (i64 0)]), AObj.box 54 6 (PV.t (T.agg [i64 0, i64 0, i64 0, i64 0, i64 0, i64 0])), AObj.box 3 1 (PV.t (i64 0)), AObj.vec 32 [PV.fn 67 [] [PV.ptr 0 0, PV.ptr 1 0, PV.ptr 2 0, PV.ptr 3 0], PV.fn 69 [] [PV.ptr 3 0, PV.ptr 0 0, PV.ptr 1 0], PV.fn 70 [] [PV.ptr 3 0, PV.ptr 0 0], PV.fn 72 [] [PV.ptr 0 0, PV.ptr 1 0, PV.ptr 3 0, PV.ptr 6 0], PV.fn 74 [] [PV.ptr 0 0, PV.ptr 1 0, PV.ptr 2 0, PV.ptr 3 0, PV.ptr 5 0]], AObj.row 3 1 []] } := by kernel_rfl
theorem pkb66_2_2 (N : Nat) (c : Cf) (k : Int) (x : Px) (p : Pa) (b : Bool) : bodyR env (recP env N [pnI1 c k x p true, pnI2 c k x p b]) N 66 8 2 (sAl0 c k x p (T.agg [i64 0, i64 0, i64 0, i64 0, i64 0, i64 0]) 0) = chkP ([PV.ptr 0 0, PV.ptr 1 0, PV.ptr 2 0, PV.ptr 3 0] = [PV.ptr 0 0, PV.ptr 1 0, PV.ptr 2 0, PV.ptr 3 0] ∧ [AObj.box 25 6 (PV.t c.t), AObj.box 3 1 (PV.t (i64 k)), AObj.box 28 2 (PV.t x.t), AObj.box 31 4 (PV.t p.t), AObj.box 45 6 (PV.agg [PV.t (i64 0), PV.t (i64 0), PV.own 8, PV.t (i64 0), PV.t (i64 0), PV.t (i64 0)]), AObj.box 54 6 (PV.t (T.agg [i64 0, i64 0, i64 0, i64 0, i64 0, i64 0])), AObj.box 3 1 (PV.t (i64 0)), AObj.vec 32 [PV.fn 67 [] [PV.ptr 0 0, PV.ptr 1 0, PV.ptr 2 0, PV.ptr 3 0], PV.fn 69 [] [PV.ptr 3 0, PV.ptr 0 0, PV.ptr 1 0], PV.fn 70 [] [PV.ptr 3 0, PV.ptr 0 0], PV.fn 72 [] [PV.ptr 0 0, PV.ptr 1 0, PV.ptr 3 0, PV.ptr 6 0], PV.fn 74 [] [PV.ptr 0 0, PV.ptr 1 0, PV.ptr 2 0, PV.ptr 3 0, PV.ptr 5 0]], AObj.row 3 1 []] = [AObj.box 25 6 (PV.t c.t), AObj.box 3 1 (PV.t (i64 k)), AObj.box 28 2 (PV.t x.t), AObj.box 31 4 (PV.t p.t), AObj.box 45 6 (PV.agg [PV.t (i64 0), PV.t (i64 0), PV.own 8, PV.t (i64 0), PV.t (i64 0), PV.t (i64 0)]), AObj.box 54 6 (PV.t (T.agg [i64 0, i64 0, i64 0, i64 0, i64 0, i64 0])), AObj.box 3 1 (PV.t (i64 0)), AObj.vec 32 [PV.fn 67 [] [PV.ptr 0 0, PV.ptr 1 0, PV.ptr 2 0, PV.ptr 3 0], PV.fn 69 [] [PV.ptr 3 0, PV.ptr 0 0, PV.ptr 1 0], PV.fn 70 [] [PV.ptr 3 0, PV.ptr 0 0], PV.fn 72 [] [PV.ptr 0 0, PV.ptr 1 0, PV.ptr 3 0, PV.ptr 6 0], PV.fn 74 [] [PV.ptr 0 0, PV.ptr 1 0, PV.ptr 2 0, PV.ptr 3 0, PV.ptr 5 0]], AObj.row 3 1 []]) (Res.ok (Ex.norm, { tmps := slots 15 [(5, PV.own 7), (6, PV.t (i64 5)), (7, PV.t (i64 1))], heap := [AObj.box 25 6 (PV.t c.t), AObj.box 3 1 (PV.t (i64 k)), AObj.box 28 2 (PV.t x.t), AObj.box 31 4 (PV.t p.t), AObj.box 45 6 (PV.agg [PV.t (i64 0), PV.t (i64 0), PV.own 8, PV.t (i64 0), PV.t (i64 0), PV.t (i64 0)]), AObj.box 54 6 (PV.t (T.agg [i64 0, i64 0, i64 0, i64 0, i64 0, i64 0])), AObj.box 3 1 (PV.t (i64 0)), AObj.vec 32 [PV.fn 67 [] [PV.ptr 0 0, PV.ptr 1 0, PV.ptr 2 0, PV.ptr 3 0], PV.fn 69 [] [PV.ptr 3 0, PV.ptr 0 0, PV.ptr 1 0], PV.fn 70 [] [PV.ptr 3 0, PV.ptr 0 0], PV.fn 72 [] [PV.ptr 0 0, PV.ptr 1 0, PV.ptr 3 0, PV.ptr 6 0], PV.fn 74 [] [PV.ptr 0 0, PV.ptr 1 0, PV.ptr 2 0, PV.ptr 3 0, PV.ptr 5 0]], AObj.row 3 1 []] })) := by kernel_rfl
theorem pkb66_2_3 (N : Nat) (c : Cf) (k : Int) (x : Px) (p : Pa) (b : Bool) : bodyR env (recP env N [pnI1 c k x p true, pnI2 c k x p b]) N 66 8 2 (sAl1 c k x p (T.agg [i64 0, i64 0, i64 0, i64 0, i64 0, i64 0]) 0) = chkP ([PV.ptr 3 0, PV.ptr 0 0, PV.ptr 1 0] = [PV.ptr 3 0, PV.ptr 0 0, PV.ptr 1 0] ∧ [AObj.box 25 6 (PV.t c.t), AObj.box 3 1 (PV.t (i64 k)), AObj.box 28 2 (PV.t x.t), AObj.box 31 4 (PV.t p.t), AObj.box 45 6 (PV.agg [PV.t (i64 0), PV.t (i64 0), PV.own 8, PV.t (i64 0), PV.t (i64 0), PV.t (i64 0)]), AObj.box 54 6 (PV.t (T.agg [i64 0, i64 0, i64 0, i64 0, i64 0, i64 0])), AObj.box 3 1 (PV.t (i64 0)), AObj.vec 32 [PV.fn 67 [] [PV.ptr 0 0, PV.ptr 1 0, PV.ptr 2 0, PV.ptr 3 0], PV.fn 69 [] [PV.ptr 3 0, PV.ptr 0 0, PV.ptr 1 0], PV.fn 70 [] [PV.ptr 3 0, PV.ptr 0 0], PV.fn 72 [] [PV.ptr 0 0, PV.ptr 1 0, PV.ptr 3 0, PV.ptr 6 0], PV.fn 74 [] [PV.ptr 0 0, PV.ptr 1 0, PV.ptr 2 0, PV.ptr 3 0, PV.ptr 5 0]], AObj.row 3 1 []] = [AObj.box 25 6 (PV.t c.t), AObj.box 3 1 (PV.t (i64 k)), AObj.box 28 2 (PV.t x.t), AObj.box 31 4 (PV.t p.t), AObj.box 45 6 (PV.agg [PV.t (i64 0), PV.t (i64 0), PV.own 8, PV.t (i64 0), PV.t (i64 0), PV.t (i64 0)]), AObj.box 54 6 (PV.t (T.agg [i64 0, i64 0, i64 0, i64 0, i64 0, i64 0])), AObj.box 3 1 (PV.t (i64 0)), AObj.vec 32 [PV.fn 67 [] [PV.ptr 0 0, PV.ptr 1 0, PV.ptr 2 0, PV.ptr 3 0], PV.fn 69 [] [PV.ptr 3 0, PV.ptr 0 0, PV.ptr 1 0], PV.fn 70 [] [PV.ptr 3 0, PV.ptr 0 0], PV.fn 72 [] [PV.ptr 0 0, PV.ptr 1 0, PV.ptr 3 0, PV.ptr 6 0], PV.fn 74 [] [PV.ptr 0 0, PV.ptr 1 0, PV.ptr 2 0, PV.ptr 3 0, PV.ptr 5 0]], AObj.row 3 1 []]) (bif !b then Res.ok (Ex.ret, { tmps := slots 15 [(2, PV.t (T.bool false))], heap := [AObj.box 25 6 (PV.t c.t), AObj.box 3 1 (PV.t (i64 k)), AObj.box 28 2 (PV.t x.t), AObj.box 31 4 (PV.t p.t), AObj.box 45 6 (PV.agg [PV.t (i64 0), PV.t (i64 0), PV.own 8, PV.t (i64 0), PV.t (i64 0), PV.t (i64 0)]), AObj.box 54 6 (PV.t (T.agg [i64 0, i64 0, i64 0, i64 0, i64 0, i64 0])), AObj.box 3 1 (PV.t (i64 0)), AObj.vec 32 [PV.fn 67 [] [PV.ptr 0 0, PV.ptr 1 0, PV.ptr 2 0, PV.ptr 3 0], PV.fn 69 [] [PV.ptr 3 0, PV.ptr 0 0, PV.ptr 1 0], PV.fn 70 [] [PV.ptr 3 0, PV.ptr 0 0], PV.fn 72 [] [PV.ptr 0 0, PV.ptr 1 0, PV.ptr 3 0, PV.ptr 6 0], PV.fn 74 [] [PV.ptr 0 0, PV.ptr 1 0, PV.ptr 2 0, PV.ptr 3 0, PV.ptr 5 0]], AObj.row 3 1 []] }) else Res.ok (Ex.norm, { tmps := slots 15 [(5, PV.own 7), (6, PV.t (i64 5)), (7, PV.t (i64 2))], heap := [AObj.box 25 6 (PV.t c.t), AObj.box 3 1 (PV.t (i64 k)), AObj.box 28 2 (PV.t x.t), AObj.box 31 4 (PV.t p.t), AObj.box 45 6 (PV.agg [PV.t (i64 0), PV.t (i64 0), PV.own 8, PV.t (i64 0), PV.t (i64 0), PV.t (i64 0)]), AObj.box 54 6 (PV.t (T.agg [i64 0, i64 0, i64 0, i64 0, i64 0, i64 0])), AObj.box 3 1 (PV.t (i64 0)), AObj.vec 32 [PV.fn 67 [] [PV.ptr 0 0, PV.ptr 1 0, PV.ptr 2 0, PV.ptr 3 0], PV.fn 69 [] [PV.ptr 3 0, PV.ptr 0 0, PV.ptr 1 0], PV.fn 70 [] [PV.ptr 3 0, PV.ptr 0 0], PV.fn 72 [] [PV.ptr 0 0, PV.ptr 1 0, PV.ptr 3 0, PV.ptr 6 0], PV.fn 74 [] [PV.ptr 0 0, PV.ptr 1 0, PV.ptr 2 0, PV.ptr 3 0, PV.ptr 5 0]], AObj.row 3 1 []] })) := by kernel_rfl
theorem pkt66_2_ret_2 (N : Nat) (c : Cf) (k : Int) (x : Px) (p : Pa) (b : Bool) (H : List AObj) {β : Type} (K : PV → List AObj → Res β) : tailR env (recP env N [pnI1 c k x p true, pnI2 c k x p b]) N 66 8 2 K (.ret) (⟨slots 15 [(2, .t (.bool false))], H⟩) = K (PV.t (T.bool false)) H := by kernel_rfl
theorem pk66_3 (N : Nat) (c : Cf) (k : Int) (x : Px) (p : Pa) (b : Bool) {β : Type} (K : PV → List AObj → Res β) : funK env (recP env N [pnI1 c k x p true, pnI2 c k x p true, pnI3 c k x p b]) N 66 [.own 7] [.box 25 6 (.t c.t), .box 3 1 (.t (i64 k)), .box 28 2 (.t x.t), .box 31 4 (.t p.t), .box 45 6 (.agg [.t (i64 0), .t (i64 0), .nil 3 1, .t (i64 0), .t (i64 0), .t (i64 0)]), .box 54 6 (.t (T.agg [i64 0, i64 0, i64 0, i64 0, i64 0, i64 0])), .box 3 1 (.t (i64 0)), .vec 32 inV] K = loopR env (recP env N [pnI1 c k x p true, pnI2 c k x p true, pnI3 c k x p b]) N 66 8 2 K { tmps := slots 15 [(5, PV.own 7), (6, PV.t (i64 5)), (7, PV.t (i64 0))], heap := [AObj.box 25 6 (PV.t c.t), AObj.box 3 1 (PV.t (i64 k)), AObj.box 28 2 (PV.t x.t), AObj.box 31 4 (PV.t p.t), AObj.box 45 6 (PV.agg [PV.t (i64 0), PV.t (i64 0), PV.own 8, PV.t (i64 0), PV.t (i64 0), PV.t (i64 0)]), AObj.box 54 6 (PV.t (T.agg [i64 0, i64 0, i64 0, i64 0, i64 0, i64 0])), AObj.box 3 1 (PV.t (i64 0)), AObj.vec 32 [PV.fn 67 [] [PV.ptr 0 0, PV.ptr 1 0, PV.ptr 2 0, PV.ptr 3 0], PV.fn 69 [] [PV.ptr 3 0, PV.ptr 0 0, PV.ptr 1 0], PV.fn 70 [] [PV.ptr 3 0, PV.ptr 0 0], PV.fn 72 [] [PV.ptr 0 0, PV.ptr 1 0, PV.ptr 3 0, PV.ptr 6 0], PV.fn 74 [] [PV.ptr 0 0, PV.ptr 1 0, PV.ptr 2 0, PV.ptr 3 0, PV.ptr 5 0]], AObj.row 3 1 []] } := by kernel_rfl
theorem pkb66_2_4 (N : Nat) (c : Cf) (k : Int) (x : Px) (p : Pa) (b : Bool) : bodyR env (recP env N [pnI1 c k x p true, pnI2 c k x p true, pnI3 c k x p b]) N 66 8 2 (sAl0 c k x p (T.agg [i64 0, i64 0, i64 0, i64 0, i64 0, i64 0]) 0) = chkP ([PV.ptr 0 0, PV.ptr 1 0, PV.ptr 2 0, PV.ptr 3 0] = [PV.ptr 0 0, PV.ptr 1 0, PV.ptr 2 0, PV.ptr 3 0] ∧ [AObj.box 25 6 (PV.t c.t), AObj.box 3 1 (PV.t (i64 k)), AObj.box 28 2 (PV.t x.t), AObj.box 31 4 (PV.t p.t), AObj.box 45 6 (PV.agg [PV.t (i64 0), PV.t (i64 0), PV.own 8, PV.t (i64 0), PV.t (i64 0), PV.t (i64 0)]), AObj.box 54 6 (PV.t (T.agg [i64 0, i64 0, i64 0, i64 0, i64 0, i64 0])), AObj.box 3 1 (PV.t (i64 0)), AObj.vec 32 [PV.fn 67 [] [PV.ptr 0 0, PV.ptr 1 0, PV.ptr 2 0, PV.ptr 3 0], PV.fn 69 [] [PV.ptr 3 0, PV.ptr 0 0, PV.ptr 1 0], PV.fn 70 [] [PV.ptr 3 0, PV.ptr 0 0], PV.fn 72 [] [PV.ptr 0 0, PV.ptr 1 0, PV.ptr 3 0, PV.ptr 6 0], PV.fn 74 [] [PV.ptr 0 0, PV.ptr 1 0, PV.ptr 2 0, PV.ptr 3 0, PV.ptr 5 0]], AObj.row 3 1 []] = [AObj.box 25 6 (PV.t c.t), AObj.box 3 1 (PV.t (i64 k)), AObj.box 28 2 (PV.t x.t), AObj.box 31 4 (PV.t p.t), AObj.box 45 6 (PV.agg [PV.t (i64 0), PV.t (i64 0), PV.own 8, PV.t (i64 0), PV.t (i64 0), PV.t (i64 0)]), AObj.box 54 6 (PV.t (T.agg [i64 0, i64 0, i64 0, i64 0, i64 0, i64 0])), AObj.box 3 1 (PV.t (i64 0)), AObj.vec 32 [PV.fn 67 [] [PV.ptr 0 0, PV.ptr 1 0, PV.ptr 2 0, PV.ptr 3 0], PV.fn 69 [] [PV.ptr 3 0, PV.ptr 0 0, PV.ptr 1 0], PV.fn 70 [] [PV.ptr 3 0, PV.ptr 0 0], PV.fn 72 [] [PV.ptr 0 0, PV.ptr 1 0, PV.ptr 3 0, PV.ptr 6 0], PV.fn 74 [] [PV.ptr 0 0, PV.ptr 1 0, PV.ptr 2 0, PV.ptr 3 0, PV.ptr 5 0]], AObj.row 3 1 []]) (Res.ok (Ex.norm, { tmps := slots 15 [(5, PV.own 7), (6, PV.t (i64 5)), (7, PV.t (i64 1))], heap := [AObj.box 25 6 (PV.t c.t), AObj.box 3 1 (PV.t (i64 k)), AObj.box 28 2 (PV.t x.t), AObj.box 31 4 (PV.t p.t), AObj.box 45 6 (PV.agg [PV.t (i64 0), PV.t (i64 0), PV.own 8, PV.t (i64 0), PV.t (i64 0), PV.t (i64 0)]), AObj.box 54 6 (PV.t (T.agg [i64 0, i64 0, i64 0, i64 0, i64 0, i64 0])), AObj.box 3 1 (PV.t (i64 0)), AObj.vec 32 [PV.fn 67 [] [PV.ptr 0 0, PV.ptr 1 0, PV.ptr 2 0, PV.ptr 3 0], PV.fn 69 [] [PV.ptr 3 0, PV.ptr 0 0, PV.ptr 1 0], PV.fn 70 [] [PV.ptr 3 0, PV.ptr 0 0], PV.fn 72 [] [PV.ptr 0 0, PV.ptr 1 0, PV.ptr 3 0, PV.ptr 6 0], PV.fn 74 [] [PV.ptr 0 0, PV.ptr 1 0, PV.ptr 2 0, PV.ptr 3 0, PV.ptr 5 0]], AObj.row 3 1 []] })) := by kernel_rfl
theorem pkb66_2_5 (N : Nat) (c : Cf) (k : Int) (x : Px) (p : Pa) (b : Bool) : bodyR env (recP env N [pnI1 c k x p true, pnI2 c k x p true, pnI3 c k x p b]) N 66 8 2 (sAl1 c k x p (T.agg [i64 0, i64 0, i64 0, i64 0, i64 0, i64 0]) 0) = chkP ([PV.ptr 3 0, PV.ptr 0 0, PV.ptr 1 0] = [PV.ptr 3 0, PV.ptr 0 0, PV.ptr 1 0] ∧ [AObj.box 25 6 (PV.t c.t), AObj.box 3 1 (PV.t (i64 k)), AObj.box 28 2 (PV.t x.t), AObj.box 31 4 (PV.t p.t), AObj.box 45 6 (PV.agg [PV.t (i64 0), PV.t (i64 0), PV.own 8, PV.t (i64 0), PV.t (i64 0), PV.t (i64 0)]), AObj.box 54 6 (PV.t (T.agg [i64 0, i64 0, i64 0, i64 0, i64 0, i64 0])), AObj.box 3 1 (PV.t (i64 0)), AObj.vec 32 [PV.fn 67 [] [PV.ptr 0 0, PV.ptr 1 0, PV.ptr 2 0, PV.ptr 3 0], PV.fn 69 [] [PV.ptr 3 0, PV.ptr 0 0, PV.ptr 1 0], PV.fn 70 [] [PV.ptr 3 0, PV.ptr 0 0], PV.fn 72 [] [PV.ptr 0 0, PV.ptr 1 0, PV.ptr 3 0, PV.ptr 6 0], PV.fn 74 [] [PV.ptr 0 0, PV.ptr 1 0, PV.ptr 2 0, PV.ptr 3 0, PV.ptr 5 0]], AObj.row 3 1 []] = [AObj.box 25 6 (PV.t c.t), AObj.box 3 1 (PV.t (i64 k)), AObj.box 28 2 (PV.t x.t), AObj.box 31 4 (PV.t p.t), AObj.box 45 6 (PV.agg [PV.t (i64 0), PV.t (i64 0), PV.own 8, PV.t (i64 0), PV.t (i64 0), PV.t (i64 0)]), AObj.box 54 6 (PV.t (T.agg [i64 0, i64 0, i64 0, i64 0, i64 0, i64 0])), AObj.box 3 1 (PV.t (i64 0)), AObj.vec 32 [PV.fn 67 [] [PV.ptr 0 0, PV.ptr 1 0, PV.ptr 2 0, PV.ptr 3 0], PV.fn 69 [] [PV.ptr 3 0, PV.ptr 0 0, PV.ptr 1 0], PV.fn 70 [] [PV.ptr 3 0, PV.ptr 0 0], PV.fn 72 [] [PV.ptr 0 0, PV.ptr 1 0, PV.ptr 3 0, PV.ptr 6 0], PV.fn 74 [] [PV.ptr 0 0, PV.ptr 1 0, PV.ptr 2 0, PV.ptr 3 0, PV.ptr 5 0]], AObj.row 3 1 []]) (Res.ok (Ex.norm, { tmps := slots 15 [(5, PV.own 7), (6, PV.t (i64 5)), (7, PV.t (i64 2))], heap := [AObj.box 25 6 (PV.t c.t), AObj.box 3 1 (PV.t (i64 k)), AObj.box 28 2 (PV.t x.t), AObj.box 31 4 (PV.t p.t), AObj.box 45 6 (PV.agg [PV.t (i64 0), PV.t (i64 0), PV.own 8, PV.t (i64 0), PV.t (i64 0), PV.t (i64 0)]), AObj.box 54 6 (PV.t (T.agg [i64 0, i64 0, i64 0, i64 0, i64 0, i64 0])), AObj.box 3 1 (PV.t (i64 0)), AObj.vec 32 [PV.fn 67 [] [PV.ptr 0 0, PV.ptr 1 0, PV.ptr 2 0, PV.ptr 3 0], PV.fn 69 [] [PV.ptr 3 0, PV.ptr 0 0, PV.ptr 1 0], PV.fn 70 [] [PV.ptr 3 0, PV.ptr 0 0], PV.fn 72 [] [PV.ptr 0 0, PV.ptr 1 0, PV.ptr 3 0, PV.ptr 6 0], PV.fn 74 [] [PV.ptr 0 0, PV.ptr 1 0, PV.ptr 2 0, PV.ptr 3 0, PV.ptr 5 0]], AObj.row 3 1 []] })) := by kernel_rfl
theorem pkb66_2_6 (N : Nat) (c : Cf) (k : Int) (x : Px) (p : Pa) (b : Bool) : bodyR env (recP env N [pnI1 c k x p true, pnI2 c k x p true, pnI3 c k x p b]) N 66 8 2 (sAl2 c k x p (T.agg [i64 0, i64 0, i64 0, i64 0, i64 0, i64 0]) 0) = chkP ([PV.ptr 3 0, PV.ptr 0 0] = [PV.ptr 3 0, PV.ptr 0 0] ∧ [AObj.box 25 6 (PV.t c.t), AObj.box 3 1 (PV.t (i64 k)), AObj.box 28 2 (PV.t x.t), AObj.box 31 4 (PV.t p.t), AObj.box 45 6 (PV.agg [PV.t (i64 0), PV.t (i64 0), PV.own 8, PV.t (i64 0), PV.t (i64 0), PV.t (i64 0)]), AObj.box 54 6 (PV.t (T.agg [i64 0, i64 0, i64 0, i64 0, i64 0, i64 0])), AObj.box 3 1 (PV.t (i64 0)), AObj.vec 32 [PV.fn 67 [] [PV.ptr 0 0, PV.ptr 1 0, PV.ptr 2 0, PV.ptr 3 0], PV.fn 69 [] [PV.ptr 3 0, PV.ptr 0 0, PV.ptr 1 0], PV.fn 70 [] [PV.ptr 3 0, PV.ptr 0 0], PV.fn 72 [] [PV.ptr 0 0, PV.ptr 1 0, PV.ptr 3 0, PV.ptr 6 0], PV.fn 74 [] [PV.ptr 0 0, PV.ptr 1 0, PV.ptr 2 0, PV.ptr 3 0, PV.ptr 5 0]], AObj.row 3 1 []] = [AObj.box 25 6 (PV.t c.t), AObj.box 3 1 (PV.t (i64 k)), AObj.box 28 2 (PV.t x.t), AObj.box 31 4 (PV.t p.t), AObj.box 45 6 (PV.agg [PV.t (i64 0), PV.t (i64 0), PV.own 8, PV.t (i64 0), PV.t (i64 0), PV.t (i64 0)]), AObj.box 54 6 (PV.t (T.agg [i64 0, i64 0, i64 0, i64 0, i64 0, i64 0])), AObj.box 3 1 (PV.t (i64 0)), AObj.vec 32 [PV.fn 67 [] [PV.ptr 0 0, PV.ptr 1 0, PV.ptr 2 0, PV.ptr 3 0], PV.fn 69 [] [PV.ptr 3 0, PV.ptr 0 0, PV.ptr 1 0], PV.fn 70 [] [PV.ptr 3 0, PV.ptr 0 0], PV.fn 72 [] [PV.ptr 0 0, PV.ptr 1 0, PV.ptr 3 0, PV.ptr 6 0], PV.fn 74 [] [PV.ptr 0 0, PV.ptr 1 0, PV.ptr 2 0, PV.ptr 3 0, PV.ptr 5 0]], AObj.row 3 1 []]) (bif !b then Res.ok (Ex.ret, { tmps := slots 15 [(2, PV.t (T.bool false))], heap := [AObj.box 25 6 (PV.t c.t), AObj.box 3 1 (PV.t (i64 k)), AObj.box 28 2 (PV.t x.t), AObj.box 31 4 (PV.t p.t), AObj.box 45 6 (PV.agg [PV.t (i64 0), PV.t (i64 0), PV.own 8, PV.t (i64 0), PV.t (i64 0), PV.t (i64 0)]), AObj.box 54 6 (PV.t (T.agg [i64 0, i64 0, i64 0, i64 0, i64 0, i64 0])), AObj.box 3 1 (PV.t (i64 0)), AObj.vec 32 [PV.fn 67 [] [PV.ptr 0 0, PV.ptr 1 0, PV.ptr 2 0, PV.ptr 3 0], PV.fn 69 [] [PV.ptr 3 0, PV.ptr 0 0, PV.ptr 1 0], PV.fn 70 [] [PV.ptr 3 0, PV.ptr 0 0], PV.fn 72 [] [PV.ptr 0 0, PV.ptr 1 0, PV.ptr 3 0, PV.ptr 6 0], PV.fn 74 [] [PV.ptr 0 0, PV.ptr 1 0, PV.ptr 2 0, PV.ptr 3 0, PV.ptr 5 0]], AObj.row 3 1 []] }) else Res.ok (Ex.norm, { tmps := slots 15 [(5, PV.own 7), (6, PV.t (i64 5)), (7, PV.t (i64 3))], heap := [AObj.box 25 6 (PV.t c.t), AObj.box 3 1 (PV.t (i64 k)), AObj.box 28 2 (PV.t x.t), AObj.box 31 4 (PV.t p.t), AObj.box 45 6 (PV.agg [PV.t (i64 0), PV.t (i64 0), PV.own 8, PV.t (i64 0), PV.t (i64 0), PV.t (i64 0)]), AObj.box 54 6 (PV.t (T.agg [i64 0, i64 0, i64 0, i64 0, i64 0, i64 0])), AObj.box 3 1 (PV.t (i64 0)), AObj.vec 32 [PV.fn 67 [] [PV.ptr 0 0, PV.ptr 1 0, PV.ptr 2 0, PV.ptr 3 0], PV.fn 69 [] [PV.ptr 3 0, PV.ptr 0 0, PV.ptr 1 0], PV.fn 70 [] [PV.ptr 3 0, PV.ptr 0 0], PV.fn 72 [] [PV.ptr 0 0, PV.ptr 1 0, PV.ptr 3 0, PV.ptr 6 0], PV.fn 74 [] [PV.ptr 0 0, PV.ptr 1 0, PV.ptr 2 0, PV.ptr 3 0, PV.ptr 5 0]], AObj.row 3 1 []] })) := by kernel_rfl
theorem pkt66_2_ret_3 (N : Nat) (c : Cf) (k : Int) (x : Px) (p : Pa) (b : Bool) (H : List AObj) {β : Type} (K : PV → List AObj → Res β) : tailR env (recP env N [pnI1 c k x p true, pnI2 c k x p true, pnI3 c k x p b]) N 66 8 2 K (.ret) (⟨slots 15 [(2, .t (.bool false))], H⟩) = K (PV.t (T.bool false)) H := by kernel_rfl
theorem pk66_4 (N : Nat) (c : Cf) (k : Int) (x : Px) (p : Pa) (b : Bool) (o : Int) {β : Type} (K : PV → List AObj → Res β) : funK env (recP env N [pnI1 c k x p true, pnI2 c k x p true, pnI3 c k x p true, pnI4 c k x p b o]) N 66 [.own 7] [.box 25 6 (.t c.t), .box 3 1 (.t (i64 k)), .box 28 2 (.t x.t), .box 31 4 (.t p.t), .box 45 6 (.agg [.t (i64 0), .t (i64 0), .nil 3 1, .t (i64 0), .t (i64 0), .t (i64 0)]), .box 54 6 (.t (T.agg [i64 0, i64 0, i64 0, i64 0, i64 0, i64 0])), .box 3 1 (.t (i64 0)), .vec 32 inV] K = loopR env (recP env N [pnI1 c k x p true, pnI2 c k x p true, pnI3 c k x p true, pnI4 c k x p b o]) N 66 8 2 K { tmps := slots 15 [(5, PV.own 7), (6, PV.t (i64 5)), (7, PV.t (i64 0))], heap := [AObj.box 25 6 (PV.t c.t), AObj.box 3 1 (PV.t (i64 k)), AObj.box 28 2 (PV.t x.t), AObj.box 31 4 (PV.t p.t), AObj.box 45 6 (PV.agg [PV.t (i64 0), PV.t (i64 0), PV.own 8, PV.t (i64 0), PV.t (i64 0), PV.t (i64 0)]), AObj.box 54 6 (PV.t (T.agg [i64 0, i64 0, i64 0, i64 0, i64 0, i64 0])), AObj.box 3 1 (PV.t (i64 0)), AObj.vec 32 [PV.fn 67 [] [PV.ptr 0 0, PV.ptr 1 0, PV.ptr 2 0, PV.ptr 3 0], PV.fn 69 [] [PV.ptr 3 0, PV.ptr 0 0, PV.ptr 1 0], PV.fn 70 [] [PV.ptr 3 0, PV.ptr 0 0], PV.fn 72 [] [PV.ptr 0 0, PV.ptr 1 0, PV.ptr 3 0, PV.ptr 6 0], PV.fn 74 [] [PV.ptr 0 0, PV.ptr 1 0, PV.ptr 2 0, PV.ptr 3 0, PV.ptr 5 0]], AObj.row 3 1 []] } := by kernel_rfl
theorem pkb66_2_7 (N : Nat) (c : Cf) (k : Int) (x : Px) (p : Pa) (b : Bool) (o : Int) : bodyR env (recP env N [pnI1 c k x p true, pnI2 c k x p true, pnI3 c k x p true, pnI4 c k x p b o]) N 66 8 2 (sAl0 c k x p (T.agg [i64 0, i64 0, i64 0, i64 0, i64 0, i64 0]) 0) = chkP ([PV.ptr 0 0, PV.ptr 1 0, PV.ptr 2 0, PV.ptr 3 0] = [PV.ptr 0 0, PV.ptr 1 0, PV.ptr 2 0, PV.ptr 3 0] ∧ [AObj.box 25 6 (PV.t c.t), AObj.box 3 1 (PV.t (i64 k)), AObj.box 28 2 (PV.t x.t), AObj.box 31 4 (PV.t p.t), AObj.box 45 6 (PV.agg [PV.t (i64 0), PV.t (i64 0), PV.own 8, PV.t (i64 0), PV.t (i64 0), PV.t (i64 0)]), AObj.box 54 6 (PV.t (T.agg [i64 0, i64 0, i64 0, i64 0, i64 0, i64 0])), AObj.box 3 1 (PV.t (i64 0)), AObj.vec 32 [PV.fn 67 [] [PV.ptr 0 0, PV.ptr 1 0, PV.ptr 2 0, PV.ptr 3 0], PV.fn 69 [] [PV.ptr 3 0, PV.ptr 0 0, PV.ptr 1 0], PV.fn 70 [] [PV.ptr 3 0, PV.ptr 0 0], PV.fn 72 [] [PV.ptr 0 0, PV.ptr 1 0, PV.ptr 3 0, PV.ptr 6 0], PV.fn 74 [] [PV.ptr 0 0, PV.ptr 1 0, PV.ptr 2 0, PV.ptr 3 0, PV.ptr 5 0]], AObj.row 3 1 []] = [AObj.box 25 6 (PV.t c.t), AObj.box 3 1 (PV.t (i64 k)), AObj.box 28 2 (PV.t x.t), AObj.box 31 4 (PV.t p.t), AObj.box 45 6 (PV.agg [PV.t (i64 0), PV.t (i64 0), PV.own 8, PV.t (i64 0), PV.t (i64 0), PV.t (i64 0)]), AObj.box 54 6 (PV.t (T.agg [i64 0, i64 0, i64 0, i64 0, i64 0, i64 0])), AObj.box 3 1 (PV.t (i64 0)), AObj.vec 32 [PV.fn 67 [] [PV.ptr 0 0, PV.ptr 1 0, PV.ptr 2 0, PV.ptr 3 0], PV.fn 69 [] [PV.ptr 3 0, PV.ptr 0 0, PV.ptr 1 0], PV.fn 70 [] [PV.ptr 3 0, PV.ptr 0 0], PV.fn 72 [] [PV.ptr 0 0, PV.ptr 1 0, PV.ptr 3 0, PV.ptr 6 0], PV.fn 74 [] [PV.ptr 0 0, PV.ptr 1 0, PV.ptr 2 0, PV.ptr 3 0, PV.ptr 5 0]], AObj.row 3 1 []]) (Res.ok (Ex.norm, { tmps := slots 15 [(5, PV.own 7), (6, PV.t (i64 5)), (7, PV.t (i64 1))], heap := [AObj.box 25 6 (PV.t c.t), AObj.box 3 1 (PV.t (i64 k)), AObj.box 28 2 (PV.t x.t), AObj.box 31 4 (PV.t p.t), AObj.box 45 6 (PV.agg [PV.t (i64 0), PV.t (i64 0), PV.own 8, PV.t (i64 0), PV.t (i64 0), PV.t (i64 0)]), AObj.box 54 6 (PV.t (T.agg [i64 0, i64 0, i64 0, i64 0, i64 0, i64 0])), AObj.box 3 1 (PV.t (i64 0)), AObj.vec 32 [PV.fn 67 [] [PV.ptr 0 0, PV.ptr 1 0, PV.ptr 2 0, PV.ptr 3 0], PV.fn 69 [] [PV.ptr 3 0, PV.ptr 0 0, PV.ptr 1 0], PV.fn 70 [] [PV.ptr 3 0, PV.ptr 0 0], PV.fn 72 [] [PV.ptr 0 0, PV.ptr 1 0, PV.ptr 3 0, PV.ptr 6 0], PV.fn 74 [] [PV.ptr 0 0, PV.ptr 1 0, PV.ptr 2 0, PV.ptr 3 0, PV.ptr 5 0]], AObj.row 3 1 []] })) := by kernel_rfl
theorem pkb66_2_8 (N : Nat) (c : Cf) (k : Int) (x : Px) (p : Pa) (b : Bool) (o : Int) : bodyR env (recP env N [pnI1 c k x p true, pnI2 c k x p true, pnI3 c k x p true, pnI4 c k x p b o]) N 66 8 2 (sAl1 c k x p (T.agg [i64 0, i64 0, i64 0, i64 0, i64 0, i64 0]) 0) = chkP ([PV.ptr 3 0, PV.ptr 0 0, PV.ptr 1 0] = [PV.ptr 3 0, PV.ptr 0 0, PV.ptr 1 0] ∧ [AObj.box 25 6 (PV.t c.t), AObj.box 3 1 (PV.t (i64 k)), AObj.box 28 2 (PV.t x.t), AObj.box 31 4 (PV.t p.t), AObj.box 45 6 (PV.agg [PV.t (i64 0), PV.t (i64 0), PV.own 8, PV.t (i64 0), PV.t (i64 0), PV.t (i64 0)]), AObj.box 54 6 (PV.t (T.agg [i64 0, i64 0, i64 0, i64 0, i64 0, i64 0])), AObj.box 3 1 (PV.t (i64 0)), AObj.vec 32 [PV.fn 67 [] [PV.ptr 0 0, PV.ptr 1 0, PV.ptr 2 0, PV.ptr 3 0], PV.fn 69 [] [PV.ptr 3 0, PV.ptr 0 0, PV.ptr 1 0], PV.fn 70 [] [PV.ptr 3 0, PV.ptr 0 0], PV.fn 72 [] [PV.ptr 0 0, PV.ptr 1 0, PV.ptr 3 0, PV.ptr 6 0], PV.fn 74 [] [PV.ptr 0 0, PV.ptr 1 0, PV.ptr 2 0, PV.ptr 3 0, PV.ptr 5 0]], AObj.row 3 1 []] = [AObj.box 25 6 (PV.t c.t), AObj.box 3 1 (PV.t (i64 k)), AObj.box 28 2 (PV.t x.t), AObj.box 31 4 (PV.t p.t), AObj.box 45 6 (PV.agg [PV.t (i64 0), PV.t (i64 0), PV.own 8, PV.t (i64 0), PV.t (i64 0), PV.t (i64 0)]), AObj.box 54 6 (PV.t (T.agg [i64 0, i64 0, i64 0, i64 0, i64 0, i64 0])), AObj.box 3 1 (PV.t (i64 0)), AObj.vec 32 [PV.fn 67 [] [PV.ptr 0 0, PV.ptr 1 0, PV.ptr 2 0, PV.ptr 3 0], PV.fn 69 [] [PV.ptr 3 0, PV.ptr 0 0, PV.ptr 1 0], PV.fn 70 [] [PV.ptr 3 0, PV.ptr 0 0], PV.fn 72 [] [PV.ptr 0 0, PV.ptr 1 0, PV.ptr 3 0, PV.ptr 6 0], PV.fn 74 [] [PV.ptr 0 0, PV.ptr 1 0, PV.ptr 2 0, PV.ptr 3 0, PV.ptr 5 0]], AObj.row 3 1 []]) (Res.ok (Ex.norm, { tmps := slots 15 [(5, PV.own 7), (6, PV.t (i64 5)), (7, PV.t (i64 2))], heap := [AObj.box 25 6 (PV.t c.t), AObj.box 3 1 (PV.t (i64 k)), AObj.box 28 2 (PV.t x.t), AObj.box 31 4 (PV.t p.t), AObj.box 45 6 (PV.agg [PV.t (i64 0), PV.t (i64 0), PV.own 8, PV.t (i64 0), PV.t (i64 0), PV.t (i64 0)]), AObj.box 54 6 (PV.t (T.agg [i64 0, i64 0, i64 0, i64 0, i64 0, i64 0])), AObj.box 3 1 (PV.t (i64 0)), AObj.vec 32 [PV.fn 67 [] [PV.ptr 0 0, PV.ptr 1 0, PV.ptr 2 0, PV.ptr 3 0], PV.fn 69 [] [PV.ptr 3 0, PV.ptr 0 0, PV.ptr 1 0], PV.fn 70 [] [PV.ptr 3 0, PV.ptr 0 0], PV.fn 72 [] [PV.ptr 0 0, PV.ptr 1 0, PV.ptr 3 0, PV.ptr 6 0], PV.fn 74 [] [PV.ptr 0 0, PV.ptr 1 0, PV.ptr 2 0, PV.ptr 3 0, PV.ptr 5 0]], AObj.row 3 1 []] })) := by kernel_rfl
theorem pkb66_2_9 (N : Nat) (c : Cf) (k : Int) (x : Px) (p : Pa) (b : Bool) (o : Int) : bodyR env (recP env N [pnI1 c k x p true, pnI2 c k x p true, pnI3 c k x p true, pnI4 c k x p b o]) N 66 8 2 (sAl2 c k x p (T.agg [i64 0, i64 0, i64 0, i64 0, i64 0, i64 0]) 0) = chkP ([PV.ptr 3 0, PV.ptr 0 0] = [PV.ptr 3 0, PV.ptr 0 0] ∧ [AObj.box 25 6 (PV.t c.t), AObj.box 3 1 (PV.t (i64 k)), AObj.box 28 2 (PV.t x.t), AObj.box 31 4 (PV.t p.t), AObj.box 45 6 (PV.agg [PV.t (i64 0), PV.t (i64 0), PV.own 8, PV.t (i64 0), PV.t (i64 0), PV.t (i64 0)]), AObj.box 54 6 (PV.t (T.agg [i64 0, i64 0, i64 0, i64 0, i64 0, i64 0])), AObj.box 3 1 (PV.t (i64 0)), AObj.vec 32 [PV.fn 67 [] [PV.ptr 0 0, PV.ptr 1 0, PV.ptr 2 0, PV.ptr 3 0], PV.fn 69 [] [PV.ptr 3 0, PV.ptr 0 0, PV.ptr 1 0], PV.fn 70 [] [PV.ptr 3 0, PV.ptr 0 0], PV.fn 72 [] [PV.ptr 0 0, PV.ptr 1 0, PV.ptr 3 0, PV.ptr 6 0], PV.fn 74 [] [PV.ptr 0 0, PV.ptr 1 0, PV.ptr 2 0, PV.ptr 3 0, PV.ptr 5 0]], AObj.row 3 1 []] = [AObj.box 25 6 (PV.t c.t), AObj.box 3 1 (PV.t (i64 k)), AObj.box 28 2 (PV.t x.t), AObj.box 31 4 (PV.t p.t), AObj.box 45 6 (PV.agg [PV.t (i64 0), PV.t (i64 0), PV.own 8, PV.t (i64 0), PV.t (i64 0), PV.t (i64 0)]), AObj.box 54 6 (PV.t (T.agg [i64 0, i64 0, i64 0, i64 0, i64 0, i64 0])), AObj.box 3 1 (PV.t (i64 0)), AObj.vec 32 [PV.fn 67 [] [PV.ptr 0 0, PV.ptr 1 0, PV.ptr 2 0, PV.ptr 3 0], PV.fn 69 [] [PV.ptr 3 0, PV.ptr 0 0, PV.ptr 1 0], PV.fn 70 [] [PV.ptr 3 0, PV.ptr 0 0], PV.fn 72 [] [PV.ptr 0 0, PV.ptr 1 0, PV.ptr 3 0, PV.ptr 6 0], PV.fn 74 [] [PV.ptr 0 0, PV.ptr 1 0, PV.ptr 2 0, PV.ptr 3 0, PV.ptr 5 0]], AObj.row 3 1 []]) (Res.ok (Ex.norm, { tmps := slots 15 [(5, PV.own 7), (6, PV.t (i64 5)), (7, PV.t (i64 3))], heap := [AObj.box 25 6 (PV.t c.t), AObj.box 3 1 (PV.t (i64 k)), AObj.box 28 2 (PV.t x.t), AObj.box 31 4 (PV.t p.t), AObj.box 45 6 (PV.agg [PV.t (i64 0), PV.t (i64 0), PV.own 8, PV.t (i64 0), PV.t (i64 0), PV.t (i64 0)]), AObj.box 54 6 (PV.t (T.agg [i64 0, i64 0, i64 0, i64 0, i64 0, i64 0])), AObj.box 3 1 (PV.t (i64 0)), AObj.vec 32 [PV.fn 67 [] [PV.ptr 0 0, PV.ptr 1 0, PV.ptr 2 0, PV.ptr 3 0], PV.fn 69 [] [PV.ptr 3 0, PV.ptr 0 0, PV.ptr 1 0], PV.fn 70 [] [PV.ptr 3 0, PV.ptr 0 0], PV.fn 72 [] [PV.ptr 0 0, PV.ptr 1 0, PV.ptr 3 0, PV.ptr 6 0], PV.fn 74 [] [PV.ptr 0 0, PV.ptr 1 0, PV.ptr 2 0, PV.ptr 3 0, PV.ptr 5 0]], AObj.row 3 1 []] })) := by kernel_rfl
theorem pkb66_2_10 (N : Nat) (c : Cf) (k : Int) (x : Px) (p : Pa) (b : Bool) (o : Int) : bodyR env (recP env N [pnI1 c k x p true, pnI2 c k x p true, pnI3 c k x p true, pnI4 c k x p b o]) N 66 8 2 (sAl3 c k x p (T.agg [i64 0, i64 0, i64 0, i64 0, i64 0, i64 0]) 0) = chkP ([PV.ptr 0 0, PV.ptr 1 0, PV.ptr 3 0, PV.ptr 6 0] = [PV.ptr 0 0, PV.ptr 1 0, PV.ptr 3 0, PV.ptr 6 0] ∧ [AObj.box 25 6 (PV.t c.t), AObj.box 3 1 (PV.t (i64 k)), AObj.box 28 2 (PV.t x.t), AObj.box 31 4 (PV.t p.t), AObj.box 45 6 (PV.agg [PV.t (i64 0), PV.t (i64 0), PV.own 8, PV.t (i64 0), PV.t (i64 0), PV.t (i64 0)]), AObj.box 54 6 (PV.t (T.agg [i64 0, i64 0, i64 0, i64 0, i64 0, i64 0])), AObj.box 3 1 (PV.t (i64 0)), AObj.vec 32 [PV.fn 67 [] [PV.ptr 0 0, PV.ptr 1 0, PV.ptr 2 0, PV.ptr 3 0], PV.fn 69 [] [PV.ptr 3 0, PV.ptr 0 0, PV.ptr 1 0], PV.fn 70 [] [PV.ptr 3 0, PV.ptr 0 0], PV.fn 72 [] [PV.ptr 0 0, PV.ptr 1 0, PV.ptr 3 0, PV.ptr 6 0], PV.fn 74 [] [PV.ptr 0 0, PV.ptr 1 0, PV.ptr 2 0, PV.ptr 3 0, PV.ptr 5 0]], AObj.row 3 1 []] = [AObj.box 25 6 (PV.t c.t), AObj.box 3 1 (PV.t (i64 k)), AObj.box 28 2 (PV.t x.t), AObj.box 31 4 (PV.t p.t), AObj.box 45 6 (PV.agg [PV.t (i64 0), PV.t (i64 0), PV.own 8, PV.t (i64 0), PV.t (i64 0), PV.t (i64 0)]), AObj.box 54 6 (PV.t (T.agg [i64 0, i64 0, i64 0, i64 0, i64 0, i64 0])), AObj.box 3 1 (PV.t (i64 0)), AObj.vec 32 [PV.fn 67 [] [PV.ptr 0 0, PV.ptr 1 0, PV.ptr 2 0, PV.ptr 3 0], PV.fn 69 [] [PV.ptr 3 0, PV.ptr 0 0, PV.ptr 1 0], PV.fn 70 [] [PV.ptr 3 0, PV.ptr 0 0], PV.fn 72 [] [PV.ptr 0 0, PV.ptr 1 0, PV.ptr 3 0, PV.ptr 6 0], PV.fn 74 [] [PV.ptr 0 0, PV.ptr 1 0, PV.ptr 2 0, PV.ptr 3 0, PV.ptr 5 0]], AObj.row 3 1 []]) (bif !b then Res.ok (Ex.ret, { tmps := slots 15 [(2, PV.t (T.bool false))], heap := [AObj.box 25 6 (PV.t c.t), AObj.box 3 1 (PV.t (i64 k)), AObj.box 28 2 (PV.t x.t), AObj.box 31 4 (PV.t p.t), AObj.box 45 6 (PV.agg [PV.t (i64 0), PV.t (i64 0), PV.own 8, PV.t (i64 0), PV.t (i64 0), PV.t (i64 0)]), AObj.box 54 6 (PV.t (T.agg [i64 0, i64 0, i64 0, i64 0, i64 0, i64 0])), AObj.box 3 1 (PV.t (i64 o)), AObj.vec 32 [PV.fn 67 [] [PV.ptr 0 0, PV.ptr 1 0, PV.ptr 2 0, PV.ptr 3 0], PV.fn 69 [] [PV.ptr 3 0, PV.ptr 0 0, PV.ptr 1 0], PV.fn 70 [] [PV.ptr 3 0, PV.ptr 0 0], PV.fn 72 [] [PV.ptr 0 0, PV.ptr 1 0, PV.ptr 3 0, PV.ptr 6 0], PV.fn 74 [] [PV.ptr 0 0, PV.ptr 1 0, PV.ptr 2 0, PV.ptr 3 0, PV.ptr 5 0]], AObj.row 3 1 []] }) else Res.ok (Ex.norm, { tmps := slots 15 [(5, PV.own 7), (6, PV.t (i64 5)), (7, PV.t (i64 4))], heap := [AObj.box 25 6 (PV.t c.t), AObj.box 3 1 (PV.t (i64 k)), AObj.box 28 2 (PV.t x.t), AObj.box 31 4 (PV.t p.t), AObj.box 45 6 (PV.agg [PV.t (i64 0), PV.t (i64 0), PV.own 8, PV.t (i64 0), PV.t (i64 0), PV.t (i64 0)]), AObj.box 54 6 (PV.t (T.agg [i64 0, i64 0, i64 0, i64 0, i64 0, i64 0])), AObj.box 3 1 (PV.t (i64 o)), AObj.vec 32 [PV.fn 67 [] [PV.ptr 0 0, PV.ptr 1 0, PV.ptr 2 0, PV.ptr 3 0], PV.fn 69 [] [PV.ptr 3 0, PV.ptr 0 0, PV.ptr 1 0], PV.fn 70 [] [PV.ptr 3 0, PV.ptr 0 0], PV.fn 72 [] [PV.ptr 0 0, PV.ptr 1 0, PV.ptr 3 0, PV.ptr 6 0], PV.fn 74 [] [PV.ptr 0 0, PV.ptr 1 0, PV.ptr 2 0, PV.ptr 3 0, PV.ptr 5 0]], AObj.row 3 1 []] })) := by kernel_rfl
theorem pkt66_2_ret_4 (N : Nat) (c : Cf) (k : Int) (x : Px) (p : Pa) (b : Bool) (o : Int) (H : List AObj) {β : Type} (K : PV → List AObj → Res β) : tailR env (recP env N [pnI1 c k x p true, pnI2 c k x p true, pnI3 c k x p true, pnI4 c k x p b o]) N 66 8 2 K (.ret) (⟨slots 15 [(2, .t (.bool false))], H⟩) = K (PV.t (T.bool false)) H := by kernel_rfl
theorem pk66_5 (N : Nat) (c : Cf) (k : Int) (x : Px) (p : Pa) (b : Bool) (o : Int) (r : T) {β : Type} (K : PV → List AObj → Res β) : funK env (recP env N [pnI1 c k x p true, pnI2 c k x p true, pnI3 c k x p true, pnI4 c k x p true o, pnI5 c k x p b o r]) N 66 [.own 7] [.box 25 6 (.t c.t), .box 3 1 (.t (i64 k)), .box 28 2 (.t x.t), .box 31 4 (.t p.t), .box 45 6 (.agg [.t (i64 0), .t (i64 0), .nil 3 1, .t (i64 0), .t (i64 0), .t (i64 0)]), .box 54 6 (.t (T.agg [i64 0, i64 0, i64 0, i64 0, i64 0, i64 0])), .box 3 1 (.t (i64 0)), .vec 32 inV] K = loopR env (recP env N [pnI1 c k x p true, pnI2 c k x p true, pnI3 c k x p true, pnI4 c k x p true o, pnI5 c k x p b o r]) N 66 8 2 K { tmps := slots 15 [(5, PV.own 7), (6, PV.t (i64 5)), (7, PV.t (i64 0))], heap := [AObj.box 25 6 (PV.t c.t), AObj.box 3 1 (PV.t (i64 k)), AObj.box 28 2 (PV.t x.t), AObj.box 31 4 (PV.t p.t), AObj.box 45 6 (PV.agg [PV.t (i64 0), PV.t (i64 0), PV.own 8, PV.t (i64 0), PV.t (i64 0), PV.t (i64 0)]), AObj.box 54 6 (PV.t (T.agg [i64 0, i64 0, i64 0, i64 0, i64 0, i64 0])), AObj.box 3 1 (PV.t (i64 0)), AObj.vec 32 [PV.fn 67 [] [PV.ptr 0 0, PV.ptr 1 0, PV.ptr 2 0, PV.ptr 3 0], PV.fn 69 [] [PV.ptr 3 0, PV.ptr 0 0, PV.ptr 1 0], PV.fn 70 [] [PV.ptr 3 0, PV.ptr 0 0], PV.fn 72 [] [PV.ptr 0 0, PV.ptr 1 0, PV.ptr 3 0, PV.ptr 6 0], PV.fn 74 [] [PV.ptr 0 0, PV.ptr 1 0, PV.ptr 2 0, PV.ptr 3 0, PV.ptr 5 0]], AObj.row 3 1 []] } := by kernel_rfl
theorem pkb66_2_11 (N : Nat) (c : Cf) (k : Int) (x : Px) (p : Pa) (b : Bool) (o : Int) (r : T) : bodyR env (recP env N [pnI1 c k x p true, pnI2 c k x p true, pnI3 c k x p true, pnI4 c k x p true o, pnI5 c k x p b o r]) N 66 8 2 (sAl0 c k x p (T.agg [i64 0, i64 0, i64 0, i64 0, i64 0, i64 0]) 0) = chkP ([PV.ptr 0 0, PV.ptr 1 0, PV.ptr 2 0, PV.ptr 3 0] = [PV.ptr 0 0, PV.ptr 1 0, PV.ptr 2 0, PV.ptr 3 0] ∧ [AObj.box 25 6 (PV.t c.t), AObj.box 3 1 (PV.t (i64 k)), AObj.box 28 2 (PV.t x.t), AObj.box 31 4 (PV.t p.t), AObj.box 45 6 (PV.agg [PV.t (i64 0), PV.t (i64 0), PV.own 8, PV.t (i64 0), PV.t (i64 0), PV.t (i64 0)]), AObj.box 54 6 (PV.t (T.agg [i64 0, i64 0, i64 0, i64 0, i64 0, i64 0])), AObj.box 3 1 (PV.t (i64 0)), AObj.vec 32 [PV.fn 67 [] [PV.ptr 0 0, PV.ptr 1 0, PV.ptr 2 0, PV.ptr 3 0], PV.fn 69 [] [PV.ptr 3 0, PV.ptr 0 0, PV.ptr 1 0], PV.fn 70 [] [PV.ptr 3 0, PV.ptr 0 0], PV.fn 72 [] [PV.ptr 0 0, PV.ptr 1 0, PV.ptr 3 0, PV.ptr 6 0], PV.fn 74 [] [PV.ptr 0 0, PV.ptr 1 0, PV.ptr 2 0, PV.ptr 3 0, PV.ptr 5 0]], AObj.row 3 1 []] = [AObj.box 25 6 (PV.t c.t), AObj.box 3 1 (PV.t (i64 k)), AObj.box 28 2 (PV.t x.t), AObj.box 31 4 (PV.t p.t), AObj.box 45 6 (PV.agg [PV.t (i64 0), PV.t (i64 0), PV.own 8, PV.t (i64 0), PV.t (i64 0), PV.t (i64 0)]), AObj.box 54 6 (PV.t (T.agg [i64 0, i64 0, i64 0, i64 0, i64 0, i64 0])), AObj.box 3 1 (PV.t (i64 0)), AObj.vec 32 [PV.fn 67 [] [PV.ptr 0 0, PV.ptr 1 0, PV.ptr 2 0, PV.ptr 3 0], PV.fn 69 [] [PV.ptr 3 0, PV.ptr 0 0, PV.ptr 1 0], PV.fn 70 [] [PV.ptr 3 0, PV.ptr 0 0], PV.fn 72 [] [PV.ptr 0 0, PV.ptr 1 0, PV.ptr 3 0, PV.ptr 6 0], PV.fn 74 [] [PV.ptr 0 0, PV.ptr 1 0, PV.ptr 2 0, PV.ptr 3 0, PV.ptr 5 0]], AObj.row 3 1 []]) (Res.ok (Ex.norm, { tmps := slots 15 [(5, PV.own 7), (6, PV.t (i64 5)), (7, PV.t (i64 1))], heap := [AObj.box 25 6 (PV.t c.t), AObj.box 3 1 (PV.t (i64 k)), AObj.box 28 2 (PV.t x.t), AObj.box 31 4 (PV.t p.t), AObj.box 45 6 (PV.agg [PV.t (i64 0), PV.t (i64 0), PV.own 8, PV.t (i64 0), PV.t (i64 0), PV.t (i64 0)]), AObj.box 54 6 (PV.t (T.agg [i64 0, i64 0, i64 0, i64 0, i64 0, i64 0])), AObj.box 3 1 (PV.t (i64 0)), AObj.vec 32 [PV.fn 67 [] [PV.ptr 0 0, PV.ptr 1 0, PV.ptr 2 0, PV.ptr 3 0], PV.fn 69 [] [PV.ptr 3 0, PV.ptr 0 0, PV.ptr 1 0], PV.fn 70 [] [PV.ptr 3 0, PV.ptr 0 0], PV.fn 72 [] [PV.ptr 0 0, PV.ptr 1 0, PV.ptr 3 0, PV.ptr 6 0], PV.fn 74 [] [PV.ptr 0 0, PV.ptr 1 0, PV.ptr 2 0, PV.ptr 3 0, PV.ptr 5 0]], AObj.row 3 1 []] })) := by kernel_rfl
theorem pkb66_2_12 (N : Nat) (c : Cf) (k : Int) (x : Px) (p : Pa) (b : Bool) (o : Int) (r : T) : bodyR env (recP env N [pnI1 c k x p true, pnI2 c k x p true, pnI3 c k x p true, pnI4 c k x p true o, pnI5 c k x p b o r]) N 66 8 2 (sAl1 c k x p (T.agg [i64 0, i64 0, i64 0, i64 0, i64 0, i64 0]) 0) = chkP ([PV.ptr 3 0, PV.ptr 0 0, PV.ptr 1 0] = [PV.ptr 3 0, PV.ptr 0 0, PV.ptr 1 0] ∧ [AObj.box 25 6 (PV.t c.t), AObj.box 3 1 (PV.t (i64 k)), AObj.box 28 2 (PV.t x.t), AObj.box 31 4 (PV.t p.t), AObj.box 45 6 (PV.agg [PV.t (i64 0), PV.t (i64 0), PV.own 8, PV.t (i64 0), PV.t (i64 0), PV.t (i64 0)]), AObj.box 54 6 (PV.t (T.agg [i64 0, i64 0, i64 0, i64 0, i64 0, i64 0])), AObj.box 3 1 (PV.t (i64 0)), AObj.vec 32 [PV.fn 67 [] [PV.ptr 0 0, PV.ptr 1 0, PV.ptr 2 0, PV.ptr 3 0], PV.fn 69 [] [PV.ptr 3 0, PV.ptr 0 0, PV.ptr 1 0], PV.fn 70 [] [PV.ptr 3 0, PV.ptr 0 0], PV.fn 72 [] [PV.ptr 0 0, PV.ptr 1 0, PV.ptr 3 0, PV.ptr 6 0], PV.fn 74 [] [PV.ptr 0 0, PV.ptr 1 0, PV.ptr 2 0, PV.ptr 3 0, PV.ptr 5 0]], AObj.row 3 1 []] = [AObj.box 25 6 (PV.t c.t), AObj.box 3 1 (PV.t (i64 k)), AObj.box 28 2 (PV.t x.t), AObj.box 31 4 (PV.t p.t), AObj.box 45 6 (PV.agg [PV.t (i64 0), PV.t (i64 0), PV.own 8, PV.t (i64 0), PV.t (i64 0), PV.t (i64 0)]), AObj.box 54 6 (PV.t (T.agg [i64 0, i64 0, i64 0, i64 0, i64 0, i64 0])), AObj.box 3 1 (PV.t (i64 0)), AObj.vec 32 [PV.fn 67 [] [PV.ptr 0 0, PV.ptr 1 0, PV.ptr 2 0, PV.ptr 3 0], PV.fn 69 [] [PV.ptr 3 0, PV.ptr 0 0, PV.ptr 1 0], PV.fn 70 [] [PV.ptr 3 0, PV.ptr 0 0], PV.fn 72 [] [PV.ptr 0 0, PV.ptr 1 0, PV.ptr 3 0, PV.ptr 6 0], PV.fn 74 [] [PV.ptr 0 0, PV.ptr 1 0, PV.ptr 2 0, PV.ptr 3 0, PV.ptr 5 0]], AObj.row 3 1 []]) (Res.ok (Ex.norm, { tmps := slots 15 [(5, PV.own 7), (6, PV.t (i64 5)), (7, PV.t (i64 2))], heap := [AObj.box 25 6 (PV.t c.t), AObj.box 3 1 (PV.t (i64 k)), AObj.box 28 2 (PV.t x.t), AObj.box 31 4 (PV.t p.t), AObj.box 45 6 (PV.agg [PV.t (i64 0), PV.t (i64 0), PV.own 8, PV.t (i64 0), PV.t (i64 0), PV.t (i64 0)]), AObj.box 54 6 (PV.t (T.agg [i64 0, i64 0, i64 0, i64 0, i64 0, i64 0])), AObj.box 3 1 (PV.t (i64 0)), AObj.vec 32 [PV.fn 67 [] [PV.ptr 0 0, PV.ptr 1 0, PV.ptr 2 0, PV.ptr 3 0], PV.fn 69 [] [PV.ptr 3 0, PV.ptr 0 0, PV.ptr 1 0], PV.fn 70 [] [PV.ptr 3 0, PV.ptr 0 0], PV.fn 72 [] [PV.ptr 0 0, PV.ptr 1 0, PV.ptr 3 0, PV.ptr 6 0], PV.fn 74 [] [PV.ptr 0 0, PV.ptr 1 0, PV.ptr 2 0, PV.ptr 3 0, PV.ptr 5 0]], AObj.row 3 1 []] })) := by kernel_rfl
theorem pkb66_2_13 (N : Nat) (c : Cf) (k : Int) (x : Px) (p : Pa) (b : Bool) (o : Int) (r : T) : bodyR env (recP env N [pnI1 c k x p true, pnI2 c k x p true, pnI3 c k x p true, pnI4 c k x p true o, pnI5 c k x p b o r]) N 66 8 2 (sAl2 c k x p (T.agg [i64 0, i64 0, i64 0, i64 0, i64 0, i64 0]) 0) = chkP ([PV.ptr 3 0, PV.ptr 0 0] = [PV.ptr 3 0, PV.ptr 0 0] ∧ [AObj.box 25 6 (PV.t c.t), AObj.box 3 1 (PV.t (i64 k)), AObj.box 28 2 (PV.t x.t), AObj.box 31 4 (PV.t p.t), AObj.box 45 6 (PV.agg [PV.t (i64 0), PV.t (i64 0), PV.own 8, PV.t (i64 0), PV.t (i64 0), PV.t (i64 0)]), AObj.box 54 6 (PV.t (T.agg [i64 0, i64 0, i64 0, i64 0, i64 0, i64 0])), AObj.box 3 1 (PV.t (i64 0)), AObj.vec 32 [PV.fn 67 [] [PV.ptr 0 0, PV.ptr 1 0, PV.ptr 2 0, PV.ptr 3 0], PV.fn 69 [] [PV.ptr 3 0, PV.ptr 0 0, PV.ptr 1 0], PV.fn 70 [] [PV.ptr 3 0, PV.ptr 0 0], PV.fn 72 [] [PV.ptr 0 0, PV.ptr 1 0, PV.ptr 3 0, PV.ptr 6 0], PV.fn 74 [] [PV.ptr 0 0, PV.ptr 1 0, PV.ptr 2 0, PV.ptr 3 0, PV.ptr 5 0]], AObj.row 3 1 []] = [AObj.box 25 6 (PV.t c.t), AObj.box 3 1 (PV.t (i64 k)), AObj.box 28 2 (PV.t x.t), AObj.box 31 4 (PV.t p.t), AObj.box 45 6 (PV.agg [PV.t (i64 0), PV.t (i64 0), PV.own 8, PV.t (i64 0), PV.t (i64 0), PV.t (i64 0)]), AObj.box 54 6 (PV.t (T.agg [i64 0, i64 0, i64 0, i64 0, i64 0, i64 0])), AObj.box 3 1 (PV.t (i64 0)), AObj.vec 32 [PV.fn 67 [] [PV.ptr 0 0, PV.ptr 1 0, PV.ptr 2 0, PV.ptr 3 0], PV.fn 69 [] [PV.ptr 3 0, PV.ptr 0 0, PV.ptr 1 0], PV.fn 70 [] [PV.ptr 3 0, PV.ptr 0 0], PV.fn 72 [] [PV.ptr 0 0, PV.ptr 1 0, PV.ptr 3 0, PV.ptr 6 0], PV.fn 74 [] [PV.ptr 0 0, PV.ptr 1 0, PV.ptr 2 0, PV.ptr 3 0, PV.ptr 5 0]], AObj.row 3 1 []]) (Res.ok (Ex.norm, { tmps := slots 15 [(5, PV.own 7), (6, PV.t (i64 5)), (7, PV.t (i64 3))], heap := [AObj.box 25 6 (PV.t c.t), AObj.box 3 1 (PV.t (i64 k)), AObj.box 28 2 (PV.t x.t), AObj.box 31 4 (PV.t p.t), AObj.box 45 6 (PV.agg [PV.t (i64 0), PV.t (i64 0), PV.own 8, PV.t (i64 0), PV.t (i64 0), PV.t (i64 0)]), AObj.box 54 6 (PV.t (T.agg [i64 0, i64 0, i64 0, i64 0, i64 0, i64 0])), AObj.box 3 1 (PV.t (i64 0)), AObj.vec 32 [PV.fn 67 [] [PV.ptr 0 0, PV.ptr 1 0, PV.ptr 2 0, PV.ptr 3 0], PV.fn 69 [] [PV.ptr 3 0, PV.ptr 0 0, PV.ptr 1 0], PV.fn 70 [] [PV.ptr 3 0, PV.ptr 0 0], PV.fn 72 [] [PV.ptr 0 0, PV.ptr 1 0, PV.ptr 3 0, PV.ptr 6 0], PV.fn 74 [] [PV.ptr 0 0, PV.ptr 1 0, PV.ptr 2 0, PV.ptr 3 0, PV.ptr 5 0]], AObj.row 3 1 []] })) := by kernel_rfl
theorem pkb66_2_14 (N : Nat) (c : Cf) (k : Int) (x : Px) (p : Pa) (b : Bool) (o : Int) (r : T) : bodyR env (recP env N [pnI1 c k x p true, pnI2 c k x p true, pnI3 c k x p true, pnI4 c k x p true o, pnI5 c k x p b o r]) N 66 8 2 (sAl3 c k x p (T.agg [i64 0, i64 0, i64 0, i64 0, i64 0, i64 0]) 0) = chkP ([PV.ptr 0 0, PV.ptr 1 0, PV.ptr 3 0, PV.ptr 6 0] = [PV.ptr 0 0, PV.ptr 1 0, PV.ptr 3 0, PV.ptr 6 0] ∧ [AObj.box 25 6 (PV.t c.t), AObj.box 3 1 (PV.t (i64 k)), AObj.box 28 2 (PV.t x.t), AObj.box 31 4 (PV.t p.t), AObj.box 45 6 (PV.agg [PV.t (i64 0), PV.t (i64 0), PV.own 8, PV.t (i64 0), PV.t (i64 0), PV.t (i64 0)]), AObj.box 54 6 (PV.t (T.agg [i64 0, i64 0, i64 0, i64 0, i64 0, i64 0])), AObj.box 3 1 (PV.t (i64 0)), AObj.vec 32 [PV.fn 67 [] [PV.ptr 0 0, PV.ptr 1 0, PV.ptr 2 0, PV.ptr 3 0], PV.fn 69 [] [PV.ptr 3 0, PV.ptr 0 0, PV.ptr 1 0], PV.fn 70 [] [PV.ptr 3 0, PV.ptr 0 0], PV.fn 72 [] [PV.ptr 0 0, PV.ptr 1 0, PV.ptr 3 0, PV.ptr 6 0], PV.fn 74 [] [PV.ptr 0 0, PV.ptr 1 0, PV.ptr 2 0, PV.ptr 3 0, PV.ptr 5 0]], AObj.row 3 1 []] = [AObj.box 25 6 (PV.t c.t), AObj.box 3 1 (PV.t (i64 k)), AObj.box 28 2 (PV.t x.t), AObj.box 31 4 (PV.t p.t), AObj.box 45 6 (PV.agg [PV.t (i64 0), PV.t (i64 0), PV.own 8, PV.t (i64 0), PV.t (i64 0), PV.t (i64 0)]), AObj.box 54 6 (PV.t (T.agg [i64 0, i64 0, i64 0, i64 0, i64 0, i64 0])), AObj.box 3 1 (PV.t (i64 0)), AObj.vec 32 [PV.fn 67 [] [PV.ptr 0 0, PV.ptr 1 0, PV.ptr 2 0, PV.ptr 3 0], PV.fn 69 [] [PV.ptr 3 0, PV.ptr 0 0, PV.ptr 1 0], PV.fn 70 [] [PV.ptr 3 0, PV.ptr 0 0], PV.fn 72 [] [PV.ptr 0 0, PV.ptr 1 0, PV.ptr 3 0, PV.ptr 6 0], PV.fn 74 [] [PV.ptr 0 0, PV.ptr 1 0, PV.ptr 2 0, PV.ptr 3 0, PV.ptr 5 0]], AObj.row 3 1 []]) (Res.ok (Ex.norm, { tmps := slots 15 [(5, PV.own 7), (6, PV.t (i64 5)), (7, PV.t (i64 4))], heap := [AObj.box 25 6 (PV.t c.t), AObj.box 3 1 (PV.t (i64 k)), AObj.box 28 2 (PV.t x.t), AObj.box 31 4 (PV.t p.t), AObj.box 45 6 (PV.agg [PV.t (i64 0), PV.t (i64 0), PV.own 8, PV.t (i64 0), PV.t (i64 0), PV.t (i64 0)]), AObj.box 54 6 (PV.t (T.agg [i64 0, i64 0, i64 0, i64 0, i64 0, i64 0])), AObj.box 3 1 (PV.t (i64 o)), AObj.vec 32 [PV.fn 67 [] [PV.ptr 0 0, PV.ptr 1 0, PV.ptr 2 0, PV.ptr 3 0], PV.fn 69 [] [PV.ptr 3 0, PV.ptr 0 0, PV.ptr 1 0], PV.fn 70 [] [PV.ptr 3 0, PV.ptr 0 0], PV.fn 72 [] [PV.ptr 0 0, PV.ptr 1 0, PV.ptr 3 0, PV.ptr 6 0], PV.fn 74 [] [PV.ptr 0 0, PV.ptr 1 0, PV.ptr 2 0, PV.ptr 3 0, PV.ptr 5 0]], AObj.row 3 1 []] })) := by kernel_rfl
theorem pkb66_2_15 (N : Nat) (c : Cf) (k : Int) (x : Px) (p : Pa) (b : Bool) (o : Int) (r : T) : bodyR env (recP env N [pnI1 c k x p true, pnI2 c k x p true, pnI3 c k x p true, pnI4 c k x p true o, pnI5 c k x p b o r]) N 66 8 2 (sAl4 c k x p (T.agg [i64 0, i64 0, i64 0, i64 0, i64 0, i64 0]) o) = chkP ([PV.ptr 0 0, PV.ptr 1 0, PV.ptr 2 0, PV.ptr 3 0, PV.ptr 5 0] = [PV.ptr 0 0, PV.ptr 1 0, PV.ptr 2 0, PV.ptr 3 0, PV.ptr 5 0] ∧ [AObj.box 25 6 (PV.t c.t), AObj.box 3 1 (PV.t (i64 k)), AObj.box 28 2 (PV.t x.t), AObj.box 31 4 (PV.t p.t), AObj.box 45 6 (PV.agg [PV.t (i64 0), PV.t (i64 0), PV.own 8, PV.t (i64 0), PV.t (i64 0), PV.t (i64 0)]), AObj.box 54 6 (PV.t (T.agg [i64 0, i64 0, i64 0, i64 0, i64 0, i64 0])), AObj.box 3 1 (PV.t (i64 o)), AObj.vec 32 [PV.fn 67 [] [PV.ptr 0 0, PV.ptr 1 0, PV.ptr 2 0, PV.ptr 3 0], PV.fn 69 [] [PV.ptr 3 0, PV.ptr 0 0, PV.ptr 1 0], PV.fn 70 [] [PV.ptr 3 0, PV.ptr 0 0], PV.fn 72 [] [PV.ptr 0 0, PV.ptr 1 0, PV.ptr 3 0, PV.ptr 6 0], PV.fn 74 [] [PV.ptr 0 0, PV.ptr 1 0, PV.ptr 2 0, PV.ptr 3 0, PV.ptr 5 0]], AObj.row 3 1 []] = [AObj.box 25 6 (PV.t c.t), AObj.box 3 1 (PV.t (i64 k)), AObj.box 28 2 (PV.t x.t), AObj.box 31 4 (PV.t p.t), AObj.box 45 6 (PV.agg [PV.t (i64 0), PV.t (i64 0), PV.own 8, PV.t (i64 0), PV.t (i64 0), PV.t (i64 0)]), AObj.box 54 6 (PV.t (T.agg [i64 0, i64 0, i64 0, i64 0, i64 0, i64 0])), AObj.box 3 1 (PV.t (i64 o)), AObj.vec 32 [PV.fn 67 [] [PV.ptr 0 0, PV.ptr 1 0, PV.ptr 2 0, PV.ptr 3 0], PV.fn 69 [] [PV.ptr 3 0, PV.ptr 0 0, PV.ptr 1 0], PV.fn 70 [] [PV.ptr 3 0, PV.ptr 0 0], PV.fn 72 [] [PV.ptr 0 0, PV.ptr 1 0, PV.ptr 3 0, PV.ptr 6 0], PV.fn 74 [] [PV.ptr 0 0, PV.ptr 1 0, PV.ptr 2 0, PV.ptr 3 0, PV.ptr 5 0]], AObj.row 3 1 []]) (bif !b then Res.ok (Ex.ret, { tmps := slots 15 [(2, PV.t (T.bool false))], heap := [AObj.box 25 6 (PV.t c.t), AObj.box 3 1 (PV.t (i64 k)), AObj.box 28 2 (PV.t x.t), AObj.box 31 4 (PV.t p.t), AObj.box 45 6 (PV.agg [PV.t (i64 0), PV.t (i64 0), PV.own 8, PV.t (i64 0), PV.t (i64 0), PV.t (i64 0)]), AObj.box 54 6 (PV.t r), AObj.box 3 1 (PV.t (i64 o)), AObj.vec 32 [PV.fn 67 [] [PV.ptr 0 0, PV.ptr 1 0, PV.ptr 2 0, PV.ptr 3 0], PV.fn 69 [] [PV.ptr 3 0, PV.ptr 0 0, PV.ptr 1 0], PV.fn 70 [] [PV.ptr 3 0, PV.ptr 0 0], PV.fn 72 [] [PV.ptr 0 0, PV.ptr 1 0, PV.ptr 3 0, PV.ptr 6 0], PV.fn 74 [] [PV.ptr 0 0, PV.ptr 1 0, PV.ptr 2 0, PV.ptr 3 0, PV.ptr 5 0]], AObj.row 3 1 []] }) else Res.ok (Ex.norm, { tmps := slots 15 [(5, PV.own 7), (6, PV.t (i64 5)), (7, PV.t (i64 5))], heap := [AObj.box 25 6 (PV.t c.t), AObj.box 3 1 (PV.t (i64 k)), AObj.box 28 2 (PV.t x.t), AObj.box 31 4 (PV.t p.t), AObj.box 45 6 (PV.agg [PV.t (i64 0), PV.t (i64 0), PV.own 8, PV.t (i64 0), PV.t (i64 0), PV.t (i64 0)]), AObj.box 54 6 (PV.t r), AObj.box 3 1 (PV.t (i64 o)), AObj.vec 32 [PV.fn 67 [] [PV.ptr 0 0, PV.ptr 1 0, PV.ptr 2 0, PV.ptr 3 0], PV.fn 69 [] [PV.ptr 3 0, PV.ptr 0 0, PV.ptr 1 0], PV.fn 70 [] [PV.ptr 3 0, PV.ptr 0 0], PV.fn 72 [] [PV.ptr 0 0, PV.ptr 1 0, PV.ptr 3 0, PV.ptr 6 0], PV.fn 74 [] [PV.ptr 0 0, PV.ptr 1 0, PV.ptr 2 0, PV.ptr 3 0, PV.ptr 5 0]], AObj.row 3 1 []] })) := by kernel_rfl
theorem pkb66_2_16 (N : Nat) (c : Cf) (k : Int) (x : Px) (p : Pa) (b : Bool) (o : Int) (r : T) : bodyR env (recP env N [pnI1 c k x p true, pnI2 c k x p true, pnI3 c k x p true, pnI4 c k x p true o, pnI5 c k x p b o r]) N 66 8 2 (sAl5 c k x p r o) = Res.ok (Ex.exit 0, { tmps := slots 15 [], heap := [AObj.box 25 6 (PV.t c.t), AObj.box 3 1 (PV.t (i64 k)), AObj.box 28 2 (PV.t x.t), AObj.box 31 4 (PV.t p.t), AObj.box 45 6 (PV.agg [PV.t (i64 0), PV.t (i64 0), PV.own 8, PV.t (i64 0), PV.t (i64 0), PV.t (i64 0)]), AObj.box 54 6 (PV.t r), AObj.box 3 1 (PV.t (i64 o)), AObj.vec 32 [PV.fn 67 [] [PV.ptr 0 0, PV.ptr 1 0, PV.ptr 2 0, PV.ptr 3 0], PV.fn 69 [] [PV.ptr 3 0, PV.ptr 0 0, PV.ptr 1 0], PV.fn 70 [] [PV.ptr 3 0, PV.ptr 0 0], PV.fn 72 [] [PV.ptr 0 0, PV.ptr 1 0, PV.ptr 3 0, PV.ptr 6 0], PV.fn 74 [] [PV.ptr 0 0, PV.ptr 1 0, PV.ptr 2 0, PV.ptr 3 0, PV.ptr 5 0]], AObj.row 3 1 []] }) := by kernel_rfl
theorem pkt66_2_ret_5 (N : Nat) (c : Cf) (k : Int) (x : Px) (p : Pa) (b : Bool) (o : Int) (r : T) (H : List AObj) {β : Type} (K : PV → List AObj → Res β) : tailR env (recP env N [pnI1 c k x p true, pnI2 c k x p true, pnI3 c k x p true, pnI4 c k x p true o, pnI5 c k x p b o r]) N 66 8 2 K (.ret) (⟨slots 15 [(2, .t (.bool false))], H⟩) = K (PV.t (T.bool false)) H := by kernel_rfl
theorem pkt66_2_exit0 (N : Nat) (c : Cf) (k : Int) (x : Px) (p : Pa) (b : Bool) (o : Int) (r : T) (H : List AObj) {β : Type} (K : PV → List AObj → Res β) : tailR env (recP env N [pnI1 c k x p true, pnI2 c k x p true, pnI3 c k x p true, pnI4 c k x p true o, pnI5 c k x p b o r]) N 66 8 2 K (.exit 0) (⟨slots 15 [], H⟩) = K (PV.t (T.bool true)) H := by kernel_rfl
theorem pq44 (N : Nat) (c : Cf) (k : Int) (x : Px) (p : Pa) (b : Bool) (o : Int) (r : T) : funK env (recP env N [pnAll c k x p b o r]) N 44 [.t (c.t), .t (i64 k), .t (x.t), .t (p.t)] [] (outK env 44) = chkAll (fun p => ((match p with | PV.t x => x.cells.length == 1 && !x.isTup | PV.agg cs => cs.length == 1 | PV.tup xs => false | PV.junk => false | x => true) && !match p with | PV.agg cs => true | x => false) && !match p with | PV.t x => x.isAgg | x => false) [PV.fn 67 [] [PV.ptr 0 0, PV.ptr 1 0, PV.ptr 2 0, PV.ptr 3 0], PV.fn 69 [] [PV.ptr 3 0, PV.ptr 0 0, PV.ptr 1 0], PV.fn 70 [] [PV.ptr 3 0, PV.ptr 0 0], PV.fn 72 [] [PV.ptr 0 0, PV.ptr 1 0, PV.ptr 3 0, PV.ptr 6 0], PV.fn 74 [] [PV.ptr 0 0, PV.ptr 1 0, PV.ptr 2 0, PV.ptr 3 0, PV.ptr 5 0]] (chkP ([PV.own 7] = [PV.own 7] ∧ [AObj.box 25 6 (PV.t c.t), AObj.box 3 1 (PV.t (i64 k)), AObj.box 28 2 (PV.t x.t), AObj.box 31 4 (PV.t p.t), AObj.box 45 6 (PV.agg [PV.t (i64 0), PV.t (i64 0), PV.nil 3 1, PV.t (i64 0), PV.t (i64 0), PV.t (i64 0)]), AObj.box 54 6 (PV.t (T.agg [i64 0, i64 0, i64 0, i64 0, i64 0, i64 0])), AObj.box 3 1 (PV.t (i64 0)), AObj.vec 32 [PV.fn 67 [] [PV.ptr 0 0, PV.ptr 1 0, PV.ptr 2 0, PV.ptr 3 0], PV.fn 69 [] [PV.ptr 3 0, PV.ptr 0 0, PV.ptr 1 0], PV.fn 70 [] [PV.ptr 3 0, PV.ptr 0 0], PV.fn 72 [] [PV.ptr 0 0, PV.ptr 1 0, PV.ptr 3 0, PV.ptr 6 0], PV.fn 74 [] [PV.ptr 0 0, PV.ptr 1 0, PV.ptr 2 0, PV.ptr 3 0, PV.ptr 5 0]]] = [AObj.box 25 6 (PV.t c.t), AObj.box 3 1 (PV.t (i64 k)), AObj.box 28 2 (PV.t x.t), AObj.box 31 4 (PV.t p.t), AObj.box 45 6 (PV.agg [PV.t (i64 0), PV.t (i64 0), PV.nil 3 1, PV.t (i64 0), PV.t (i64 0), PV.t (i64 0)]), AObj.box 54 6 (PV.t (T.agg [i64 0, i64 0, i64 0, i64 0, i64 0, i64 0])), AObj.box 3 1 (PV.t (i64 0)), AObj.vec 32 [PV.fn 67 [] [PV.ptr 0 0, PV.ptr 1 0, PV.ptr 2 0, PV.ptr 3 0], PV.fn 69 [] [PV.ptr 3 0, PV.ptr 0 0, PV.ptr 1 0], PV.fn 70 [] [PV.ptr 3 0, PV.ptr 0 0], PV.fn 72 [] [PV.ptr 0 0, PV.ptr 1 0, PV.ptr 3 0, PV.ptr 6 0], PV.fn 74 [] [PV.ptr 0 0, PV.ptr 1 0, PV.ptr 2 0, PV.ptr 3 0, PV.ptr 5 0]]]) (bif !b then Res.ok (T.tup [T.agg [i64 0, i64 0, T.sl 1 [], i64 0, i64 0, i64 0], T.bool false]) else chk ((r.partD 5 1 false).cells.length == 1 && !(r.partD 5 1 false).isTup) (Res.ok (T.tup [T.agg [(r.partD 5 1 false).cell 0, i64 p.o, T.sl 1 (ints p.s), i64 p.h, i64 o, i64 k], T.bool true])))) := by kernel_rfl
end Go.Sim

/- What layers 13 and 14 answer: marks, classes, what a path is to a node. -/
namespace Go.Sim
open Go.RowKit Go.Proofs
set_option linter.unusedVariables false
set_option linter.unusedSimpArgs false
set_option linter.unusedSectionVars false
set_option maxRecDepth 100000
variable [Lv]

theorem f73_ok {M : Nat} {a b c : Int} (hM : 1 ≤ M) (ha : ok64 a = true) (hb : ok64 b = true) (hc : ok64 c = true) : callP env (M + 1) 73 [i64 a, i64 b, i64 c] = .ok (.tup [i64 ((roleIn a b c).getD 0), .bool (roleIn a b c).isSome]) := by
  obtain ⟨m, rfl⟩ := exM hM
  have ho := f91_ok (M := m) hc hb
  rw [q73, W_ok (wfs3 (wf_int ha) (wf_int hb) (wf_int hc))]
  unfold roleIn
  by_cases h3 : a = 3
  · rw [beq_iff_eq.2 h3, if_pos h3]; simp only [cond_true]; rw [cl_ok ho]; rfl
  rw [beq_eq_false_iff_ne.2 h3, if_neg h3]; simp only [cond_false]
  by_cases h2 : a = 2
  · have h1 : a ≠ 1 := by omega
    rw [beq_iff_eq.2 h2, if_pos h2, beq_eq_false_iff_ne.2 h1]; simp only [cond_true, cond_false]
    rw [clI_ok ho]
    by_cases he : orI c b = b
    · rw [beq_iff_eq.2 he, if_pos he]; simp only [cond_true]; rw [cl_ok ho]; rfl
    · rw [beq_eq_false_iff_ne.2 he, if_neg he]; rfl
  rw [beq_eq_false_iff_ne.2 h2, if_neg h2]; simp only [cond_false]
  by_cases h1 : a = 1
  · rw [beq_iff_eq.2 h1, if_pos h1]; simp only [cond_true]
    by_cases he : c = 0
    · rw [beq_iff_eq.2 he, if_pos he]; rfl
    · rw [beq_eq_false_iff_ne.2 he, if_neg he]; rfl
  · rw [beq_eq_false_iff_ne.2 h1, if_neg h1]; rfl
def hasB (c : Cf) (k : Int) : Bool := decide (k ≥ 0) && decide (k < (c.s.length : Int))
def classI (c : Cf) (k : Int) : Int := if 0 ≤ k then (match c.s[k.toNat]? with | some s => s.r | none => 0) else 0
theorem f68_ok {M : Nat} {c : Cf} {k : Int} (h : c.ok) (hk : ok64 k = true) : callP env (M + 1) 68 [c.t, i64 k] = .ok (.bool (hasB c k)) := by
  rw [q68, W_ok (wfs2 h.wf (wf_int hk)), and_rB, List.length_map]; rfl
theorem has_nat {c : Cf} {k : Int} (h : hasB c k = true) : ∃ (i : Nat) (s : Sd), k = i ∧ i < c.s.length ∧ c.s[i]? = some s := by
  unfold hasB at h
  simp only [Bool.and_eq_true, decide_eq_true_eq] at h
  exact ⟨k.toNat, c.s[k.toNat]'(by omega), by omega, by omega, List.getElem?_eq_getElem _⟩
end Go.Sim

/- What the five questions of edge.In come to. -/
namespace Go.Sim
open Go.RowKit Go.Proofs
set_option linter.unusedVariables false
set_option linter.unusedSimpArgs false
set_option linter.unusedSectionVars false
set_option maxRecDepth 100000
variable [Lv]

def in1B (c : Cf) (k : Int) (x : Px) (p : Pa) : Bool := csane c && (hasB c k && (psane x && asane7 p))
theorem pin1 {M : Nat} {c : Cf} {k : Int} {x : Px} {p : Pa} (hM : big + 15 ≤ M) (h : c.ok) (hk : ok64 k = true) (hx : x.ok) (hp : p.ok) : PinOk env (M + 1) (pnI1 c k x p (in1B c k x p)) := fun β K => by
  obtain ⟨m, rfl⟩ := exM (show 1 ≤ M by omega)
  refine (k67 (m + 1) c k x p _ 0 K).trans ?_
  rw [clB_ok (f41_ok (by omega) h)]
  unfold pnI1 in1B
  cases csane c with
  | false => rfl
  | true =>
  rw [cond_true, clB_ok (f68_ok h hk)]
  cases hasB c k with
  | false => rfl
  | true =>
  rw [cond_true, clB_ok (f21_ok hx (by omega))]
  cases psane x with
  | false => rfl
  | true =>
  rw [cond_true, cl_ok (f22_ok (by omega) hp)]
  rfl
theorem pin3 {M : Nat} {c : Cf} {k : Int} {x : Px} {p : Pa} (hM : big + 15 ≤ M) (h : c.ok) (hp : p.ok) : PinOk env (M + 1) (pnI3 c k x p (!(p.s.contains c.a))) := fun β K => by
  obtain ⟨m, rfl⟩ := exM (show 1 ≤ M by omega)
  refine (k70 (m + 1) c k x p _ 0 K).trans ?_
  rw [clB_ok (f71_ok (by omega) (pa_ints hp) h.a)]
  rfl
theorem pin2 {M : Nat} {c : Cf} {k : Nat} {x : Px} {p : Pa} {s : Sd} (hs : c.s[k]? = some s) : PinOk env (M + 1) (pnI2 c k x p (decide (0 < p.s.length) && (decide (p.s.length ≤ 32) && decide (p.s[0]? = some s.a)))) := fun β K => by
  refine (k69 M c k x p _ 0 K).trans ?_
  have hl : ((ints p.s).length : Int) = (p.s.length : Int) := by rw [ints_map, List.length_map]
  rw [hl]
  unfold pnI2
  by_cases h0 : p.s.length > 0
  case neg => rw [decide_eq_false (show ¬ (p.s.length : Int) > 0 by omega), decide_eq_false (show ¬ 0 < p.s.length by omega)]; rfl
  rw [decide_eq_true (show (p.s.length : Int) > 0 by omega), decide_eq_true (show 0 < p.s.length by omega)]
  by_cases h1 : p.s.length ≤ 32
  case neg => rw [decide_eq_false (show ¬ (p.s.length : Int) ≤ 32 by omega), decide_eq_false h1]; rfl
  rw [decide_eq_true (show (p.s.length : Int) ≤ 32 by omega), decide_eq_true h1]
  have hg : p.s[0]? = some p.s[0] := List.getElem?_eq_getElem h0
  have ha := atT_get (K := fun e => atT (List.map Sd.t c.s) k fun e_1 => iT IntKind.i64 e fun a => iT IntKind.i64 (e_1.partD 0 1 false) fun b => K (PV.t (T.bool (a == b))) (inH c k x p (T.agg [i64 0, i64 0, i64 0, i64 0, i64 0, i64 0]) 0)) (ints_get hg)
  simp only [cond_true]
  refine ha.trans ?_
  rw [atT_get (map_get hs), hg]
  have e : s.t.partD 0 1 false = i64 s.a := rfl
  simp only [e, iT_int]
  have : (p.s[0] == s.a) = decide (some p.s[0] = some s.a) := by rw [Bool.eq_iff_iff]; simp
  rw [this]
  rfl
theorem pin4 {M : Nat} {c : Cf} {k : Nat} {x : Px} {p : Pa} {s : Sd} (hM : 2 ≤ M) (hs : c.s[k]? = some s) (h : c.ok) (hp : p.ok) : PinOk env (M + 1) (pnI4 c k x p (roleIn s.r s.a p.c).isSome ((roleIn s.r s.a p.c).getD 0)) := fun β K => by
  obtain ⟨m, rfl⟩ := exM (show 1 ≤ M by omega)
  have ho := h.s.2 _ (List.mem_of_getElem? hs)
  refine (k72 (m + 1) c k x p _ 0 K).trans ?_
  rw [atT_get (map_get hs), atT_get (map_get hs)]
  refine (cl_ok (f73_ok (M := m) (by omega) ho.r ho.a hp.c)).trans ?_
  rfl
def vwI (x : Px) (p : Pa) (r : Int) : Vw := ⟨x, p.s, r⟩
theorem pin5 {M : Nat} {c : Cf} {k : Nat} {x : Px} {p : Pa} {s : Sd} {o : Int} (hM : big + 10 ≤ M) (hs : c.s[k]? = some s) (h : c.ok) (hx : x.ok) (hp : p.ok) :
    PinOk env (M + 1) (pnI5 c k x p (match pickR s.i (vwI x p s.r) with | some r => r.a == 2 | none => false) o (match pickR s.i (vwI x p s.r) with | some r => r.t | none => T.agg [i64 0, i64 0, i64 0, i64 0, i64 0, i64 0])) := fun β K => by
  obtain ⟨m, rfl⟩ := exM (show 1 ≤ M by omega)
  have ho := h.s.2 _ (List.mem_of_getElem? hs)
  refine (k74 (m + 1) c k x p _ o K).trans ?_
  rw [atT_get (map_get hs), atT_get (map_get hs)]
  have hv : (vwI x p s.r).ok := ⟨hx, pa_ints hp, ho.r⟩
  have hc := f75_ok (M := m) (by omega) ho.i hv
  refine (cl_ok hc).trans ?_
  cases pickR s.i (vwI x p s.r) <;> rfl
end Go.Sim

/- What edge.all comes to over the five questions of edge.In: printed by wip/tools/gens14d.py. -/
namespace Go.Sim
open Go.RowKit Go.Proofs
set_option linter.unusedVariables false
set_option linter.unusedSimpArgs false
set_option linter.unusedSectionVars false
set_option maxRecDepth 100000
variable [Lv]

theorem all1 {M : Nat} {c : Cf} {k : Int} {x : Px} {p : Pa} (hM : 6 ≤ M) (h : PinsOk env M [pnI1 c k x p false]) : PinOk env (M + 1) (pnAll c k x p false 0 (T.agg [i64 0, i64 0, i64 0, i64 0, i64 0, i64 0])) := by
  refine runK_pin h ?_
  refine (pk66 M c k x p false _).trans ?_
  have it : ∀ n, iterR (bodyR env (recP env M [pnI1 c k x p false]) M 66 8 2) (n + 1) (sAl0 c k x p (T.agg [i64 0, i64 0, i64 0, i64 0, i64 0, i64 0]) 0) = .ok (.ret, ⟨slots 15 [(2, .t (.bool false))], inH c k x p (T.agg [i64 0, i64 0, i64 0, i64 0, i64 0, i64 0]) 0⟩) := fun n => by
    exact iterR_ret (n := n) ((pkb66_2 M c k x p false).trans chkP_same)
  obtain ⟨n, hn⟩ : ∃ n, M = n + 1 := ⟨M - 1, by omega⟩
  have it' : iterR (bodyR env (recP env M [pnI1 c k x p false]) M 66 8 2) M (sAl0 c k x p (T.agg [i64 0, i64 0, i64 0, i64 0, i64 0, i64 0]) 0) = _ := (congrArg (fun z => iterR (bodyR env (recP env M [pnI1 c k x p false]) M 66 8 2) z (sAl0 c k x p (T.agg [i64 0, i64 0, i64 0, i64 0, i64 0, i64 0]) 0)) hn).trans (it n)
  exact (loopR_end it').trans (pkt66_2_ret M c k x p false _ _)
theorem all2 {M : Nat} {c : Cf} {k : Int} {x : Px} {p : Pa} (hM : 6 ≤ M) (h : PinsOk env M [pnI1 c k x p true, pnI2 c k x p false]) : PinOk env (M + 1) (pnAll c k x p false 0 (T.agg [i64 0, i64 0, i64 0, i64 0, i64 0, i64 0])) := by
  refine runK_pin h ?_
  refine (pk66_2 M c k x p false _).trans ?_
  have it : ∀ n, iterR (bodyR env (recP env M [pnI1 c k x p true, pnI2 c k x p false]) M 66 8 2) (n + 2) (sAl0 c k x p (T.agg [i64 0, i64 0, i64 0, i64 0, i64 0, i64 0]) 0) = .ok (.ret, ⟨slots 15 [(2, .t (.bool false))], inH c k x p (T.agg [i64 0, i64 0, i64 0, i64 0, i64 0, i64 0]) 0⟩) := fun n => by
    refine (iterR_step (n := n + 1) (s' := sAl1 c k x p (T.agg [i64 0, i64 0, i64 0, i64 0, i64 0, i64 0]) 0) ((pkb66_2_2 M c k x p false).trans chkP_same)).trans ?_
    exact iterR_ret (n := n) ((pkb66_2_3 M c k x p false).trans chkP_same)
  obtain ⟨n, hn⟩ : ∃ n, M = n + 2 := ⟨M - 2, by omega⟩
  have it' : iterR (bodyR env (recP env M [pnI1 c k x p true, pnI2 c k x p false]) M 66 8 2) M (sAl0 c k x p (T.agg [i64 0, i64 0, i64 0, i64 0, i64 0, i64 0]) 0) = _ := (congrArg (fun z => iterR (bodyR env (recP env M [pnI1 c k x p true, pnI2 c k x p false]) M 66 8 2) z (sAl0 c k x p (T.agg [i64 0, i64 0, i64 0, i64 0, i64 0, i64 0]) 0)) hn).trans (it n)
  exact (loopR_end it').trans (pkt66_2_ret_2 M c k x p false _ _)
theorem all3 {M : Nat} {c : Cf} {k : Int} {x : Px} {p : Pa} (hM : 6 ≤ M) (h : PinsOk env M [pnI1 c k x p true, pnI2 c k x p true, pnI3 c k x p false]) : PinOk env (M + 1) (pnAll c k x p false 0 (T.agg [i64 0, i64 0, i64 0, i64 0, i64 0, i64 0])) := by
  refine runK_pin h ?_
  refine (pk66_3 M c k x p false _).trans ?_
  have it : ∀ n, iterR (bodyR env (recP env M [pnI1 c k x p true, pnI2 c k x p true, pnI3 c k x p false]) M 66 8 2) (n + 3) (sAl0 c k x p (T.agg [i64 0, i64 0, i64 0, i64 0, i64 0, i64 0]) 0) = .ok (.ret, ⟨slots 15 [(2, .t (.bool false))], inH c k x p (T.agg [i64 0, i64 0, i64 0, i64 0, i64 0, i64 0]) 0⟩) := fun n => by
    refine (iterR_step (n := n + 2) (s' := sAl1 c k x p (T.agg [i64 0, i64 0, i64 0, i64 0, i64 0, i64 0]) 0) ((pkb66_2_4 M c k x p false).trans chkP_same)).trans ?_
    refine (iterR_step (n := n + 1) (s' := sAl2 c k x p (T.agg [i64 0, i64 0, i64 0, i64 0, i64 0, i64 0]) 0) ((pkb66_2_5 M c k x p false).trans chkP_same)).trans ?_
    exact iterR_ret (n := n) ((pkb66_2_6 M c k x p false).trans chkP_same)
  obtain ⟨n, hn⟩ : ∃ n, M = n + 3 := ⟨M - 3, by omega⟩
  have it' : iterR (bodyR env (recP env M [pnI1 c k x p true, pnI2 c k x p true, pnI3 c k x p false]) M 66 8 2) M (sAl0 c k x p (T.agg [i64 0, i64 0, i64 0, i64 0, i64 0, i64 0]) 0) = _ := (congrArg (fun z => iterR (bodyR env (recP env M [pnI1 c k x p true, pnI2 c k x p true, pnI3 c k x p false]) M 66 8 2) z (sAl0 c k x p (T.agg [i64 0, i64 0, i64 0, i64 0, i64 0, i64 0]) 0)) hn).trans (it n)
  exact (loopR_end it').trans (pkt66_2_ret_3 M c k x p false _ _)
theorem all4 {M : Nat} {c : Cf} {k : Int} {x : Px} {p : Pa} {o : Int} (hM : 6 ≤ M) (h : PinsOk env M [pnI1 c k x p true, pnI2 c k x p true, pnI3 c k x p true, pnI4 c k x p false o]) : PinOk env (M + 1) (pnAll c k x p false o (T.agg [i64 0, i64 0, i64 0, i64 0, i64 0, i64 0])) := by
  refine runK_pin h ?_
  refine (pk66_4 M c k x p false o _).trans ?_
  have it : ∀ n, iterR (bodyR env (recP env M [pnI1 c k x p true, pnI2 c k x p true, pnI3 c k x p true, pnI4 c k x p false o]) M 66 8 2) (n + 4) (sAl0 c k x p (T.agg [i64 0, i64 0, i64 0, i64 0, i64 0, i64 0]) 0) = .ok (.ret, ⟨slots 15 [(2, .t (.bool false))], inH c k x p (T.agg [i64 0, i64 0, i64 0, i64 0, i64 0, i64 0]) o⟩) := fun n => by
    refine (iterR_step (n := n + 3) (s' := sAl1 c k x p (T.agg [i64 0, i64 0, i64 0, i64 0, i64 0, i64 0]) 0) ((pkb66_2_7 M c k x p false o).trans chkP_same)).trans ?_
    refine (iterR_step (n := n + 2) (s' := sAl2 c k x p (T.agg [i64 0, i64 0, i64 0, i64 0, i64 0, i64 0]) 0) ((pkb66_2_8 M c k x p false o).trans chkP_same)).trans ?_
    refine (iterR_step (n := n + 1) (s' := sAl3 c k x p (T.agg [i64 0, i64 0, i64 0, i64 0, i64 0, i64 0]) 0) ((pkb66_2_9 M c k x p false o).trans chkP_same)).trans ?_
    exact iterR_ret (n := n) ((pkb66_2_10 M c k x p false o).trans chkP_same)
  obtain ⟨n, hn⟩ : ∃ n, M = n + 4 := ⟨M - 4, by omega⟩
  have it' : iterR (bodyR env (recP env M [pnI1 c k x p true, pnI2 c k x p true, pnI3 c k x p true, pnI4 c k x p false o]) M 66 8 2) M (sAl0 c k x p (T.agg [i64 0, i64 0, i64 0, i64 0, i64 0, i64 0]) 0) = _ := (congrArg (fun z => iterR (bodyR env (recP env M [pnI1 c k x p true, pnI2 c k x p true, pnI3 c k x p true, pnI4 c k x p false o]) M 66 8 2) z (sAl0 c k x p (T.agg [i64 0, i64 0, i64 0, i64 0, i64 0, i64 0]) 0)) hn).trans (it n)
  exact (loopR_end it').trans (pkt66_2_ret_4 M c k x p false o _ _)
theorem all5 {M : Nat} {c : Cf} {k : Int} {x : Px} {p : Pa} {o : Int} {r : T} (hM : 6 ≤ M) (h : PinsOk env M [pnI1 c k x p true, pnI2 c k x p true, pnI3 c k x p true, pnI4 c k x p true o, pnI5 c k x p false o r]) : PinOk env (M + 1) (pnAll c k x p false o r) := by
  refine runK_pin h ?_
  refine (pk66_5 M c k x p false o r _).trans ?_
  have it : ∀ n, iterR (bodyR env (recP env M [pnI1 c k x p true, pnI2 c k x p true, pnI3 c k x p true, pnI4 c k x p true o, pnI5 c k x p false o r]) M 66 8 2) (n + 5) (sAl0 c k x p (T.agg [i64 0, i64 0, i64 0, i64 0, i64 0, i64 0]) 0) = .ok (.ret, ⟨slots 15 [(2, .t (.bool false))], inH c k x p r o⟩) := fun n => by
    refine (iterR_step (n := n + 4) (s' := sAl1 c k x p (T.agg [i64 0, i64 0, i64 0, i64 0, i64 0, i64 0]) 0) ((pkb66_2_11 M c k x p false o r).trans chkP_same)).trans ?_
    refine (iterR_step (n := n + 3) (s' := sAl2 c k x p (T.agg [i64 0, i64 0, i64 0, i64 0, i64 0, i64 0]) 0) ((pkb66_2_12 M c k x p false o r).trans chkP_same)).trans ?_
    refine (iterR_step (n := n + 2) (s' := sAl3 c k x p (T.agg [i64 0, i64 0, i64 0, i64 0, i64 0, i64 0]) 0) ((pkb66_2_13 M c k x p false o r).trans chkP_same)).trans ?_
    refine (iterR_step (n := n + 1) (s' := sAl4 c k x p (T.agg [i64 0, i64 0, i64 0, i64 0, i64 0, i64 0]) o) ((pkb66_2_14 M c k x p false o r).trans chkP_same)).trans ?_
    exact iterR_ret (n := n) ((pkb66_2_15 M c k x p false o r).trans chkP_same)
  obtain ⟨n, hn⟩ : ∃ n, M = n + 5 := ⟨M - 5, by omega⟩
  have it' : iterR (bodyR env (recP env M [pnI1 c k x p true, pnI2 c k x p true, pnI3 c k x p true, pnI4 c k x p true o, pnI5 c k x p false o r]) M 66 8 2) M (sAl0 c k x p (T.agg [i64 0, i64 0, i64 0, i64 0, i64 0, i64 0]) 0) = _ := (congrArg (fun z => iterR (bodyR env (recP env M [pnI1 c k x p true, pnI2 c k x p true, pnI3 c k x p true, pnI4 c k x p true o, pnI5 c k x p false o r]) M 66 8 2) z (sAl0 c k x p (T.agg [i64 0, i64 0, i64 0, i64 0, i64 0, i64 0]) 0)) hn).trans (it n)
  exact (loopR_end it').trans (pkt66_2_ret_5 M c k x p false o r _ _)
theorem all6 {M : Nat} {c : Cf} {k : Int} {x : Px} {p : Pa} {o : Int} {r : T} (hM : 6 ≤ M) (h : PinsOk env M [pnI1 c k x p true, pnI2 c k x p true, pnI3 c k x p true, pnI4 c k x p true o, pnI5 c k x p true o r]) : PinOk env (M + 1) (pnAll c k x p true o r) := by
  refine runK_pin h ?_
  refine (pk66_5 M c k x p true o r _).trans ?_
  have it : ∀ n, iterR (bodyR env (recP env M [pnI1 c k x p true, pnI2 c k x p true, pnI3 c k x p true, pnI4 c k x p true o, pnI5 c k x p true o r]) M 66 8 2) (n + 6) (sAl0 c k x p (T.agg [i64 0, i64 0, i64 0, i64 0, i64 0, i64 0]) 0) = .ok (.exit 0, ⟨slots 15 [], inH c k x p r o⟩) := fun n => by
    refine (iterR_step (n := n + 5) (s' := sAl1 c k x p (T.agg [i64 0, i64 0, i64 0, i64 0, i64 0, i64 0]) 0) ((pkb66_2_11 M c k x p true o r).trans chkP_same)).trans ?_
    refine (iterR_step (n := n + 4) (s' := sAl2 c k x p (T.agg [i64 0, i64 0, i64 0, i64 0, i64 0, i64 0]) 0) ((pkb66_2_12 M c k x p true o r).trans chkP_same)).trans ?_
    refine (iterR_step (n := n + 3) (s' := sAl3 c k x p (T.agg [i64 0, i64 0, i64 0, i64 0, i64 0, i64 0]) 0) ((pkb66_2_13 M c k x p true o r).trans chkP_same)).trans ?_
    refine (iterR_step (n := n + 2) (s' := sAl4 c k x p (T.agg [i64 0, i64 0, i64 0, i64 0, i64 0, i64 0]) o) ((pkb66_2_14 M c k x p true o r).trans chkP_same)).trans ?_
    refine (iterR_step (n := n + 1) (s' := sAl5 c k x p r o) ((pkb66_2_15 M c k x p true o r).trans chkP_same)).trans ?_
    exact iterR_exit (n := n) (pkb66_2_16 M c k x p true o r)
  obtain ⟨n, hn⟩ : ∃ n, M = n + 6 := ⟨M - 6, by omega⟩
  have it' : iterR (bodyR env (recP env M [pnI1 c k x p true, pnI2 c k x p true, pnI3 c k x p true, pnI4 c k x p true o, pnI5 c k x p true o r]) M 66 8 2) M (sAl0 c k x p (T.agg [i64 0, i64 0, i64 0, i64 0, i64 0, i64 0]) 0) = _ := (congrArg (fun z => iterR (bodyR env (recP env M [pnI1 c k x p true, pnI2 c k x p true, pnI3 c k x p true, pnI4 c k x p true o, pnI5 c k x p true o r]) M 66 8 2) z (sAl0 c k x p (T.agg [i64 0, i64 0, i64 0, i64 0, i64 0, i64 0]) 0)) hn).trans (it n)
  exact (loopR_end it').trans (pkt66_2_exit0 M c k x p true o r _ _)
end Go.Sim

/- What edge.In answers. -/
namespace Go.Sim
open Go.RowKit Go.Proofs
set_option linter.unusedVariables false
set_option linter.unusedSimpArgs false
set_option linter.unusedSectionVars false
set_option maxRecDepth 100000
variable [Lv]

def zR : T := T.agg [i64 0, i64 0, T.sl 1 [], i64 0, i64 0, i64 0]
/-- What a path is to a node that is told it. -/
def inR (c : Cf) (k : Int) (x : Px) (p : Pa) : Option Rt :=
  if in1B c k x p then match c.s[k.toNat]? with
    | some s => if (p.s[0]? = some s.a ∧ p.s.length ≤ 32) ∧ p.s.contains c.a = false then match roleIn s.r s.a p.c with
      | some m => match pickR s.i (vwI x p s.r) with
        | some r => if r.a = 2 then some ⟨r.n, ⟨p.o, p.s, p.h, m⟩, k⟩ else none
        | none => none
      | none => none
      else none
    | none => none
  else none
def optR : Option Rt → T
  | some r => .tup [r.t, .bool true]
  | none => .tup [zR, .bool false]
theorem in_F {M : Nat} {c : Cf} {k : Int} {x : Px} {p : Pa} {o : Int} {r : T} (hw : T.wfs [c.t, i64 k, x.t, p.t] = true) (h : PinOk env M (pnAll c k x p false o r)) : callP env (M + 1) 44 [c.t, i64 k, x.t, p.t] = .ok (.tup [zR, .bool false]) :=
  callP_pin (ps := [pnAll c k x p false o r]) ⟨h, trivial⟩ hw rfl ((pq44 M c k x p false o r).trans (chkP_ok ⟨rfl, rfl⟩))
theorem in_T {M : Nat} {c : Cf} {k : Int} {x : Px} {p : Pa} {o : Int} {r : Ru} (hw : T.wfs [c.t, i64 k, x.t, p.t] = true) (h : PinOk env M (pnAll c k x p true o r.t)) : callP env (M + 1) 44 [c.t, i64 k, x.t, p.t] = .ok (.tup [(Rt.mk r.n ⟨p.o, p.s, p.h, o⟩ k).t, .bool true]) :=
  callP_pin (ps := [pnAll c k x p true o r.t]) ⟨h, trivial⟩ hw rfl ((pq44 M c k x p true o r.t).trans (chkP_ok ⟨rfl, rfl⟩))
theorem f44_ok {M : Nat} {c : Cf} {k : Int} {x : Px} {p : Pa} (hM : big + 18 ≤ M) (h : c.ok) (hk : ok64 k = true) (hx : x.ok) (hp : p.ok) : callP env (M + 1) 44 [c.t, i64 k, x.t, p.t] = .ok (optR (inR c k x p)) := by
  obtain ⟨m, rfl⟩ := exM (show 1 ≤ M by omega)
  obtain ⟨m, rfl⟩ := exM (show 1 ≤ m by omega)
  have hw : T.wfs [c.t, i64 k, x.t, p.t] = true := by
    have h1 := h.wf; have h2 := wf_int hk; have h3 := hx.wf; have h4 := hp.wf
    simp only [T.wfs, h1, h2, h3, h4, Bool.and_self]
  have g1 := pin1 (M := m) (c := c) (k := k) (x := x) (p := p) (by omega) h hk hx hp
  unfold inR
  cases e1 : in1B c k x p with
  | false =>
    rw [e1] at g1
    exact in_F hw (all1 (M := m + 1) (by omega) ⟨g1, trivial⟩)
  | true =>
  rw [e1] at g1
  simp only [if_true]
  have hh : hasB c k = true := by unfold in1B at e1; simp only [Bool.and_eq_true] at e1; exact e1.2.1
  obtain ⟨i, s, rfl, hi, hs⟩ := has_nat hh
  rw [Int.toNat_natCast, hs]
  have g2 := pin2 (M := m) (x := x) (p := p) hs
  by_cases e2 : p.s[0]? = some s.a ∧ p.s.length ≤ 32
  case neg =>
    have : (decide (0 < p.s.length) && (decide (p.s.length ≤ 32) && decide (p.s[0]? = some s.a))) = false := by
      rw [Bool.eq_false_iff]; intro ht
      simp only [Bool.and_eq_true, decide_eq_true_eq] at ht
      exact e2 ⟨ht.2.2, ht.2.1⟩
    rw [this] at g2
    simp only [e2, false_and, if_false]
    exact in_F hw (all2 (M := m + 1) (by omega) ⟨g1, g2, trivial⟩)
  have : (decide (0 < p.s.length) && (decide (p.s.length ≤ 32) && decide (p.s[0]? = some s.a))) = true := by
    simp only [Bool.and_eq_true, decide_eq_true_eq]
    exact ⟨(List.getElem?_eq_some_iff.1 e2.1).1, e2.2, e2.1⟩
  rw [this] at g2
  have g3 := pin3 (M := m) (c := c) (k := (i : Int)) (x := x) (p := p) (by omega) h hp
  simp only [e2, true_and, and_self]
  cases e3 : p.s.contains c.a with
  | true =>
    rw [e3] at g3
    exact in_F hw (all3 (M := m + 1) (by omega) ⟨g1, g2, g3, trivial⟩)
  | false =>
  rw [e3] at g3
  simp only [if_true]
  have g4 := pin4 (M := m) (c := c) (x := x) (p := p) (by omega) hs h hp
  cases e4 : roleIn s.r s.a p.c with
  | none =>
    rw [e4] at g4
    exact in_F hw (all4 (M := m + 1) (by omega) ⟨g1, g2, g3, g4, trivial⟩)
  | some o =>
  rw [e4] at g4
  have g5 := pin5 (M := m) (c := c) (x := x) (p := p) (o := o) (by omega) hs h hx hp
  cases e5 : pickR s.i (vwI x p s.r) with
  | none =>
    rw [e5] at g5
    exact in_F hw (all5 (M := m + 1) (by omega) ⟨g1, g2, g3, g4, g5, trivial⟩)
  | some r =>
  rw [e5] at g5
  by_cases e6 : r.a = 2
  · simp only [e6, beq_self_eq_true] at g5
    simp only [e6, if_true]
    exact in_T hw (all6 (M := m + 1) (by omega) ⟨g1, g2, g3, g4, g5, trivial⟩)
  · simp only [beq_eq_false_iff_ne.2 e6] at g5
    simp only [e6, if_false]
    exact in_F hw (all5 (M := m + 1) (by omega) ⟨g1, g2, g3, g4, g5, trivial⟩)
end Go.Sim

/- Laws of layer 14, on plain data. -/
namespace Go.Sim
open Go.RowKit Go.Proofs
set_option linter.unusedVariables false
set_option linter.unusedSimpArgs false
set_option linter.unusedSectionVars false
set_option maxRecDepth 100000

/-- A node's own route. -/
def ownR (h : Int) : Rt := ⟨400, ⟨0, [], h, 0⟩, -1⟩
def cmpI (a b : Int) : Int := if a < b then -1 else if b < a then 1 else 0
def cmpL : List Int → List Int → Int
  | [], [] => 0
  | [], _ :: _ => -1
  | _ :: _, [] => 1
  | a :: l, b :: m => if a = b then cmpL l m else cmpI a b
def fnz : List Int → Int
  | [] => 0
  | x :: l => if x = 0 then fnz l else x
def cmpR (a b : Rt) : Int := fnz [cmpI b.n a.n, cmpI a.p.s.length b.p.s.length, cmpI a.p.o b.p.o, cmpL a.p.s b.p.s, cmpI a.p.h b.p.h, cmpI a.p.c b.p.c, cmpI a.f b.f]
def rtsane (r : Rt) : Bool := asane7 r.p && (decide (r.p.s.length ≤ 32) && (if r.f = -1 then cmpR r (ownR r.p.h) == 0 else decide (r.f ≥ 0) && (decide (r.f ≤ 7) && (decide (r.n > 0) && decide (r.n < 400)))))
def preR (c : Cf) (u : Ru) (r : Rt) : List Int := List.replicate (1 + u.n).toNat c.a ++ r.p.s
/-- The path by which a node tells a route. -/
def outR (c : Cf) (k : Int) (x : Px) (r : Rt) : Option Pa :=
  if (csane c && (hasB c k && (psane x && rtsane r))) && (decide (r.f ≠ k) && decide (r.f < (c.s.length : Int))) then match c.s[k.toNat]? with
    | some s => match pickR s.o (vwI x r.p (classI c r.f)) with
      | some u => if u.a = 0 then none else match roleOut s.r c.a r.p.c with
        | some m => if (preR c u r).length ≤ 32 then some ⟨r.p.o, preR c u r, c.d, m⟩ else none
        | none => none
      | none => none
    | none => none
  else none

theorem cmpI_zero {a b : Int} : cmpI a b = 0 ↔ a = b := by
  unfold cmpI
  split
  · omega
  · split <;> omega
theorem cmpL_zero : ∀ {l m : List Int}, cmpL l m = 0 ↔ l = m
  | [], [] => by simp [cmpL]
  | [], _ :: _ => by simp [cmpL]
  | _ :: _, [] => by simp [cmpL]
  | a :: l, b :: m => by
    simp only [cmpL]
    split
    · rename_i h; subst h; rw [cmpL_zero]; simp
    · rename_i h
      rw [cmpI_zero]
      constructor
      · intro e; exact absurd e h
      · intro e; injection e with e1 e2
theorem fnz_zero : ∀ {l : List Int}, fnz l = 0 ↔ ∀ x ∈ l, x = 0
  | [] => by simp [fnz]
  | x :: l => by
    simp only [fnz]
    split
    · rename_i h; rw [fnz_zero]; simp [h]
    · rename_i h; simp [h]
theorem cmpR_zero {a b : Rt} : cmpR a b = 0 ↔ a = b := by
  unfold cmpR
  rw [fnz_zero]
  simp only [List.mem_cons, List.not_mem_nil, or_false, forall_eq_or_imp, forall_eq, cmpI_zero, cmpL_zero]
  obtain ⟨n, ⟨o, s, h, c⟩, f⟩ := a
  obtain ⟨n', ⟨o', s', h', c'⟩, f'⟩ := b
  simp only [Rt.mk.injEq, Pa.mk.injEq]
  constructor
  · rintro ⟨h1, h2, h3, h4, h5, h6, h7⟩; exact ⟨h1.symm, ⟨h3, h4, h5, h6⟩, h7⟩
  · rintro ⟨h1, ⟨h3, h4, h5, h6⟩, h7⟩; exact ⟨h1.symm, by rw [h4], h3, h4, h5, h6, h7⟩

variable [Lv]
theorem inR_spec {c : Cf} {k : Int} {x : Px} {p : Pa} {r : Rt} (h : inR c k x p = some r) : csane c = true ∧ psane x = true ∧ asane7 p = true ∧ ∃ (i : Nat) (s : Sd) (m : Int) (u : Ru), k = i ∧ i < c.s.length ∧ c.s[i]? = some s ∧ p.s[0]? = some s.a ∧ p.s.length ≤ 32 ∧
    p.s.contains c.a = false ∧ roleIn s.r s.a p.c = some m ∧ pickR s.i (vwI x p s.r) = some u ∧ u.a = 2 ∧ r = ⟨u.n, ⟨p.o, p.s, p.h, m⟩, k⟩ := by
  unfold inR at h
  split at h
  case isFalse => cases h
  rename_i h1
  unfold in1B at h1
  simp only [Bool.and_eq_true] at h1
  obtain ⟨i, s, rfl, hi, hs⟩ := has_nat h1.2.1
  rw [Int.toNat_natCast, hs] at h
  simp only [] at h
  split at h
  case isFalse => cases h
  rename_i h2
  split at h
  case h_2 => cases h
  rename_i m h3
  split at h
  case h_2 => cases h
  rename_i u h4
  split at h
  case isFalse => cases h
  rename_i h5
  injection h with h
  exact ⟨h1.1, h1.2.2.1, h1.2.2.2, i, s, m, u, rfl, hi, hs, h2.1.1, h2.1.2, h2.2, h3, h4, h5, h.symm⟩
theorem outR_spec {c : Cf} {k : Int} {x : Px} {r : Rt} {q : Pa} (h : outR c k x r = some q) : csane c = true ∧ psane x = true ∧ rtsane r = true ∧ r.f ≠ k ∧ r.f < c.s.length ∧ ∃ (i : Nat) (s : Sd) (m : Int) (u : Ru), k = i ∧ i < c.s.length ∧ c.s[i]? = some s ∧
    pickR s.o (vwI x r.p (classI c r.f)) = some u ∧ u.a ≠ 0 ∧ roleOut s.r c.a r.p.c = some m ∧ (preR c u r).length ≤ 32 ∧ q = ⟨r.p.o, preR c u r, c.d, m⟩ := by
  unfold outR at h
  split at h
  case isFalse => cases h
  rename_i h1
  simp only [Bool.and_eq_true, decide_eq_true_eq] at h1
  obtain ⟨i, s, rfl, hi, hs⟩ := has_nat h1.1.2.1
  rw [Int.toNat_natCast, hs] at h
  simp only [] at h
  split at h
  case h_2 => cases h
  rename_i u h3
  split at h
  case isTrue => cases h
  rename_i h4
  split at h
  case h_2 => cases h
  rename_i m h5
  split at h
  case isFalse => cases h
  rename_i h6
  injection h with h
  exact ⟨h1.1.1, h1.1.2.2.1, h1.1.2.2.2, h1.2.1, h1.2.2, i, s, m, u, rfl, hi, hs, h3, h4, h5, h6, h.symm⟩

theorem pick_mem {l : List Ru} {v : Vw} {r : Ru} (h : pickR l v = some r) : r ∈ l ∧ fitsB v r = true := ⟨List.mem_of_find?_eq_some h, by have := List.find?_some h; exact this⟩
theorem total_fits {v : Vw} {r : Ru} (h : totalB v.c r = true) : fitsB v r = true := by
  unfold totalB at h
  unfold fitsB
  simp only [Bool.or_eq_true, Bool.and_eq_true, beq_iff_eq] at h
  rcases h with h | ⟨h, h2⟩
  · rw [if_pos h]
  · rw [h, if_neg (by decide), if_neg (by decide), if_neg (by decide), if_neg (by decide), if_pos rfl, h2]; simp
theorem fits_other {v : Vw} {r : Ru} (h : fitsB v r = true) : otherB v.c r = false := by
  unfold otherB
  by_cases hm : r.m = 4
  · unfold fitsB at h
    rw [hm, if_neg (by decide), if_neg (by decide), if_neg (by decide), if_neg (by decide), if_pos rfl, beq_iff_eq] at h
    rw [h]; simp
  · rw [beq_eq_false_iff_ne.2 hm]; rfl
/-- The rule that decides is one that a route of its class can come to. -/
theorem pick_reach {l : List Ru} {v : Vw} {r : Ru} (h : pickR l v = some r) : r ∈ reachR l v.c := by
  have hf := (pick_mem h).2
  unfold reachR
  rw [List.mem_filter]
  refine ⟨?_, by rw [fits_other hf]; rfl⟩
  unfold pickR at h
  obtain ⟨_, i, hi, hr, hj⟩ := List.find?_eq_some_iff_getElem.1 h
  cases hk : l.findIdx? (totalB v.c) with
  | none => rw [← hr]; exact List.getElem_mem _
  | some k =>
    obtain ⟨hkl, hkt, _⟩ := List.findIdx?_eq_some_iff_getElem.1 hk
    have hle : i ≤ k := by
      rcases Nat.lt_or_ge k i with h1 | h1
      · have := hj k h1
        rw [total_fits hkt] at this
        simp at this
      · exact h1
    simp only []
    rw [← hr]
    exact List.mem_iff_getElem.2 ⟨i, by simp; omega, by simp⟩

theorem side_parts {c : Cf} (h : csane c = true) {i : Nat} {s : Sd} (hs : c.s[i]? = some s) : 0 < s.a ∧ s.a ≤ 4294967295 ∧ 1 ≤ s.r ∧ s.r ≤ 3 ∧ (∀ r ∈ s.i, rsane r true = true) ∧ ∀ r ∈ s.o, rsane r false = true := by
  have := csane_side h (List.mem_of_getElem? hs)
  unfold sideB withinB rulesB at this
  simp only [Bool.and_eq_true, decide_eq_true_eq, Bool.not_eq_true', List.any_eq_false, Bool.not_eq_true] at this
  obtain ⟨⟨h1, h2⟩, h3, h4, ⟨_, h5⟩, _, h6⟩ := this
  refine ⟨h1, h2, h3, h4, fun r hr => ?_, fun r hr => ?_⟩
  · have := h5 r hr; simpa using this
  · have := h6 r hr; simpa using this
theorem csane_parts {c : Cf} (h : csane c = true) : 0 < c.a ∧ c.a ≤ 4294967295 ∧ 0 < c.d ∧ c.d ≤ 4294967295 ∧ c.s.length ≤ 8 := by
  unfold csane withinB at h
  simp only [Bool.and_eq_true, decide_eq_true_eq] at h
  exact ⟨h.1.1, h.1.2, h.2.1.1, h.2.1.2, h.2.2.2.2.2.2.1⟩
theorem class_nat {c : Cf} {i : Nat} {s : Sd} (hs : c.s[i]? = some s) : classI c (i : Int) = s.r := by
  unfold classI; rw [if_pos (by omega), Int.toNat_natCast, hs]
theorem pref_in {u : Ru} (h : rsane u true = true) (ha : u.a = 2) : 0 < u.n ∧ u.n < 400 := by
  unfold rsane actB at h
  rw [ha] at h
  simp at h
  omega
theorem more_out {u : Ru} (h : rsane u false = true) (ha : u.a ≠ 0) : 0 ≤ u.n ∧ u.n ≤ 8 := by
  unfold rsane actB at h
  simp only [Bool.and_eq_true] at h
  have h2 := h.2.2
  rw [if_neg ha] at h2
  split at h2
  · simp at h2; omega
  split at h2
  · simp at h2
  split at h2
  · simp at h2; omega
  · cases h2
theorem asane_parts {p : Pa} (h : asane7 p = true) : (∀ n ∈ p.s, 1 ≤ n ∧ n ≤ 4294967295) ∧ p.s.length ≤ 255 ∧ 0 ≤ p.o ∧ p.o ≤ 2 ∧ 0 < p.h ∧ p.h ≤ 4294967295 ∧ 0 ≤ p.c ∧ p.c ≤ 4294967295 := by
  unfold asane7 at h
  simp only [Bool.and_eq_true, Bool.not_eq_true', List.any_eq_false, decide_eq_true_eq] at h
  refine ⟨fun n hn => ?_, h.2.1, h.2.2.1, h.2.2.2.1, h.2.2.2.2.1, h.2.2.2.2.2.1, h.2.2.2.2.2.2.1, h.2.2.2.2.2.2.2⟩
  have := h.1 n hn
  unfold asnB at this
  simp only [Bool.or_eq_true, decide_eq_true_eq] at this
  omega
theorem asane_of {p : Pa} (h1 : ∀ n ∈ p.s, 1 ≤ n ∧ n ≤ 4294967295) (h2 : p.s.length ≤ 255) (h3 : 0 ≤ p.o) (h4 : p.o ≤ 2) (h5 : 0 < p.h) (h6 : p.h ≤ 4294967295) (h7 : 0 ≤ p.c) (h8 : p.c ≤ 4294967295) : asane7 p = true := by
  unfold asane7
  simp only [Bool.and_eq_true, Bool.not_eq_true', List.any_eq_false, decide_eq_true_eq]
  refine ⟨fun n hn => ?_, h2, h3, h4, h5, h6, h7, h8⟩
  have := h1 n hn
  unfold asnB
  simp only [Bool.or_eq_true, decide_eq_true_eq]
  omega
theorem orI_pos {a b : Int} (ha : 0 ≤ a) (hb : 0 < b) : 0 < orI a b := by unfold orI; split <;> omega
theorem orI_le {a b n : Int} (ha : a ≤ n) (hb : b ≤ n) : orI a b ≤ n := by unfold orI; split <;> omega

/-- EdgeTakes. -/
theorem takes_law {c : Cf} {k : Int} {x : Px} {p : Pa} {r : Rt} (h : inR c k x p = some r) : csane c = true ∧ rtsane r = true ∧ r.f = k ∧ (∃ (i : Nat) (s : Sd), k = i ∧ c.s[i]? = some s ∧ r.p.s[0]? = some s.a) ∧ r.p.s = p.s ∧ p.s.contains c.a = false ∧ r.p.o = p.o ∧ r.p.h = p.h := by
  obtain ⟨h1, h2, h3, i, s, m, u, rfl, hi, hs, h4, h5, h6, h7, h8, h9, rfl⟩ := inR_spec h
  obtain ⟨s1, s2, s3, s4, s5, s6⟩ := side_parts h1 hs
  obtain ⟨c1, c2, c3, c4, c5⟩ := csane_parts h1
  obtain ⟨p1, p2, p3, p4, p5, p6, p7, p8⟩ := asane_parts h3
  obtain ⟨u1, u2⟩ := pref_in (s5 u (pick_mem h8).1) h9
  refine ⟨h1, ?_, rfl, ⟨i, s, rfl, hs, h4⟩, rfl, h6, rfl, rfl⟩
  unfold rtsane
  simp only [Bool.and_eq_true, decide_eq_true_eq]
  have hm : 0 ≤ m ∧ m ≤ 4294967295 := by
    have := orI_pos p7 s1
    have := orI_le p8 s2
    unfold roleIn at h7
    repeat' split at h7
    all_goals first | (injection h7 with h7; omega) | cases h7
  refine ⟨asane_of p1 p2 p3 p4 p5 p6 hm.1 hm.2, h5, ?_⟩
  rw [if_neg (by omega)]
  simp only [Bool.and_eq_true, decide_eq_true_eq]
  omega
/-- EdgeTells. -/
theorem tells_law {c : Cf} {k : Int} {x : Px} {r : Rt} {q : Pa} (h : outR c k x r = some q) : csane c = true ∧ rtsane r = true ∧ asane7 q = true ∧ r.f ≠ k ∧ q.h = c.d ∧ q.o = r.p.o ∧ q.s.length ≤ 32 ∧ ∃ n : Nat, 1 ≤ n ∧ n ≤ 9 ∧ q.s = List.replicate n c.a ++ r.p.s := by
  obtain ⟨h1, h2, h3, h4, h5, i, s, m, u, rfl, hi, hs, h6, h7, h8, h9, rfl⟩ := outR_spec h
  obtain ⟨s1, s2, s3, s4, s5, s6⟩ := side_parts h1 hs
  obtain ⟨c1, c2, c3, c4, c5⟩ := csane_parts h1
  obtain ⟨u1, u2⟩ := more_out (s6 u (pick_mem h6).1) h7
  have h3' := h3
  unfold rtsane at h3'
  simp only [Bool.and_eq_true] at h3'
  obtain ⟨p1, p2, p3, p4, p5, p6, p7, p8⟩ := asane_parts h3'.1
  refine ⟨h1, h3, ?_, h4, rfl, rfl, h9, (1 + u.n).toNat, by omega, by omega, rfl⟩
  have hm : 0 ≤ m ∧ m ≤ 4294967295 := by
    have := orI_pos p7 c1
    have := orI_le p8 c2
    unfold roleOut at h8
    repeat' split at h8
    all_goals first | (injection h8 with h8; omega) | cases h8
  refine asane_of (fun n hn => ?_) (show (preR c u r).length ≤ 255 by omega) p3 p4 c3 c4 hm.1 hm.2
  simp only [preR, List.mem_append, List.mem_replicate] at hn
  rcases hn with ⟨_, rfl⟩ | hn
  · omega
  · exact p1 n hn
/-- EdgeMarks. -/
theorem marks_law {c : Cf} {k j : Int} {x : Px} {p : Pa} {r : Rt} {q : Pa} (h : inR c k x p = some r) (h' : outR c j x r = some q) : (∃ (i : Nat) (s : Sd), k = i ∧ c.s[i]? = some s ∧ classI c k = s.r ∧ roleIn s.r s.a p.c = some r.p.c) ∧ (classI c k = 1 ∨ classI c j = 1) ∧ (r.p.c = 0 ∨ classI c j = 1) ∧ (classI c j = 3 ↔ q.c = 0) := by
  obtain ⟨h1, h2, h3, i, s, m, u, rfl, hi, hs, h4, h5, h6, h7, h8, h9, rfl⟩ := inR_spec h
  obtain ⟨g1, g2, g3, g4, g5, i', t, m', u', rfl, gi, gs, g6, g7, g8, g9, rfl⟩ := outR_spec h'
  obtain ⟨s1, s2, s3, s4, s5, s6⟩ := side_parts h1 hs
  obtain ⟨t1, t2, t3, t4, t5, t6⟩ := side_parts h1 gs
  obtain ⟨c1, c2, c3, c4, c5⟩ := csane_parts h1
  obtain ⟨p1, p2, p3, p4, p5, p6, p7, p8⟩ := asane_parts h3
  rw [class_nat hs, class_nat gs]
  refine ⟨⟨i, s, rfl, hs, rfl, h7⟩, ?_⟩
  simp only [] at g8 ⊢
  have o1 := orI_pos p7 s1
  have hm : 0 ≤ m ∧ (s.r ≠ 1 → 0 < m) := by
    unfold roleIn at h7
    repeat' split at h7
    all_goals first | (injection h7 with h7; omega) | cases h7
  have o2 := orI_pos hm.1 c1
  unfold roleOut at g8
  repeat' split at g8
  all_goals first | (injection g8 with g8; omega) | cases g8
/-- EdgeRules: what is taken. -/
theorem rule_law {c : Cf} {k : Int} {x : Px} {p : Pa} {r : Rt} (h : inR c k x p = some r) : ∃ (i : Nat) (s : Sd) (u : Ru), k = i ∧ c.s[i]? = some s ∧ pickR s.i (vwI x p s.r) = some u ∧ u.a = 2 ∧ u.n = r.n := by
  obtain ⟨h1, h2, h3, i, s, m, u, rfl, hi, hs, h4, h5, h6, h7, h8, h9, rfl⟩ := inR_spec h
  exact ⟨i, s, u, rfl, hs, h8, h9, rfl⟩
/-- EdgeRules: rules that reject all. -/
def noneR : Ru := ⟨0, ⟨0, 0⟩, 0, 0, 0⟩
/-- EdgeLoops. -/
theorem loop_law {c : Cf} {k : Int} {x : Px} {p : Pa} (h : c.a ∈ p.s) : inR c k x p = none := by
  cases hh : inR c k x p with
  | none => rfl
  | some r =>
    obtain ⟨h1, h2, h3, i, s, m, u, rfl, hi, hs, h4, h5, h6, h7, h8, h9, rfl⟩ := inR_spec hh
    rw [List.contains_iff_mem.2 h] at h6
    cases h6
theorem loop_law2 {c : Cf} {k : Int} {x : Px} {r : Rt} {q : Pa} (h : outR c k x r = some q) : c.a ∈ q.s ∧ rtsane r = true := by
  obtain ⟨_, h2, _, _, _, _, _, n, n1, _, h3⟩ := tells_law h
  exact ⟨by rw [h3, List.mem_append]; exact .inl (List.mem_replicate.2 ⟨by omega, rfl⟩), h2⟩
end Go.Sim

/- What edge.In answers, as its callers read it. -/
namespace Go.Sim
open Go.RowKit Go.Proofs
set_option linter.unusedVariables false
set_option linter.unusedSimpArgs false
set_option linter.unusedSectionVars false
set_option maxRecDepth 100000

variable [Lv]
theorem inR_ok {c : Cf} {k : Int} {x : Px} {p : Pa} {r : Rt} (h : inR c k x p = some r) (hc : c.ok) (hk : ok64 k = true) (hp : p.ok) : r.ok := by
  obtain ⟨h1, h2, h3, i, s, m, u, rfl, hi, hs, h4, h5, h6, h7, h8, h9, rfl⟩ := inR_spec h
  have ho := hc.s.2 _ (List.mem_of_getElem? hs)
  obtain ⟨s1, s2, s3, s4, s5, s6⟩ := side_parts h1 hs
  obtain ⟨p1, p2, p3, p4, p5, p6, p7, p8⟩ := asane_parts h3
  have hm : ok64 m = true := by
    have := orI_pos p7 s1
    have := orI_le p8 s2
    refine ok64_iff.2 ?_
    unfold roleIn at h7
    repeat' split at h7
    all_goals first | (injection h7 with h7; omega) | cases h7
  exact ⟨(ho.i.2 u (pick_mem h8).1).n, ⟨hp.o, hp.l, hp.s, hp.h, hm⟩, hk⟩
def zRt : Rt := ⟨0, ⟨0, [], 0, 0⟩, 0⟩
def zPa : Pa := ⟨0, [], 0, 0⟩
theorem zRt_ok : zRt.ok := ⟨rfl, ⟨rfl, Nat.zero_le _, fun _ h => (by cases h), rfl, rfl⟩, rfl⟩
theorem zPa_ok : zPa.ok := ⟨rfl, Nat.zero_le _, fun _ h => (by cases h), rfl, rfl⟩
theorem optR_eq (o : Option Rt) : optR o = .tup [(o.getD zRt).t, .bool o.isSome] := by cases o <;> rfl
theorem inD_ok {c : Cf} {k : Int} {x : Px} {p : Pa} (hc : c.ok) (hk : ok64 k = true) (hp : p.ok) : ((inR c k x p).getD zRt).ok := by
  cases h : inR c k x p with
  | none => exact zRt_ok
  | some r => exact inR_ok h hc hk hp
theorem class_ok {c : Cf} {k : Int} (h : c.ok) : ok64 (classI c k) = true := by
  unfold classI
  split
  · split
    · rename_i t ht; exact (h.s.2 _ (List.mem_of_getElem? ht)).r
    · rfl
  · rfl
theorem rt_chk {r : Rt} : (r.t.cells.length == 6 && !r.t.isTup) = true := rfl
theorem pa_chk {p : Pa} : (p.t.cells.length == 4 && !p.t.isTup) = true := rfl
end Go.Sim

/- Equations of layer 18. -/
namespace Go.Sim
open Go.RowKit Go.Proofs
set_option linter.unusedVariables false
set_option linter.unusedSimpArgs false
set_option linter.unusedSectionVars false
set_option maxRecDepth 100000
variable [Lv]
theorem q55 (N : Nat) (xs : List T) (f : T) : callP env (N + 1) 55 [.sl 6 xs, f] = bif T.wfs [.sl 6 xs, f] then (loopL env N 55 2
  {
    tmps :=
      slots 19
        [(0, PV.t (T.sl 6 xs)), (1, PV.t f), (7, PV.t (i64 (↑(List.length xs) : Int))),
          (8, PV.t (i64 (0)))],
    heap := [] }) else .absurd := by kernel_rfl
theorem q25 (N : Nat) (xs : List T) (f : T) : callP env (N + 1) 25 [.sl 6 xs, f] = bif T.wfs [.sl 6 xs, f] then (Res.bind (callP env N 55 [T.sl 6 xs, f]) fun x => iT IntKind.i64 x fun a => Res.ok (T.bool (decide (a ≥ 0)))) else .absurd := by kernel_rfl
theorem q24 (N : Nat) (a n o h c : Int) (s : List T) : callP env (N + 1) 24 [.agg [i64 a, i64 n, i64 o, .sl 1 s, i64 h, i64 c]] = bif T.wfs [.agg [i64 a, i64 n, i64 o, .sl 1 s, i64 h, i64 c]] then (Res.bind
  (callP env N 21
    [T.agg
        (List.take 2
          (List.drop 0
            [i64 a, i64 n, i64 o, T.sl 1 s, i64 h,
              i64 c]))])
  fun x =>
  bT x fun b =>
    bif
        (!(b)) then
      Res.ok (T.bool true)
    else
      Res.bind
        (callP env N 22
          [T.agg
              (List.take 4
                (List.drop 2
                  [i64 a, i64 n, i64 o, T.sl 1 s, i64 h,
                    i64 c]))])
        fun x =>
        bT x fun b =>
          Res.ok
            (T.bool
              ((!(b))))) else .absurd := by kernel_rfl
theorem q26 (N : Nat) (xs : List T) (f : T) : callP env (N + 1) 26 [.sl 6 xs, f] = bif T.wfs [.sl 6 xs, f] then (loopL env N 26 2 { tmps := slots 24 [(0, PV.t (T.sl 6 xs)), (1, PV.t f), (5, PV.t (i64 (1)))], heap := [] }) else .absurd := by kernel_rfl
theorem q27 (N : Nat) (a n o h c a' n' o' h' c' : Int) (s s' : List T) : callP env (N + 1) 27 [.agg [i64 a, i64 n, i64 o, .sl 1 s, i64 h, i64 c], .agg [i64 a', i64 n', i64 o', .sl 1 s', i64 h', i64 c']] = bif T.wfs [.agg [i64 a, i64 n, i64 o, .sl 1 s, i64 h, i64 c], .agg [i64 a', i64 n', i64 o', .sl 1 s', i64 h', i64 c']] then (Res.bind
  (callP env N 31
    [T.agg
        (List.take 2
          (List.drop 0
            [i64 a, i64 n, i64 o, T.sl 1 s, i64 h,
              i64 c])),
      T.agg
        (List.take 2
          (List.drop 0
            [i64 a', i64 n', i64 o', T.sl 1 s', i64 h',
              i64 c']))])
  fun x => Res.ok x) else .absurd := by kernel_rfl
theorem q8 (N : Nat) (xs : List T) : callP env (N + 1) 8 [.sl 6 xs] = bif T.wfs [.sl 6 xs] then (Res.bind (callP env N 25 [T.sl 6 xs, T.fn 24 [] []]) fun x =>
  bT x fun b =>
    bif
        (!(b)) then
      Res.bind (callP env N 26 [T.sl 6 xs, T.fn 27 [] []]) fun x => Res.ok x
    else Res.ok (T.bool false)) else .absurd := by kernel_rfl
theorem q17 (N : Nat) (xs : List T) : callP env (N + 1) 17 [.sl 6 xs] = bif T.wfs [.sl 6 xs] then (Res.bind (callP env N 8 [T.sl 6 xs]) fun x => bT x fun v => bif v then Res.ok (T.sl 6 xs) else Res.ok (T.sl 6 [])) else .absurd := by kernel_rfl
theorem q31 (N : Nat) (a n a' n' : Int) : callP env (N + 1) 31 [.agg [i64 a, i64 n], .agg [i64 a', i64 n']] = bif T.wfs [.agg [i64 a, i64 n], .agg [i64 a', i64 n']] then (Res.bind (callP env N 60 [i64 a, i64 a']) fun x =>
  Res.bind (callP env N 60 [i64 n, i64 n']) fun x_1 =>
    chkAll (T.okE 1) [x, x_1] (Res.bind (callP env N 59 [T.sl 1 [x, x_1]]) fun x => chk (T.plain x) (Res.ok x))) else .absurd := by kernel_rfl
theorem q59 (N : Nat) (xs : List T) : callP env (N + 1) 59 [.sl 1 xs] = bif T.wfs [.sl 1 xs] then (loopL env N 59 3
  {
    tmps :=
      slots 18
        [(3, PV.t (i64 (0))), (6, PV.t (T.sl 1 xs)),
          (7, PV.t (i64 (↑(List.length xs) : Int))), (8, PV.t (i64 (0)))],
    heap := [] }) else .absurd := by kernel_rfl
theorem q48 (N : Nat) (xs : List T) (a n : Int) (f : T) : callP env (N + 1) 48 [.sl 6 xs, .agg [i64 a, i64 n], f] = bif T.wfs [.sl 6 xs, .agg [i64 a, i64 n], f] then (loopL env N 48 3
  {
    tmps :=
      slots 49
        [(0, PV.t (T.sl 6 xs)), (2, PV.t f), (4, PV.ptr 0 0), (8, PV.t (i64 (↑(List.length xs) : Int))),
          (9, PV.t (i64 (0))), (10, PV.t (i64 (↑(List.length xs) : Int)))],
    heap := [AObj.box 28 2 (PV.t (T.agg [i64 a, i64 n]))] }) else .absurd := by kernel_rfl
theorem q49 (N : Nat) (a n o h c : Int) (s : List T) (a' n' : Int) : callP env (N + 1) 49 [.agg [i64 a, i64 n, i64 o, .sl 1 s, i64 h, i64 c], .agg [i64 a', i64 n']] = bif T.wfs [.agg [i64 a, i64 n, i64 o, .sl 1 s, i64 h, i64 c], .agg [i64 a', i64 n']] then (Res.bind
  (callP env N 31
    [T.agg
        (List.take 2
          (List.drop 0
            [i64 a, i64 n, i64 o, T.sl 1 s, i64 h,
              i64 c])),
      T.agg [i64 a', i64 n']])
  fun x => Res.ok x) else .absurd := by kernel_rfl
theorem q18 (N : Nat) (xs : List T) (a n : Int) : callP env (N + 1) 18 [.sl 6 xs, .agg [i64 a, i64 n]] = bif T.wfs [.sl 6 xs, .agg [i64 a, i64 n]] then (Res.bind (callP env N 48 [T.sl 6 xs, T.agg [i64 a, i64 n], T.fn 49 [] []]) fun x =>
  compT x 0 fun y => compT x 1 fun y_1 => Res.ok (T.tup [y, y_1])) else .absurd := by kernel_rfl
theorem q6 (N : Nat) (xs : List T) (a n : Int) : callP env (N + 1) 6 [.sl 6 xs, .agg [i64 a, i64 n]] = bif T.wfs [.sl 6 xs, .agg [i64 a, i64 n]] then (Res.bind (callP env N 17 [T.sl 6 xs]) fun x =>
  Res.bind (callP env N 18 [x, T.agg [i64 a, i64 n]]) fun x_1 =>
    compT x_1 0 fun y =>
      compT x_1 1 fun y_1 =>
        bT y_1 fun b =>
          bif
              (!(b)) then
            Res.ok
              (T.tup
                [T.agg
                    [i64 (0), T.sl 1 [], i64 (0),
                      i64 (0)],
                  T.bool false])
          else
            anyT y fun i =>
              slT 6 x fun xs =>
                atT xs i fun e =>
                  chk
                    (match List.length (T.cells (T.partD e 2 4 true)) == 4 with
                    | false => false
                    | true => true)
                    (Res.ok (T.tup [T.partD e 2 4 true, T.bool true]))) else .absurd := by kernel_rfl
theorem q7 (N : Nat) (xs g m : List T) (o h c k : Int) (s : List T) : callP env (N + 1) 7 [.sl 6 xs, .agg [.sl 2 g, i64 o, .sl 1 s, i64 h, i64 c, .sl 2 m], i64 k] = bif T.wfs [.sl 6 xs, .agg [.sl 2 g, i64 o, .sl 1 s, i64 h, i64 c, .sl 2 m], i64 k] then (Res.bind (callP env N 17 [T.sl 6 xs]) fun x =>
  Res.bind (callP env N 19 [x]) fun x =>
    slT 6 x fun xs =>
      loopL env N 7 3
        {
          tmps :=
            slots 82
              [(0, PV.own 0), (2, PV.t (i64 k)), (4, PV.ptr 1 0), (21, PV.t (T.sl 2 g)),
                (22, PV.t (i64 (↑(List.length g) : Int))), (23, PV.t (i64 (0)))],
          heap :=
            [AObj.row 59 6 xs,
              AObj.box 40 6
                (PV.t
                  (T.agg
                    [T.sl 2 g, i64 o, T.sl 1 s, i64 h, i64 c, T.sl 2 m]))] }) else .absurd := by kernel_rfl
theorem q47 (N : Nat) (xs : List T) : callP env (N + 1) 47 [.sl 6 xs] = bif T.wfs [.sl 6 xs] then (loopL env N 47 2 { tmps := slots 21 [(0, PV.t (T.sl 6 xs)), (3, PV.t (i64 (0)))], heap := [] }) else .absurd := by kernel_rfl
theorem b55_2 (N : Nat) (xs : List T) (f : T) (i : Nat) : bodyL env N 55 0 2 ⟨slots 19 [(0, .t (.sl 6 xs)), (1, .t f), (7, .t (i64 (xs.length : Int))), (8, .t (i64 (i : Int)))], []⟩ = bif decide ((↑i : Int) < (↑(List.length xs) : Int)) then
  atT xs (↑i : Int) fun e =>
    apK env (recOf env N) f [e] fun r =>
      bT r fun v =>
        bif v then Res.ok (Ex.ret, { tmps := slots 19 [(4, PV.t (i64 (↑i : Int)))], heap := [] })
        else
          Res.ok
            (Ex.norm,
              {
                tmps :=
                  slots 19
                    [(0, PV.t (T.sl 6 xs)), (1, PV.t f), (7, PV.t (i64 (↑(List.length xs) : Int))),
                      (8, PV.t (i64 (IntKind.wrap IntKind.i64 ((↑i : Int) + 1))))],
                heap := [] })
else Res.ok (Ex.exit 0, { tmps := slots 19 [], heap := [] }) := by kernel_rfl
theorem t55_2_exit0 (N : Nat)  : tailL env N 55 0 2 (outK env 55) (.exit 0) ⟨slots 19 [], []⟩ = Res.ok (i64 (-1)) := by kernel_rfl
theorem t55_2_ret (N : Nat) (k : Int) : tailL env N 55 0 2 (outK env 55) (.ret) ⟨slots 19 [(4, .t (i64 k))], []⟩ = Res.ok (i64 k) := by kernel_rfl
theorem b26_2 (N : Nat) (xs : List T) (f : T) (i : Nat) : bodyL env N 26 0 2 ⟨slots 24 [(0, .t (.sl 6 xs)), (1, .t f), (5, .t (i64 (i : Int)))], []⟩ = bif decide ((↑i : Int) < (↑(List.length xs) : Int)) then
  atT xs (IntKind.wrap IntKind.i64 ((↑i : Int) - 1)) fun e =>
    atT xs (↑i : Int) fun e_1 =>
      apK env (recOf env N) f [e, e_1] fun r =>
        iT IntKind.i64 r fun a =>
          bif decide (a ≥ 0) then Res.ok (Ex.ret, { tmps := slots 24 [(4, PV.t (T.bool false))], heap := [] })
          else
            Res.ok
              (Ex.norm,
                {
                  tmps :=
                    slots 24
                      [(0, PV.t (T.sl 6 xs)), (1, PV.t f),
                        (5, PV.t (i64 (IntKind.wrap IntKind.i64 ((↑i : Int) + 1))))],
                  heap := [] })
else Res.ok (Ex.exit 0, { tmps := slots 24 [], heap := [] }) := by kernel_rfl
theorem t26_2_exit0 (N : Nat)  : tailL env N 26 0 2 (outK env 26) (.exit 0) ⟨slots 24 [], []⟩ = Res.ok (T.bool true) := by kernel_rfl
theorem t26_2_ret (N : Nat) (b : Bool) : tailL env N 26 0 2 (outK env 26) (.ret) ⟨slots 24 [(4, .t (.bool b))], []⟩ = Res.ok (T.bool b) := by kernel_rfl
theorem b59_3 (N : Nat) (xs : List T) (i : Nat) : bodyL env N 59 0 3 ⟨slots 18 [(3, .t (i64 0)), (6, .t (.sl 1 xs)), (7, .t (i64 (xs.length : Int))), (8, .t (i64 (i : Int)))], []⟩ = bif decide ((↑i : Int) < (↑(List.length xs) : Int)) then
  atT xs (↑i : Int) fun e =>
    iT IntKind.i64 e fun a =>
      bif a != 0 then Res.ok (Ex.ret, { tmps := slots 18 [(2, PV.t e)], heap := [] })
      else
        Res.ok
          (Ex.norm,
            {
              tmps :=
                slots 18
                  [(3, PV.t (i64 (0))), (6, PV.t (T.sl 1 xs)),
                    (7, PV.t (i64 (↑(List.length xs) : Int))),
                    (8, PV.t (i64 (IntKind.wrap IntKind.i64 ((↑i : Int) + 1))))],
              heap := [] })
else Res.ok (Ex.exit 0, { tmps := slots 18 [(3, PV.t (i64 (0)))], heap := [] }) := by kernel_rfl
theorem t59_3_exit0 (N : Nat) (k : Int) : tailL env N 59 0 3 (outK env 59) (.exit 0) ⟨slots 18 [(3, .t (i64 k))], []⟩ = Res.ok (i64 k) := by kernel_rfl
theorem t59_3_ret (N : Nat) (k : Int) : tailL env N 59 0 3 (outK env 59) (.ret) ⟨slots 18 [(2, .t (i64 k))], []⟩ = Res.ok (i64 k) := by kernel_rfl
theorem b48_3 (N : Nat) (xs : List T) (a n : Int) (f : T) (i j : Nat) : bodyL env N 48 0 3 ⟨slots 49 [(0, .t (.sl 6 xs)), (2, .t f), (4, .ptr 0 0), (8, .t (i64 (xs.length : Int))), (9, .t (i64 (i : Int))), (10, .t (i64 (j : Int)))], [.box 28 2 (.t (.agg [i64 a, i64 n]))]⟩ = bif decide ((↑i : Int) < (↑j : Int)) then
  atT xs
    (IntKind.wrap IntKind.i64
      (Int.fdiv (IntKind.wrap IntKind.u64 (IntKind.wrap IntKind.i64 ((↑i : Int) + (↑j : Int)))) (2)))
    fun e =>
    apK env (recOf env N) f [e, T.agg [i64 a, i64 n]] fun r =>
      iT IntKind.i64 r fun a_1 =>
        bif decide (a_1 < 0) then
          Res.ok
            (Ex.norm,
              {
                tmps :=
                  slots 49
                    [(0, PV.t (T.sl 6 xs)), (2, PV.t f), (4, PV.ptr 0 0),
                      (8, PV.t (i64 (↑(List.length xs) : Int))),
                      (9,
                        PV.t
                          (i64
                            (IntKind.wrap IntKind.i64
                              (IntKind.wrap IntKind.i64
                                  (Int.fdiv
                                    (IntKind.wrap IntKind.u64 (IntKind.wrap IntKind.i64 ((↑i : Int) + (↑j : Int))))
                                    (2)) +
                                1)))),
                      (10, PV.t (i64 (↑j : Int)))],
                heap := [AObj.box 28 2 (PV.t (T.agg [i64 a, i64 n]))] })
        else
          Res.ok
            (Ex.norm,
              {
                tmps :=
                  slots 49
                    [(0, PV.t (T.sl 6 xs)), (2, PV.t f), (4, PV.ptr 0 0),
                      (8, PV.t (i64 (↑(List.length xs) : Int))), (9, PV.t (i64 (↑i : Int))),
                      (10,
                        PV.t
                          (i64
                            (IntKind.wrap IntKind.i64
                              (Int.fdiv (IntKind.wrap IntKind.u64 (IntKind.wrap IntKind.i64 ((↑i : Int) + (↑j : Int))))
                                (2)))))],
                heap := [AObj.box 28 2 (PV.t (T.agg [i64 a, i64 n]))] })
else
  Res.ok
    (Ex.exit 0,
      {
        tmps :=
          slots 49
            [(0, PV.t (T.sl 6 xs)), (2, PV.t f), (4, PV.ptr 0 0),
              (8, PV.t (i64 (↑(List.length xs) : Int))), (9, PV.t (i64 (↑i : Int)))],
        heap := [AObj.box 28 2 (PV.t (T.agg [i64 a, i64 n]))] }) := by kernel_rfl
theorem t48_3_exit0 (N : Nat) (xs : List T) (a n : Int) (f : T) (i : Nat) : tailL env N 48 0 3 (outK env 48) (.exit 0) ⟨slots 49 [(0, .t (.sl 6 xs)), (2, .t f), (4, .ptr 0 0), (8, .t (i64 (xs.length : Int))), (9, .t (i64 (i : Int)))], [.box 28 2 (.t (.agg [i64 a, i64 n]))]⟩ = bif decide ((↑i : Int) < (↑(List.length xs) : Int)) then
  atT xs (↑i : Int) fun e =>
    apK env (recOf env N) f [e, T.agg [i64 a, i64 n]] fun r =>
      iT IntKind.i64 r fun a => Res.ok (T.tup [i64 (↑i : Int), T.bool (a == 0)])
else Res.ok (T.tup [i64 (↑i : Int), T.bool false]) := by kernel_rfl
theorem t7_3_exit0 (N : Nat) (xs g m : List T) (o h c k : Int) (s : List T) : tailL env N 7 0 3 (outK env 7) (.exit 0) ⟨slots 82 [(0, .own 0), (2, .t (i64 k)), (4, .ptr 1 0)], [.row 59 6 xs, .box 40 6 (.t (.agg [.sl 2 g, i64 o, .sl 1 s, i64 h, i64 c, .sl 2 m]))]⟩ = loopL env N 7 10
  {
    tmps :=
      slots 82
        [(0, PV.own 0), (2, PV.t (i64 k)), (4, PV.ptr 1 0), (41, PV.t (T.sl 2 m)),
          (42, PV.t (i64 (↑(List.length m) : Int))), (43, PV.t (i64 (0)))],
    heap :=
      [AObj.row 59 6 xs,
        AObj.box 40 6
          (PV.t
            (T.agg [T.sl 2 g, i64 o, T.sl 1 s, i64 h, i64 c, T.sl 2 m]))] } := by kernel_rfl
theorem t7_10_exit2 (N : Nat) (xs : List T) (k : Int) : tailL env N 7 0 10 (outK env 7) (.exit 2) ⟨slots 82 [(0, .own 0), (2, .t (i64 k))], [.row 59 6 xs]⟩ = bif decide ((↑(List.length xs) : Int) > k) then Res.ok (T.tup [T.sl 6 [], T.bool false])
else Res.ok (T.tup [T.sl 6 xs, T.bool true]) := by kernel_rfl
theorem b47_2 (N : Nat) (xs : List T) (i : Nat) : bodyL env N 47 0 2 ⟨slots 21 [(0, .t (.sl 6 xs)), (3, .t (i64 (i : Int)))], []⟩ = bif decide ((↑i : Int) < (↑(List.length xs) : Int)) then
  atT xs (↑i : Int) fun e =>
    sllT (T.partD e 3 1 false) fun n =>
      bif decide (n > 100) then Res.ok (Ex.ret, { tmps := slots 21 [(2, PV.t (T.bool false))], heap := [] })
      else
        Res.ok
          (Ex.norm,
            {
              tmps :=
                slots 21
                  [(0, PV.t (T.sl 6 xs)),
                    (3, PV.t (i64 (IntKind.wrap IntKind.i64 ((↑i : Int) + 1))))],
              heap := [] })
else Res.ok (Ex.exit 0, { tmps := slots 21 [(0, PV.t (T.sl 6 xs))], heap := [] }) := by kernel_rfl
theorem t47_2_exit0 (N : Nat) (xs : List T) : tailL env N 47 0 2 (outK env 47) (.exit 0) ⟨slots 21 [(0, .t (.sl 6 xs))], []⟩ = Res.ok (T.bool (decide ((↑(List.length xs) : Int) ≤ 40))) := by kernel_rfl
theorem t47_2_ret (N : Nat) (b : Bool) : tailL env N 47 0 2 (outK env 47) (.ret) ⟨slots 21 [(2, .t (.bool b))], []⟩ = Res.ok (T.bool b) := by kernel_rfl
end Go.Sim

/- What calls come to: printed by wip/tools/eq2.py: layer 14 Out. -/
namespace Go.Sim
open Go.RowKit Go.Proofs
set_option linter.unusedVariables false
set_option maxRecDepth 100000
variable [Lv]

def sRp (l : List T) (j : Int) : St := ⟨slots 48 [(7, .own 0), (8, .t (i64 j))], [.row 3 1 l]⟩
def sCc (l : List (List Int)) (n i : Int) : St := ⟨slots 36 [(0, .t (.sl 1 (l.map fun a => .sl 1 (ints a)))), (3, .t (i64 n)), (9, .t (.sl 1 (l.map fun a => .sl 1 (ints a)))), (10, .t (i64 l.length)), (11, .t (i64 i))], []⟩
def sCc2 (l : List (List Int)) (r : List Int) (i : Int) : St := ⟨slots 36 [(6, .own 0), (25, .t (.sl 1 (l.map fun a => .sl 1 (ints a)))), (26, .t (i64 l.length)), (27, .t (i64 i))], [.row 3 1 (ints r)]⟩
def sCm (l m : List Int) (i : Int) : St := ⟨slots 36 [(0, .t (.sl 1 (ints l))), (1, .t (.sl 1 (ints m))), (9, .t (.sl 1 (ints l))), (10, .t (i64 l.length)), (11, .t (i64 i))], []⟩
theorem q61 (N : Nat) (l m : List Int) : callP env (N + 1) 61 [.sl 1 (ints l), .sl 1 (ints m)] = W [.sl 1 (ints l), .sl 1 (ints m)] (loopL env N 61 2 { tmps := slots 36 [(0, PV.t (T.sl 1 (ints l))), (1, PV.t (T.sl 1 (ints m))), (9, PV.t (T.sl 1 (ints l))), (10, PV.t (i64 (↑(ints l).length : Int))), (11, PV.t (i64 0))], heap := [] }) := by kernel_rfl
theorem b61_2 (N : Nat) (l m : List Int) (i : Int) : bodyL env N 61 0 2 (sCm l m i) = bif decide (i < (↑l.length : Int)) then atT (ints l) i fun e => bif decide (i ≥ (↑(ints m).length : Int)) then Res.ok (Ex.ret, { tmps := slots 36 [(4, PV.t (i64 1))], heap := [] }) else atT (ints m) i fun e_1 => cl N 60 [e, e_1] fun x => iT IntKind.i64 x fun a => bif a != 0 then Res.ok (Ex.ret, { tmps := slots 36 [(4, PV.t x)], heap := [] }) else Res.ok (Ex.norm, sCm l m (IntKind.i64.wrap (i + 1))) else Res.ok (Ex.exit 0, { tmps := slots 36 [(0, PV.t (T.sl 1 (ints l))), (1, PV.t (T.sl 1 (ints m)))], heap := [] }) := by kernel_rfl
theorem t61_2_ret (N : Nat) (n : Int) : tailL env N 61 0 2 (outK env 61) (.ret) (⟨slots 36 [(4, .t (i64 n))], []⟩) = rI n := by kernel_rfl
theorem t61_2_exit0 (N : Nat) (l m : List Int) : tailL env N 61 0 2 (outK env 61) (.exit 0) (⟨slots 36 [(0, .t (.sl 1 (ints l))), (1, .t (.sl 1 (ints m)))], []⟩) = bif decide ((↑(ints l).length : Int) < (↑(ints m).length : Int)) then rI (-1) else rI 0 := by kernel_rfl
theorem q60 (N : Nat) (a b : Int) : callP env (N + 1) 60 [i64 a, i64 b] = W [i64 a, i64 b] (cl N 88 [i64 a] fun x => cl N 88 [i64 b] fun x_1 => bT x fun v => bif v then bT x_1 fun v => bif v then rI 0 else rI (-1) else bT x_1 fun v => bif v then rI 1 else bif decide (a < b) then rI (-1) else bif decide (a > b) then rI 1 else rI 0) := by kernel_rfl
theorem q88 (N : Nat) (a : Int) : callP env (N + 1) 88 [i64 a] = W [i64 a] (rB (a != a)) := by kernel_rfl
theorem q12 (N : Nat) (a b : Rt) : callP env (N + 1) 12 [a.t, b.t] = W [a.t, b.t] (chkAll (T.okE 1) [T.fn 34 [T.agg [i64 a.n, i64 a.p.o, T.sl 1 (ints a.p.s), i64 a.p.h, i64 a.p.c, i64 a.f, i64 b.n, i64 b.p.o, T.sl 1 (ints b.p.s), i64 b.p.h, i64 b.p.c, i64 b.f]] [], T.fn 35 [T.agg [i64 a.n, i64 a.p.o, T.sl 1 (ints a.p.s), i64 a.p.h, i64 a.p.c, i64 a.f, i64 b.n, i64 b.p.o, T.sl 1 (ints b.p.s), i64 b.p.h, i64 b.p.c, i64 b.f]] [], T.fn 36 [T.agg [i64 a.n, i64 a.p.o, T.sl 1 (ints a.p.s), i64 a.p.h, i64 a.p.c, i64 a.f, i64 b.n, i64 b.p.o, T.sl 1 (ints b.p.s), i64 b.p.h, i64 b.p.c, i64 b.f]] [], T.fn 37 [T.agg [i64 a.n, i64 a.p.o, T.sl 1 (ints a.p.s), i64 a.p.h, i64 a.p.c, i64 a.f, i64 b.n, i64 b.p.o, T.sl 1 (ints b.p.s), i64 b.p.h, i64 b.p.c, i64 b.f]] [], T.fn 38 [T.agg [i64 a.n, i64 a.p.o, T.sl 1 (ints a.p.s), i64 a.p.h, i64 a.p.c, i64 a.f, i64 b.n, i64 b.p.o, T.sl 1 (ints b.p.s), i64 b.p.h, i64 b.p.c, i64 b.f]] [], T.fn 39 [T.agg [i64 a.n, i64 a.p.o, T.sl 1 (ints a.p.s), i64 a.p.h, i64 a.p.c, i64 a.f, i64 b.n, i64 b.p.o, T.sl 1 (ints b.p.s), i64 b.p.h, i64 b.p.c, i64 b.f]] [], T.fn 40 [T.agg [i64 a.n, i64 a.p.o, T.sl 1 (ints a.p.s), i64 a.p.h, i64 a.p.c, i64 a.f, i64 b.n, i64 b.p.o, T.sl 1 (ints b.p.s), i64 b.p.h, i64 b.p.c, i64 b.f]] []] (loopL env N 12 3 { tmps := slots 38 [(26, PV.own 0), (27, PV.t (i64 (↑7 : Int))), (28, PV.t (i64 0))], heap := [AObj.row 85 1 [T.fn 34 [T.agg [i64 a.n, i64 a.p.o, T.sl 1 (ints a.p.s), i64 a.p.h, i64 a.p.c, i64 a.f, i64 b.n, i64 b.p.o, T.sl 1 (ints b.p.s), i64 b.p.h, i64 b.p.c, i64 b.f]] [], T.fn 35 [T.agg [i64 a.n, i64 a.p.o, T.sl 1 (ints a.p.s), i64 a.p.h, i64 a.p.c, i64 a.f, i64 b.n, i64 b.p.o, T.sl 1 (ints b.p.s), i64 b.p.h, i64 b.p.c, i64 b.f]] [], T.fn 36 [T.agg [i64 a.n, i64 a.p.o, T.sl 1 (ints a.p.s), i64 a.p.h, i64 a.p.c, i64 a.f, i64 b.n, i64 b.p.o, T.sl 1 (ints b.p.s), i64 b.p.h, i64 b.p.c, i64 b.f]] [], T.fn 37 [T.agg [i64 a.n, i64 a.p.o, T.sl 1 (ints a.p.s), i64 a.p.h, i64 a.p.c, i64 a.f, i64 b.n, i64 b.p.o, T.sl 1 (ints b.p.s), i64 b.p.h, i64 b.p.c, i64 b.f]] [], T.fn 38 [T.agg [i64 a.n, i64 a.p.o, T.sl 1 (ints a.p.s), i64 a.p.h, i64 a.p.c, i64 a.f, i64 b.n, i64 b.p.o, T.sl 1 (ints b.p.s), i64 b.p.h, i64 b.p.c, i64 b.f]] [], T.fn 39 [T.agg [i64 a.n, i64 a.p.o, T.sl 1 (ints a.p.s), i64 a.p.h, i64 a.p.c, i64 a.f, i64 b.n, i64 b.p.o, T.sl 1 (ints b.p.s), i64 b.p.h, i64 b.p.c, i64 b.f]] [], T.fn 40 [T.agg [i64 a.n, i64 a.p.o, T.sl 1 (ints a.p.s), i64 a.p.h, i64 a.p.c, i64 a.f, i64 b.n, i64 b.p.o, T.sl 1 (ints b.p.s), i64 b.p.h, i64 b.p.c, i64 b.f]] []]] })) := by kernel_rfl
end Go.Sim

/- What calls come to: printed by wip/tools/eq2.py: route.Compare. -/
namespace Go.Sim
open Go.RowKit Go.Proofs
set_option linter.unusedVariables false
set_option maxRecDepth 100000
variable [Lv]

def twT (a b : Rt) : T := T.agg [i64 a.n, i64 a.p.o, T.sl 1 (ints a.p.s), i64 a.p.h, i64 a.p.c, i64 a.f, i64 b.n, i64 b.p.o, T.sl 1 (ints b.p.s), i64 b.p.h, i64 b.p.c, i64 b.f]
def rowC (a b : Rt) : List T := [T.fn 34 [twT a b] [], T.fn 35 [twT a b] [], T.fn 36 [twT a b] [], T.fn 37 [twT a b] [], T.fn 38 [twT a b] [], T.fn 39 [twT a b] [], T.fn 40 [twT a b] []]
def sRc0 (a b : Rt) : St := ⟨slots 38 [(26, .own 0), (27, .t (i64 7)), (28, .t (i64 0))], [.row 85 1 (rowC a b)]⟩
def sRc1 (a b : Rt) : St := ⟨slots 38 [(26, .own 0), (27, .t (i64 7)), (28, .t (i64 1))], [.row 85 1 (rowC a b)]⟩
def sRc2 (a b : Rt) : St := ⟨slots 38 [(26, .own 0), (27, .t (i64 7)), (28, .t (i64 2))], [.row 85 1 (rowC a b)]⟩
def sRc3 (a b : Rt) : St := ⟨slots 38 [(26, .own 0), (27, .t (i64 7)), (28, .t (i64 3))], [.row 85 1 (rowC a b)]⟩
def sRc4 (a b : Rt) : St := ⟨slots 38 [(26, .own 0), (27, .t (i64 7)), (28, .t (i64 4))], [.row 85 1 (rowC a b)]⟩
def sRc5 (a b : Rt) : St := ⟨slots 38 [(26, .own 0), (27, .t (i64 7)), (28, .t (i64 5))], [.row 85 1 (rowC a b)]⟩
def sRc6 (a b : Rt) : St := ⟨slots 38 [(26, .own 0), (27, .t (i64 7)), (28, .t (i64 6))], [.row 85 1 (rowC a b)]⟩
def sRc7 (a b : Rt) : St := ⟨slots 38 [(26, .own 0), (27, .t (i64 7)), (28, .t (i64 7))], [.row 85 1 (rowC a b)]⟩
theorem b12_3 (N : Nat) (a b : Rt) : bodyL env N 12 0 3 (sRc0 a b) = cl N 34 [T.agg [i64 a.n, i64 a.p.o, T.sl 1 (ints a.p.s), i64 a.p.h, i64 a.p.c, i64 a.f, i64 b.n, i64 b.p.o, T.sl 1 (ints b.p.s), i64 b.p.h, i64 b.p.c, i64 b.f]] fun r => iT IntKind.i64 r fun a_1 => bif a_1 != 0 then Res.ok (Ex.ret, { tmps := slots 38 [(4, PV.t r)], heap := [] }) else Res.ok (Ex.norm, { tmps := slots 38 [(26, PV.own 0), (27, PV.t (i64 7)), (28, PV.t (i64 1))], heap := [AObj.row 85 1 [T.fn 34 [T.agg [i64 a.n, i64 a.p.o, T.sl 1 (ints a.p.s), i64 a.p.h, i64 a.p.c, i64 a.f, i64 b.n, i64 b.p.o, T.sl 1 (ints b.p.s), i64 b.p.h, i64 b.p.c, i64 b.f]] [], T.fn 35 [T.agg [i64 a.n, i64 a.p.o, T.sl 1 (ints a.p.s), i64 a.p.h, i64 a.p.c, i64 a.f, i64 b.n, i64 b.p.o, T.sl 1 (ints b.p.s), i64 b.p.h, i64 b.p.c, i64 b.f]] [], T.fn 36 [T.agg [i64 a.n, i64 a.p.o, T.sl 1 (ints a.p.s), i64 a.p.h, i64 a.p.c, i64 a.f, i64 b.n, i64 b.p.o, T.sl 1 (ints b.p.s), i64 b.p.h, i64 b.p.c, i64 b.f]] [], T.fn 37 [T.agg [i64 a.n, i64 a.p.o, T.sl 1 (ints a.p.s), i64 a.p.h, i64 a.p.c, i64 a.f, i64 b.n, i64 b.p.o, T.sl 1 (ints b.p.s), i64 b.p.h, i64 b.p.c, i64 b.f]] [], T.fn 38 [T.agg [i64 a.n, i64 a.p.o, T.sl 1 (ints a.p.s), i64 a.p.h, i64 a.p.c, i64 a.f, i64 b.n, i64 b.p.o, T.sl 1 (ints b.p.s), i64 b.p.h, i64 b.p.c, i64 b.f]] [], T.fn 39 [T.agg [i64 a.n, i64 a.p.o, T.sl 1 (ints a.p.s), i64 a.p.h, i64 a.p.c, i64 a.f, i64 b.n, i64 b.p.o, T.sl 1 (ints b.p.s), i64 b.p.h, i64 b.p.c, i64 b.f]] [], T.fn 40 [T.agg [i64 a.n, i64 a.p.o, T.sl 1 (ints a.p.s), i64 a.p.h, i64 a.p.c, i64 a.f, i64 b.n, i64 b.p.o, T.sl 1 (ints b.p.s), i64 b.p.h, i64 b.p.c, i64 b.f]] []]] }) := by kernel_rfl
theorem b12_3_2 (N : Nat) (a b : Rt) : bodyL env N 12 0 3 (sRc1 a b) = cl N 35 [T.agg [i64 a.n, i64 a.p.o, T.sl 1 (ints a.p.s), i64 a.p.h, i64 a.p.c, i64 a.f, i64 b.n, i64 b.p.o, T.sl 1 (ints b.p.s), i64 b.p.h, i64 b.p.c, i64 b.f]] fun r => iT IntKind.i64 r fun a_1 => bif a_1 != 0 then Res.ok (Ex.ret, { tmps := slots 38 [(4, PV.t r)], heap := [] }) else Res.ok (Ex.norm, { tmps := slots 38 [(26, PV.own 0), (27, PV.t (i64 7)), (28, PV.t (i64 2))], heap := [AObj.row 85 1 [T.fn 34 [T.agg [i64 a.n, i64 a.p.o, T.sl 1 (ints a.p.s), i64 a.p.h, i64 a.p.c, i64 a.f, i64 b.n, i64 b.p.o, T.sl 1 (ints b.p.s), i64 b.p.h, i64 b.p.c, i64 b.f]] [], T.fn 35 [T.agg [i64 a.n, i64 a.p.o, T.sl 1 (ints a.p.s), i64 a.p.h, i64 a.p.c, i64 a.f, i64 b.n, i64 b.p.o, T.sl 1 (ints b.p.s), i64 b.p.h, i64 b.p.c, i64 b.f]] [], T.fn 36 [T.agg [i64 a.n, i64 a.p.o, T.sl 1 (ints a.p.s), i64 a.p.h, i64 a.p.c, i64 a.f, i64 b.n, i64 b.p.o, T.sl 1 (ints b.p.s), i64 b.p.h, i64 b.p.c, i64 b.f]] [], T.fn 37 [T.agg [i64 a.n, i64 a.p.o, T.sl 1 (ints a.p.s), i64 a.p.h, i64 a.p.c, i64 a.f, i64 b.n, i64 b.p.o, T.sl 1 (ints b.p.s), i64 b.p.h, i64 b.p.c, i64 b.f]] [], T.fn 38 [T.agg [i64 a.n, i64 a.p.o, T.sl 1 (ints a.p.s), i64 a.p.h, i64 a.p.c, i64 a.f, i64 b.n, i64 b.p.o, T.sl 1 (ints b.p.s), i64 b.p.h, i64 b.p.c, i64 b.f]] [], T.fn 39 [T.agg [i64 a.n, i64 a.p.o, T.sl 1 (ints a.p.s), i64 a.p.h, i64 a.p.c, i64 a.f, i64 b.n, i64 b.p.o, T.sl 1 (ints b.p.s), i64 b.p.h, i64 b.p.c, i64 b.f]] [], T.fn 40 [T.agg [i64 a.n, i64 a.p.o, T.sl 1 (ints a.p.s), i64 a.p.h, i64 a.p.c, i64 a.f, i64 b.n, i64 b.p.o, T.sl 1 (ints b.p.s), i64 b.p.h, i64 b.p.c, i64 b.f]] []]] }) := by kernel_rfl
theorem b12_3_3 (N : Nat) (a b : Rt) : bodyL env N 12 0 3 (sRc2 a b) = cl N 36 [T.agg [i64 a.n, i64 a.p.o, T.sl 1 (ints a.p.s), i64 a.p.h, i64 a.p.c, i64 a.f, i64 b.n, i64 b.p.o, T.sl 1 (ints b.p.s), i64 b.p.h, i64 b.p.c, i64 b.f]] fun r => iT IntKind.i64 r fun a_1 => bif a_1 != 0 then Res.ok (Ex.ret, { tmps := slots 38 [(4, PV.t r)], heap := [] }) else Res.ok (Ex.norm, { tmps := slots 38 [(26, PV.own 0), (27, PV.t (i64 7)), (28, PV.t (i64 3))], heap := [AObj.row 85 1 [T.fn 34 [T.agg [i64 a.n, i64 a.p.o, T.sl 1 (ints a.p.s), i64 a.p.h, i64 a.p.c, i64 a.f, i64 b.n, i64 b.p.o, T.sl 1 (ints b.p.s), i64 b.p.h, i64 b.p.c, i64 b.f]] [], T.fn 35 [T.agg [i64 a.n, i64 a.p.o, T.sl 1 (ints a.p.s), i64 a.p.h, i64 a.p.c, i64 a.f, i64 b.n, i64 b.p.o, T.sl 1 (ints b.p.s), i64 b.p.h, i64 b.p.c, i64 b.f]] [], T.fn 36 [T.agg [i64 a.n, i64 a.p.o, T.sl 1 (ints a.p.s), i64 a.p.h, i64 a.p.c, i64 a.f, i64 b.n, i64 b.p.o, T.sl 1 (ints b.p.s), i64 b.p.h, i64 b.p.c, i64 b.f]] [], T.fn 37 [T.agg [i64 a.n, i64 a.p.o, T.sl 1 (ints a.p.s), i64 a.p.h, i64 a.p.c, i64 a.f, i64 b.n, i64 b.p.o, T.sl 1 (ints b.p.s), i64 b.p.h, i64 b.p.c, i64 b.f]] [], T.fn 38 [T.agg [i64 a.n, i64 a.p.o, T.sl 1 (ints a.p.s), i64 a.p.h, i64 a.p.c, i64 a.f, i64 b.n, i64 b.p.o, T.sl 1 (ints b.p.s), i64 b.p.h, i64 b.p.c, i64 b.f]] [], T.fn 39 [T.agg [i64 a.n, i64 a.p.o, T.sl 1 (ints a.p.s), i64 a.p.h, i64 a.p.c, i64 a.f, i64 b.n, i64 b.p.o, T.sl 1 (ints b.p.s), i64 b.p.h, i64 b.p.c, i64 b.f]] [], T.fn 40 [T.agg [i64 a.n, i64 a.p.o, T.sl 1 (ints a.p.s), i64 a.p.h, i64 a.p.c, i64 a.f, i64 b.n, i64 b.p.o, T.sl 1 (ints b.p.s), i64 b.p.h, i64 b.p.c, i64 b.f]] []]] }) := by kernel_rfl
theorem b12_3_4 (N : Nat) (a b : Rt) : bodyL env N 12 0 3 (sRc3 a b) = cl N 37 [T.agg [i64 a.n, i64 a.p.o, T.sl 1 (ints a.p.s), i64 a.p.h, i64 a.p.c, i64 a.f, i64 b.n, i64 b.p.o, T.sl 1 (ints b.p.s), i64 b.p.h, i64 b.p.c, i64 b.f]] fun r => iT IntKind.i64 r fun a_1 => bif a_1 != 0 then Res.ok (Ex.ret, { tmps := slots 38 [(4, PV.t r)], heap := [] }) else Res.ok (Ex.norm, { tmps := slots 38 [(26, PV.own 0), (27, PV.t (i64 7)), (28, PV.t (i64 4))], heap := [AObj.row 85 1 [T.fn 34 [T.agg [i64 a.n, i64 a.p.o, T.sl 1 (ints a.p.s), i64 a.p.h, i64 a.p.c, i64 a.f, i64 b.n, i64 b.p.o, T.sl 1 (ints b.p.s), i64 b.p.h, i64 b.p.c, i64 b.f]] [], T.fn 35 [T.agg [i64 a.n, i64 a.p.o, T.sl 1 (ints a.p.s), i64 a.p.h, i64 a.p.c, i64 a.f, i64 b.n, i64 b.p.o, T.sl 1 (ints b.p.s), i64 b.p.h, i64 b.p.c, i64 b.f]] [], T.fn 36 [T.agg [i64 a.n, i64 a.p.o, T.sl 1 (ints a.p.s), i64 a.p.h, i64 a.p.c, i64 a.f, i64 b.n, i64 b.p.o, T.sl 1 (ints b.p.s), i64 b.p.h, i64 b.p.c, i64 b.f]] [], T.fn 37 [T.agg [i64 a.n, i64 a.p.o, T.sl 1 (ints a.p.s), i64 a.p.h, i64 a.p.c, i64 a.f, i64 b.n, i64 b.p.o, T.sl 1 (ints b.p.s), i64 b.p.h, i64 b.p.c, i64 b.f]] [], T.fn 38 [T.agg [i64 a.n, i64 a.p.o, T.sl 1 (ints a.p.s), i64 a.p.h, i64 a.p.c, i64 a.f, i64 b.n, i64 b.p.o, T.sl 1 (ints b.p.s), i64 b.p.h, i64 b.p.c, i64 b.f]] [], T.fn 39 [T.agg [i64 a.n, i64 a.p.o, T.sl 1 (ints a.p.s), i64 a.p.h, i64 a.p.c, i64 a.f, i64 b.n, i64 b.p.o, T.sl 1 (ints b.p.s), i64 b.p.h, i64 b.p.c, i64 b.f]] [], T.fn 40 [T.agg [i64 a.n, i64 a.p.o, T.sl 1 (ints a.p.s), i64 a.p.h, i64 a.p.c, i64 a.f, i64 b.n, i64 b.p.o, T.sl 1 (ints b.p.s), i64 b.p.h, i64 b.p.c, i64 b.f]] []]] }) := by kernel_rfl
theorem b12_3_5 (N : Nat) (a b : Rt) : bodyL env N 12 0 3 (sRc4 a b) = cl N 38 [T.agg [i64 a.n, i64 a.p.o, T.sl 1 (ints a.p.s), i64 a.p.h, i64 a.p.c, i64 a.f, i64 b.n, i64 b.p.o, T.sl 1 (ints b.p.s), i64 b.p.h, i64 b.p.c, i64 b.f]] fun r => iT IntKind.i64 r fun a_1 => bif a_1 != 0 then Res.ok (Ex.ret, { tmps := slots 38 [(4, PV.t r)], heap := [] }) else Res.ok (Ex.norm, { tmps := slots 38 [(26, PV.own 0), (27, PV.t (i64 7)), (28, PV.t (i64 5))], heap := [AObj.row 85 1 [T.fn 34 [T.agg [i64 a.n, i64 a.p.o, T.sl 1 (ints a.p.s), i64 a.p.h, i64 a.p.c, i64 a.f, i64 b.n, i64 b.p.o, T.sl 1 (ints b.p.s), i64 b.p.h, i64 b.p.c, i64 b.f]] [], T.fn 35 [T.agg [i64 a.n, i64 a.p.o, T.sl 1 (ints a.p.s), i64 a.p.h, i64 a.p.c, i64 a.f, i64 b.n, i64 b.p.o, T.sl 1 (ints b.p.s), i64 b.p.h, i64 b.p.c, i64 b.f]] [], T.fn 36 [T.agg [i64 a.n, i64 a.p.o, T.sl 1 (ints a.p.s), i64 a.p.h, i64 a.p.c, i64 a.f, i64 b.n, i64 b.p.o, T.sl 1 (ints b.p.s), i64 b.p.h, i64 b.p.c, i64 b.f]] [], T.fn 37 [T.agg [i64 a.n, i64 a.p.o, T.sl 1 (ints a.p.s), i64 a.p.h, i64 a.p.c, i64 a.f, i64 b.n, i64 b.p.o, T.sl 1 (ints b.p.s), i64 b.p.h, i64 b.p.c, i64 b.f]] [], T.fn 38 [T.agg [i64 a.n, i64 a.p.o, T.sl 1 (ints a.p.s), i64 a.p.h, i64 a.p.c, i64 a.f, i64 b.n, i64 b.p.o, T.sl 1 (ints b.p.s), i64 b.p.h, i64 b.p.c, i64 b.f]] [], T.fn 39 [T.agg [i64 a.n, i64 a.p.o, T.sl 1 (ints a.p.s), i64 a.p.h, i64 a.p.c, i64 a.f, i64 b.n, i64 b.p.o, T.sl 1 (ints b.p.s), i64 b.p.h, i64 b.p.c, i64 b.f]] [], T.fn 40 [T.agg [i64 a.n, i64 a.p.o, T.sl 1 (ints a.p.s), i64 a.p.h, i64 a.p.c, i64 a.f, i64 b.n, i64 b.p.o, T.sl 1 (ints b.p.s), i64 b.p.h, i64 b.p.c, i64 b.f]] []]] }) := by kernel_rfl
theorem b12_3_6 (N : Nat) (a b : Rt) : bodyL env N 12 0 3 (sRc5 a b) = cl N 39 [T.agg [i64 a.n, i64 a.p.o, T.sl 1 (ints a.p.s), i64 a.p.h, i64 a.p.c, i64 a.f, i64 b.n, i64 b.p.o, T.sl 1 (ints b.p.s), i64 b.p.h, i64 b.p.c, i64 b.f]] fun r => iT IntKind.i64 r fun a_1 => bif a_1 != 0 then Res.ok (Ex.ret, { tmps := slots 38 [(4, PV.t r)], heap := [] }) else Res.ok (Ex.norm, { tmps := slots 38 [(26, PV.own 0), (27, PV.t (i64 7)), (28, PV.t (i64 6))], heap := [AObj.row 85 1 [T.fn 34 [T.agg [i64 a.n, i64 a.p.o, T.sl 1 (ints a.p.s), i64 a.p.h, i64 a.p.c, i64 a.f, i64 b.n, i64 b.p.o, T.sl 1 (ints b.p.s), i64 b.p.h, i64 b.p.c, i64 b.f]] [], T.fn 35 [T.agg [i64 a.n, i64 a.p.o, T.sl 1 (ints a.p.s), i64 a.p.h, i64 a.p.c, i64 a.f, i64 b.n, i64 b.p.o, T.sl 1 (ints b.p.s), i64 b.p.h, i64 b.p.c, i64 b.f]] [], T.fn 36 [T.agg [i64 a.n, i64 a.p.o, T.sl 1 (ints a.p.s), i64 a.p.h, i64 a.p.c, i64 a.f, i64 b.n, i64 b.p.o, T.sl 1 (ints b.p.s), i64 b.p.h, i64 b.p.c, i64 b.f]] [], T.fn 37 [T.agg [i64 a.n, i64 a.p.o, T.sl 1 (ints a.p.s), i64 a.p.h, i64 a.p.c, i64 a.f, i64 b.n, i64 b.p.o, T.sl 1 (ints b.p.s), i64 b.p.h, i64 b.p.c, i64 b.f]] [], T.fn 38 [T.agg [i64 a.n, i64 a.p.o, T.sl 1 (ints a.p.s), i64 a.p.h, i64 a.p.c, i64 a.f, i64 b.n, i64 b.p.o, T.sl 1 (ints b.p.s), i64 b.p.h, i64 b.p.c, i64 b.f]] [], T.fn 39 [T.agg [i64 a.n, i64 a.p.o, T.sl 1 (ints a.p.s), i64 a.p.h, i64 a.p.c, i64 a.f, i64 b.n, i64 b.p.o, T.sl 1 (ints b.p.s), i64 b.p.h, i64 b.p.c, i64 b.f]] [], T.fn 40 [T.agg [i64 a.n, i64 a.p.o, T.sl 1 (ints a.p.s), i64 a.p.h, i64 a.p.c, i64 a.f, i64 b.n, i64 b.p.o, T.sl 1 (ints b.p.s), i64 b.p.h, i64 b.p.c, i64 b.f]] []]] }) := by kernel_rfl
theorem b12_3_7 (N : Nat) (a b : Rt) : bodyL env N 12 0 3 (sRc6 a b) = cl N 40 [T.agg [i64 a.n, i64 a.p.o, T.sl 1 (ints a.p.s), i64 a.p.h, i64 a.p.c, i64 a.f, i64 b.n, i64 b.p.o, T.sl 1 (ints b.p.s), i64 b.p.h, i64 b.p.c, i64 b.f]] fun r => iT IntKind.i64 r fun a_1 => bif a_1 != 0 then Res.ok (Ex.ret, { tmps := slots 38 [(4, PV.t r)], heap := [] }) else Res.ok (Ex.norm, { tmps := slots 38 [(26, PV.own 0), (27, PV.t (i64 7)), (28, PV.t (i64 7))], heap := [AObj.row 85 1 [T.fn 34 [T.agg [i64 a.n, i64 a.p.o, T.sl 1 (ints a.p.s), i64 a.p.h, i64 a.p.c, i64 a.f, i64 b.n, i64 b.p.o, T.sl 1 (ints b.p.s), i64 b.p.h, i64 b.p.c, i64 b.f]] [], T.fn 35 [T.agg [i64 a.n, i64 a.p.o, T.sl 1 (ints a.p.s), i64 a.p.h, i64 a.p.c, i64 a.f, i64 b.n, i64 b.p.o, T.sl 1 (ints b.p.s), i64 b.p.h, i64 b.p.c, i64 b.f]] [], T.fn 36 [T.agg [i64 a.n, i64 a.p.o, T.sl 1 (ints a.p.s), i64 a.p.h, i64 a.p.c, i64 a.f, i64 b.n, i64 b.p.o, T.sl 1 (ints b.p.s), i64 b.p.h, i64 b.p.c, i64 b.f]] [], T.fn 37 [T.agg [i64 a.n, i64 a.p.o, T.sl 1 (ints a.p.s), i64 a.p.h, i64 a.p.c, i64 a.f, i64 b.n, i64 b.p.o, T.sl 1 (ints b.p.s), i64 b.p.h, i64 b.p.c, i64 b.f]] [], T.fn 38 [T.agg [i64 a.n, i64 a.p.o, T.sl 1 (ints a.p.s), i64 a.p.h, i64 a.p.c, i64 a.f, i64 b.n, i64 b.p.o, T.sl 1 (ints b.p.s), i64 b.p.h, i64 b.p.c, i64 b.f]] [], T.fn 39 [T.agg [i64 a.n, i64 a.p.o, T.sl 1 (ints a.p.s), i64 a.p.h, i64 a.p.c, i64 a.f, i64 b.n, i64 b.p.o, T.sl 1 (ints b.p.s), i64 b.p.h, i64 b.p.c, i64 b.f]] [], T.fn 40 [T.agg [i64 a.n, i64 a.p.o, T.sl 1 (ints a.p.s), i64 a.p.h, i64 a.p.c, i64 a.f, i64 b.n, i64 b.p.o, T.sl 1 (ints b.p.s), i64 b.p.h, i64 b.p.c, i64 b.f]] []]] }) := by kernel_rfl
theorem b12_3_8 (N : Nat) (a b : Rt) : bodyL env N 12 0 3 (sRc7 a b) = Res.ok (Ex.exit 0, { tmps := slots 38 [], heap := [] }) := by kernel_rfl
theorem t12_3_ret (N : Nat) (n : Int) : tailL env N 12 0 3 (outK env 12) (.ret) (⟨slots 38 [(4, .t (i64 n))], []⟩) = rI n := by kernel_rfl
theorem t12_3_exit0 (N : Nat)  : tailL env N 12 0 3 (outK env 12) (.exit 0) (⟨slots 38 [], []⟩) = rI 0 := by kernel_rfl
theorem q34 (N : Nat) (a b : Rt) : callP env (N + 1) 34 [twT a b] = W [twT a b] (cl N 60 [i64 b.n, i64 a.n] fun x => Res.ok x) := by kernel_rfl
theorem q35 (N : Nat) (a b : Rt) : callP env (N + 1) 35 [twT a b] = W [twT a b] (cl N 60 [i64 (↑(ints a.p.s).length : Int), i64 (↑(ints b.p.s).length : Int)] fun x => Res.ok x) := by kernel_rfl
theorem q36 (N : Nat) (a b : Rt) : callP env (N + 1) 36 [twT a b] = W [twT a b] (cl N 60 [i64 a.p.o, i64 b.p.o] fun x => Res.ok x) := by kernel_rfl
theorem q37 (N : Nat) (a b : Rt) : callP env (N + 1) 37 [twT a b] = W [twT a b] (cl N 61 [T.sl 1 (ints a.p.s), T.sl 1 (ints b.p.s)] fun x => Res.ok x) := by kernel_rfl
theorem q38 (N : Nat) (a b : Rt) : callP env (N + 1) 38 [twT a b] = W [twT a b] (cl N 60 [i64 a.p.h, i64 b.p.h] fun x => Res.ok x) := by kernel_rfl
theorem q39 (N : Nat) (a b : Rt) : callP env (N + 1) 39 [twT a b] = W [twT a b] (cl N 60 [i64 a.p.c, i64 b.p.c] fun x => Res.ok x) := by kernel_rfl
theorem q40 (N : Nat) (a b : Rt) : callP env (N + 1) 40 [twT a b] = W [twT a b] (cl N 60 [i64 a.f, i64 b.f] fun x => Res.ok x) := by kernel_rfl
end Go.Sim

/- What layer 9, role.Out, slices.Repeat, slices.Concat and slices.Compare answer. -/
namespace Go.Sim
open Go.RowKit Go.Proofs
set_option linter.unusedVariables false
set_option linter.unusedSimpArgs false
set_option linter.unusedSectionVars false
set_option maxRecDepth 100000

theorem iter_fnz {B : St → Res (Ex × St)} {R : Int → St} {X : St} {id : Nat} {S : Nat → St} : ∀ (vs : List Int) (k n : Nat), (∀ j v, vs[j]? = some v → B (S (k + j)) = if v = 0 then .ok (.norm, S (k + j + 1)) else .ok (.ret, R v)) → B (S (k + vs.length)) = .ok (.exit id, X) → vs.length < n →
    iterR B n (S k) = if fnz vs = 0 then .ok (.exit id, X) else .ok (.ret, R (fnz vs))
  | [], k, n, h, hx, hn => by
    obtain ⟨n, rfl⟩ : ∃ m, n = m + 1 := ⟨n - 1, by omega⟩
    simp only [fnz, if_true]
    exact iterR_exit hx
  | v :: vs, k, n, h, hx, hn => by
    simp only [List.length_cons] at hn
    obtain ⟨n, rfl⟩ : ∃ m, n = m + 1 := ⟨n - 1, by omega⟩
    have h0 := h 0 v rfl
    simp only [Nat.add_zero] at h0
    by_cases hv : v = 0
    · rw [if_pos hv] at h0
      rw [iterR_step h0, iter_fnz vs (k + 1) n (fun j u hu => by have := h (j + 1) u (by simpa using hu); rw [show k + 1 + j = k + (j + 1) by omega]; exact this) (by rw [show k + 1 + vs.length = k + (v :: vs).length by simp; omega]; exact hx) (by omega)]
      simp only [fnz, hv, if_true]
    · rw [if_neg hv] at h0
      rw [iterR_ret h0]
      simp only [fnz, hv, if_false]
theorem foldl_app {α : Type} : ∀ (l : List (List α)) (r : List α), l.foldl (fun r a => r ++ a) r = r ++ l.flatten
  | [], r => by simp
  | a :: l, r => by rw [List.foldl_cons, foldl_app l]; simp
theorem foldl_len : ∀ (l : List (List Int)) (n : Nat), l.foldl (fun n a => n + a.length) n = n + l.flatten.length
  | [], n => by simp
  | a :: l, n => by rw [List.foldl_cons, foldl_len l]; simp; omega
theorem flat_take {α : Type} {l : List (List α)} {j : Nat} {a : List α} (h : l[j]? = some a) : (l.take j).flatten.length + a.length ≤ l.flatten.length := by
  have h1 := (List.getElem?_eq_some_iff.1 h)
  have : l.flatten.length = (l.take (j + 1)).flatten.length + (l.drop (j + 1)).flatten.length := by
    rw [← List.length_append, ← List.flatten_append, List.take_append_drop]
  rw [this, List.take_succ_eq_append_getElem h1.1, List.flatten_append, List.length_append, h1.2]
  simp
theorem take_flat {α : Type} {l : List (List α)} {j : Nat} {a : List α} (h : l[j]? = some a) : (l.take (j + 1)).flatten = (l.take j).flatten ++ a := by
  have h1 := (List.getElem?_eq_some_iff.1 h)
  rw [List.take_succ_eq_append_getElem h1.1, List.flatten_append, h1.2]
  simp
variable [Lv]
theorem f60_ok {M : Nat} {a b : Int} (hM : 1 ≤ M) (ha : ok64 a = true) (hb : ok64 b = true) : callP env (M + 1) 60 [i64 a, i64 b] = .ok (i64 (cmpI a b)) := by
  obtain ⟨m, rfl⟩ := exM hM
  have nn : ∀ {a : Int}, ok64 a = true → callP env (m + 1) 88 [i64 a] = .ok (.bool false) := fun {a} h => by rw [q88, W_ok (wfs1 (wf_int h)), bne_self_eq_false]
  rw [q60, W_ok (wfs2 (wf_int ha) (wf_int hb)), cl_ok (nn ha), cl_ok (nn hb)]
  simp only [bT_bool, cond_false]
  unfold cmpI
  by_cases h : a < b
  · rw [decide_eq_true h, if_pos h]; rfl
  · rw [decide_eq_false h, if_neg h]
    by_cases h2 : b < a
    · rw [decide_eq_true (show a > b from h2), if_pos h2]; rfl
    · rw [decide_eq_false (show ¬ a > b from h2), if_neg h2]; rfl
theorem cmp_ok (a b : Int) : ok64 (cmpI a b) = true := by
  unfold cmpI
  split
  · rfl
  · split <;> rfl
theorem f61_ok {M : Nat} {l m : List Int} (hM : big + 2 ≤ M) (hl : okL okI l) (hm : okL okI m) : callP env (M + 1) 61 [.sl 1 (ints l), .sl 1 (ints m)] = .ok (i64 (cmpL l m)) := by
  rw [q61, W_ok (wfs2 (wf_ints hl) (wf_ints hm))]
  have hbl := hl.1
  have hbm := hm.1
  have main : ∀ (r : List Int) (i n : Nat), l.drop i = r → i ≤ l.length → r.length < n →
      (iterR (bodyL env M 61 0 2) n (sCm l m i)).bind (fun p => tailL env M 61 0 2 (outK env 61) p.1 p.2) = rI (cmpL r (m.drop i)) := by
    intro r
    induction r with
    | nil =>
      intro i n hd hi hn
      obtain ⟨n, rfl⟩ : ∃ m, n = m + 1 := ⟨n - 1, by omega⟩
      have hil : i = l.length := by have := congrArg List.length hd; simp at this; omega
      subst hil
      have hb : bodyL env M 61 0 2 (sCm l m (l.length : Int)) = .ok (.exit 0, ⟨slots 36 [(0, .t (.sl 1 (ints l))), (1, .t (.sl 1 (ints m)))], []⟩) := by
        rw [b61_2, decide_eq_false (by omega)]; rfl
      rw [iterR_exit hb]
      refine (t61_2_exit0 M l m).trans ?_
      rw [ints_map, ints_map, List.length_map, List.length_map]
      by_cases h : l.length < m.length
      · rw [decide_eq_true (by omega)]
        cases hdm : m.drop l.length with
        | nil => have := congrArg List.length hdm; simp at this; omega
        | cons => rfl
      · rw [decide_eq_false (by omega), List.drop_eq_nil_of_le (by omega)]; rfl
    | cons x r ih =>
      intro i n hd hi hn
      simp only [List.length_cons] at hn
      obtain ⟨n, rfl⟩ : ∃ m, n = m + 1 := ⟨n - 1, by omega⟩
      have hil : i < l.length := by have := congrArg List.length hd; simp at this; omega
      have hx : l[i]? = some x := by have := congrArg (fun z => z[0]?) hd; simpa using this
      have hd' : l.drop (i + 1) = r := by rw [← List.drop_drop, hd]; rfl
      have hb := b61_2 M l m i
      rw [decide_eq_true (by omega)] at hb
      simp only [cond_true] at hb
      rw [atT_get (ints_get hx), ints_map, List.length_map] at hb
      by_cases him : i < m.length
      case neg =>
        rw [decide_eq_true (by omega)] at hb
        rw [List.drop_eq_nil_of_le (show m.length ≤ i by omega), iterR_ret hb]
        exact t61_2_ret M 1
      have hy : m[i]? = some m[i] := List.getElem?_eq_getElem him
      rw [decide_eq_false (by omega)] at hb
      simp only [cond_false] at hb
      rw [← ints_map, atT_get (ints_get hy)] at hb
      obtain ⟨m', rfl⟩ := exM (show 1 ≤ M by omega)
      rw [cl_ok (f60_ok (by omega) (hl.2 x (List.mem_of_getElem? hx)) (hm.2 _ (List.mem_of_getElem? hy)))] at hb
      simp only [iT_int] at hb
      rw [show m.drop i = m[i] :: m.drop (i + 1) from List.drop_eq_getElem_cons him]
      simp only [cmpL]
      by_cases hc : x = m[i]
      · rw [cmpI_zero.2 hc, show ((0 : Int) != 0) = false from rfl, wrap_succ (show i ≤ big by omega)] at hb
        rw [if_pos hc, iterR_step hb]
        exact ih (i + 1) n hd' (by omega) (by omega)
      · rw [bne_iff_ne.2 (fun h => hc (cmpI_zero.1 h))] at hb
        rw [if_neg hc, iterR_ret hb]
        exact t61_2_ret (m' + 1) (cmpI x m[i])
  have := main l 0 M rfl (Nat.zero_le _) (by omega)
  rw [List.drop_zero] at this
  rw [show ((ints l).length : Int) = (l.length : Int) by rw [ints_map, List.length_map]]
  exact this
theorem wf_two {a b : Rt} (ha : a.ok) (hb : b.ok) : T.wfs [twT a b] = true := by
  have h1 := ha.wf; have h2 := hb.wf
  simp only [Rt.t, T.wf, T.wfs, Bool.and_true, Bool.and_eq_true] at h1 h2
  simp [twT, T.wf, T.wfs, h1, h2]
def sRc (a b : Rt) (i : Nat) : St := ⟨slots 38 [(26, .own 0), (27, .t (i64 7)), (28, .t (i64 i))], [.row 85 1 (rowC a b)]⟩
set_option maxHeartbeats 4000000 in
theorem f12_ok {M : Nat} {a b : Rt} (hM : big + 4 ≤ M) (ha : a.ok) (hb : b.ok) : callP env (M + 1) 12 [a.t, b.t] = .ok (i64 (cmpR a b)) := by
  obtain ⟨m, rfl⟩ := exM (show 1 ≤ M by omega)
  have hw := wf_two ha hb
  have ni : ∀ n : Nat, n ≤ big → ok64 (n : Int) = true := fun n hn => ok64_iff.2 (by have := big_val; omega)
  have la := pa_ints ha.p
  have lb := pa_ints hb.p
  have m1 : callP env (m + 1) 34 [twT a b] = .ok (i64 (cmpI b.n a.n)) := by
    obtain ⟨m, rfl⟩ := exM (show 1 ≤ m by omega)
    rw [q34, W_ok hw, cl_ok (f60_ok (by omega) hb.n ha.n)]
  have m2 : callP env (m + 1) 35 [twT a b] = .ok (i64 (cmpI a.p.s.length b.p.s.length)) := by
    obtain ⟨m, rfl⟩ := exM (show 1 ≤ m by omega)
    rw [q35, W_ok hw, ints_map, ints_map, List.length_map, List.length_map, cl_ok (f60_ok (by omega) (ni _ la.1) (ni _ lb.1))]
  have m3 : callP env (m + 1) 36 [twT a b] = .ok (i64 (cmpI a.p.o b.p.o)) := by
    obtain ⟨m, rfl⟩ := exM (show 1 ≤ m by omega)
    rw [q36, W_ok hw, cl_ok (f60_ok (by omega) ha.p.o hb.p.o)]
  have m4 : callP env (m + 1) 37 [twT a b] = .ok (i64 (cmpL a.p.s b.p.s)) := by
    obtain ⟨m, rfl⟩ := exM (show 1 ≤ m by omega)
    rw [q37, W_ok hw, cl_ok (f61_ok (by omega) la lb)]
  have m5 : callP env (m + 1) 38 [twT a b] = .ok (i64 (cmpI a.p.h b.p.h)) := by
    obtain ⟨m, rfl⟩ := exM (show 1 ≤ m by omega)
    rw [q38, W_ok hw, cl_ok (f60_ok (by omega) ha.p.h hb.p.h)]
  have m6 : callP env (m + 1) 39 [twT a b] = .ok (i64 (cmpI a.p.c b.p.c)) := by
    obtain ⟨m, rfl⟩ := exM (show 1 ≤ m by omega)
    rw [q39, W_ok hw, cl_ok (f60_ok (by omega) ha.p.c hb.p.c)]
  have m7 : callP env (m + 1) 40 [twT a b] = .ok (i64 (cmpI a.f b.f)) := by
    obtain ⟨m, rfl⟩ := exM (show 1 ≤ m by omega)
    rw [q40, W_ok hw, cl_ok (f60_ok (by omega) ha.f hb.f)]
  have rnd : ∀ {f : FuncId} {ts : List T} {v : Int} {S : St}, callP env (m + 1) f ts = .ok (i64 v) →
      (cl (m + 1) f ts fun r => iT .i64 r fun a => bif a != 0 then (.ok (.ret, ⟨slots 38 [(4, .t r)], []⟩) : Res (Ex × St)) else .ok (.norm, S)) = if v = 0 then .ok (.norm, S) else .ok (.ret, ⟨slots 38 [(4, .t (i64 v))], []⟩) := fun {f ts v S} h => by
    rw [cl_ok h]
    simp only [iT_int]
    by_cases hv : v = 0
    · rw [if_pos hv, hv]; rfl
    · rw [if_neg hv, bne_iff_ne.2 hv]; rfl
  rw [q12, W_ok (wfs2 ha.wf hb.wf)]
  refine Eq.trans (show _ = loopL env (m + 1) 12 3 (sRc a b 0) from rfl) ?_
  have it := iter_fnz (B := bodyL env (m + 1) 12 0 3) (R := fun v => ⟨slots 38 [(4, .t (i64 v))], []⟩) (X := ⟨slots 38 [], []⟩) (id := 0) (S := sRc a b)
    [cmpI b.n a.n, cmpI a.p.s.length b.p.s.length, cmpI a.p.o b.p.o, cmpL a.p.s b.p.s, cmpI a.p.h b.p.h, cmpI a.p.c b.p.c, cmpI a.f b.f] 0 (m + 1) (fun j v hj => ?_) (b12_3_8 (m + 1) a b) (show 7 < m + 1 by have := big_val; omega)
  · unfold cmpR
    generalize fnz [cmpI b.n a.n, cmpI a.p.s.length b.p.s.length, cmpI a.p.o b.p.o, cmpL a.p.s b.p.s, cmpI a.p.h b.p.h, cmpI a.p.c b.p.c, cmpI a.f b.f] = v at it ⊢
    by_cases hv : v = 0
    · rw [if_pos hv] at it
      rw [hv]
      exact (loopL_end it).trans (t12_3_exit0 (m + 1))
    · rw [if_neg hv] at it
      exact (loopL_end it).trans (t12_3_ret (m + 1) v)
  · have hj7 : j < 7 := (List.getElem?_eq_some_iff.1 hj).1
    rw [Nat.zero_add]
    have hc : j = 0 ∨ j = 1 ∨ j = 2 ∨ j = 3 ∨ j = 4 ∨ j = 5 ∨ j = 6 := by omega
    clear hj7
    rcases hc with rfl | rfl | rfl | rfl | rfl | rfl | rfl
    all_goals simp only [List.getElem?_cons_zero, List.getElem?_cons_succ, Option.some.injEq] at hj; subst hj
    · exact (b12_3 (m + 1) a b).trans (rnd (S := sRc a b 1) m1)
    · exact (b12_3_2 (m + 1) a b).trans (rnd (S := sRc a b 2) m2)
    · exact (b12_3_3 (m + 1) a b).trans (rnd (S := sRc a b 3) m3)
    · exact (b12_3_4 (m + 1) a b).trans (rnd (S := sRc a b 4) m4)
    · exact (b12_3_5 (m + 1) a b).trans (rnd (S := sRc a b 5) m5)
    · exact (b12_3_6 (m + 1) a b).trans (rnd (S := sRc a b 6) m6)
    · exact (b12_3_7 (m + 1) a b).trans (rnd (S := sRc a b 7) m7)
theorem ownR_ok {h : Int} (hh : ok64 h = true) : (ownR h).ok := ⟨rfl, ⟨rfl, Nat.zero_le _, fun _ h => (by cases h), hh, rfl⟩, rfl⟩
theorem f43_ok {M : Nat} {n : Int} (h : ok64 n = true) : callP env (M + 1) 43 [i64 n] = .ok (ownR n).t := by
  rw [q43, W_ok (wfs1 (wf_int h))]; rfl
theorem f11_ok {M : Nat} {a b : Rt} (hM : big + 5 ≤ M) (ha : a.ok) (hb : b.ok) : callP env (M + 1) 11 [a.t, b.t] = .ok (.bool (cmpR a b == 0)) := by
  obtain ⟨m, rfl⟩ := exM (show 1 ≤ M by omega)
  rw [q11, W_ok (wfs2 ha.wf hb.wf), clI_ok (f12_ok (by omega) ha hb)]
end Go.Sim

/- Tables: plain laws of layer 18. -/
namespace Go.Sim
open Go.RowKit Go.Proofs
set_option linter.unusedVariables false
set_option linter.unusedSimpArgs false
set_option linter.unusedSectionVars false
set_option maxRecDepth 100000
def ebad (e : En) : Bool := !psane e.x || !asane7 e.p
/-- Of two numbers the first that is not 0. -/
def orP (u v : Int) : Int := bif u != 0 then u else v
def cmpP (x y : Px) : Int := orP (cmpI x.a y.a) (cmpI x.n y.n)
def upE (l : List En) (i : Nat) : Bool := match l[i - 1]?, l[i]? with | some a, some b => decide (cmpP a.x b.x ≥ 0) | _, _ => false
def risesE (l : List En) : Bool := (seekI (upE l) 1 (l.length - 1)).isNone
def tsane (l : List En) : Bool := !(l.any ebad) && risesE l
def known (l : List En) : List En := bif tsane l then l else []
theorem known_sub {l : List En} {e : En} (h : e ∈ known l) : e ∈ l := by
  unfold known at h; cases ht : tsane l <;> simp [ht] at h; exact h
theorem known_len (l : List En) : (known l).length ≤ l.length := by
  unfold known; cases tsane l <;> simp
def bsE (c : Nat → Bool) : Nat → Nat → Nat → Nat
  | 0, i, _ => i
  | k + 1, i, j => bif decide (i < j) then (bif c ((i + j) / 2) then bsE c k ((i + j) / 2 + 1) j else bsE c k i ((i + j) / 2)) else i
theorem bsE_le (c : Nat → Bool) : ∀ (k i j : Nat), i ≤ j → i ≤ bsE c k i j ∧ bsE c k i j ≤ j
  | 0, i, j, h => ⟨Nat.le_refl _, h⟩
  | k + 1, i, j, h => by
    unfold bsE
    rcases Nat.lt_or_ge i j with h1 | h1
    · rw [decide_eq_true h1, cond_true]
      cases c ((i + j) / 2) with
      | true => have := bsE_le c k ((i + j) / 2 + 1) j (by omega); simp only [cond_true]; omega
      | false => have := bsE_le c k i ((i + j) / 2) (by omega); simp only [cond_false]; omega
    · rw [decide_eq_false (by omega), cond_false]; omega
def ltE (l : List En) (x : Px) (i : Nat) : Bool := match l[i]? with | some e => decide (cmpP e.x x < 0) | none => false
def placeE (l : List En) (x : Px) : Nat := bsE (ltE l x) l.length 0 l.length
def thereE (l : List En) (x : Px) : Bool := match l[placeE l x]? with | some e => cmpP e.x x == 0 | none => false
theorem placeE_le (l : List En) (x : Px) : placeE l x ≤ l.length := (bsE_le _ _ _ _ (Nat.zero_le _)).2
theorem thereE_lt {l : List En} {x : Px} (h : thereE l x = true) : placeE l x < l.length := by
  unfold thereE at h
  cases hx : l[placeE l x]? with
  | none => simp [hx] at h
  | some e => exact (List.getElem?_eq_some_iff.1 hx).1
theorem wrap_mid {i j : Nat} (hi : i ≤ big) (hj : j ≤ big) : IntKind.i64.wrap (Int.fdiv (IntKind.u64.wrap (IntKind.i64.wrap ((i : Int) + (j : Int)))) 2) = (((i + j) / 2 : Nat) : Int) := by
  have hb := big_val
  have h0 : IntKind.i64.wrap ((i : Int) + (j : Int)) = (i : Int) + (j : Int) := wrap64 (by omega)
  have h1 : IntKind.u64.wrap ((i : Int) + (j : Int)) = ((i + j : Nat) : Int) := by rw [IntKind.wrap_u64]; omega
  have h2 : Int.fdiv ((i + j : Nat) : Int) 2 = (((i + j) / 2 : Nat) : Int) := by
    rw [Int.fdiv_eq_ediv_of_nonneg _ (by omega)]; omega
  rw [h0, h1, h2, wrap64 (by omega)]
def goneE (l : List En) (x : Px) : List En := bif thereE l x then l.take (placeE l x) ++ l.drop (placeE l x + 1) else l
def newE (p : Pa) (l : List En) (x : Px) : List En := bif psane x && asane7 p then (bif thereE l x then l.set (placeE l x) ⟨x, p⟩ else l.take (placeE l x) ++ [⟨x, p⟩] ++ l.drop (placeE l x)) else l
def applyE (t : List En) (n : Nw) : List En := n.m.foldl (newE n.p) (n.g.foldl goneE (known t))
theorem okE_en (e : En) : T.okE 6 e.t = true := rfl
def longE (l : List En) (i : Nat) : Bool := match l[i]? with | some e => decide ((e.p.s.length : Int) > 100) | none => false
def fewE (l : List En) : Bool := !(l.any fun e => decide ((e.p.s.length : Int) > 100)) && decide ((l.length : Int) ≤ 40)
def fewN (n : Nw) : Bool := decide ((n.g.length : Int) ≤ 40) && (decide ((n.m.length : Int) ≤ 40) && decide ((n.p.s.length : Int) ≤ 300))
def eqPx (x y : Px) : Bool := (x.a == y.a) && ((x.n == y.n) && true)
theorem eqLs_px (x y : Px) : T.eqLs [0, 0] [i64 x.a, i64 x.n] [i64 y.a, i64 y.n] = some (eqPx x y) := by simp [T.eqLs, eqPx]
theorem goneE_len (l : List En) (x : Px) : (goneE l x).length ≤ l.length := by
  unfold goneE
  cases thereE l x with
  | false => exact Nat.le_refl _
  | true => simp only [cond_true, List.length_append, List.length_take, List.length_drop]; omega
theorem goneE_ok {l : List En} {x : Px} (h : ∀ e ∈ l, e.ok) : ∀ e ∈ goneE l x, e.ok := fun e he => by
  unfold goneE at he
  cases hth : thereE l x with
  | false => rw [hth] at he; exact h e he
  | true =>
    rw [hth] at he
    simp only [cond_true, List.mem_append] at he
    exact he.elim (fun q => h e (List.mem_of_mem_take q)) (fun q => h e (List.mem_of_mem_drop q))
theorem newE_len (p : Pa) (l : List En) (x : Px) : (newE p l x).length ≤ l.length + 1 := by
  have := placeE_le l x
  unfold newE
  cases psane x && asane7 p <;> cases thereE l x <;> simp <;> omega
theorem newE_ok {p : Pa} {l : List En} {x : Px} (h : ∀ e ∈ l, e.ok) (hp : p.ok) (hx : x.ok) : ∀ e ∈ newE p l x, e.ok := fun e he => by
  unfold newE at he
  cases h1 : (psane x && asane7 p) with
  | false => rw [h1] at he; exact h e he
  | true =>
    rw [h1] at he
    cases hth : thereE l x with
    | true =>
      rw [hth] at he
      simp only [cond_true] at he
      rcases List.mem_or_eq_of_mem_set he with he | rfl
      · exact h e he
      · exact ⟨hx, hp⟩
    | false =>
      rw [hth] at he
      simp only [cond_true, cond_false, List.mem_append, List.mem_singleton] at he
      rcases he with (q | rfl) | q
      · exact h e (List.mem_of_mem_take q)
      · exact ⟨hx, hp⟩
      · exact h e (List.mem_of_mem_drop q)
theorem gones_len : ∀ (g : List Px) (l : List En), (g.foldl goneE l).length ≤ l.length
  | [], l => Nat.le_refl _
  | x :: g, l => Nat.le_trans (gones_len g (goneE l x)) (goneE_len l x)
theorem gones_ok : ∀ (g : List Px) {l : List En}, (∀ e ∈ l, e.ok) → ∀ e ∈ g.foldl goneE l, e.ok
  | [], l, h => h
  | x :: g, l, h => gones_ok g (goneE_ok h)
theorem news_len (p : Pa) : ∀ (m : List Px) (l : List En), (m.foldl (newE p) l).length ≤ l.length + m.length
  | [], l => Nat.le_refl _
  | x :: m, l => by
    have := news_len p m (newE p l x)
    have := newE_len p l x
    simp only [List.foldl_cons, List.length_cons]; omega
theorem news_ok {p : Pa} (hp : p.ok) : ∀ (m : List Px) {l : List En}, (∀ x ∈ m, x.ok) → (∀ e ∈ l, e.ok) → ∀ e ∈ m.foldl (newE p) l, e.ok
  | [], l, _, h => h
  | x :: m, l, hm, h => news_ok hp m (fun y hy => hm y (List.mem_cons_of_mem _ hy)) (newE_ok h hp (hm x List.mem_cons_self))
theorem applyE_len (t : List En) (n : Nw) : (applyE t n).length ≤ t.length + n.m.length := by
  have h1 := news_len n.p n.m (n.g.foldl goneE (known t))
  have h2 := gones_len n.g (known t)
  have h3 := known_len t
  unfold applyE; omega
theorem applyE_ok {t : List En} {n : Nw} (ht : ∀ e ∈ t, e.ok) (hn : n.ok) : ∀ e ∈ applyE t n, e.ok :=
  news_ok hn.p n.m hn.m (gones_ok n.g fun e he => ht e (known_sub he))
theorem Px.ext' {x y : Px} (h : x.a = y.a) (h2 : x.n = y.n) : x = y := by cases x; cases y; simp_all
theorem Pa.ext' {p q : Pa} (h : p.o = q.o) (h2 : p.s = q.s) (h3 : p.h = q.h) (h4 : p.c = q.c) : p = q := by cases p; cases q; simp_all
theorem En.ext' {p q : En} (h : p.x = q.x) (h2 : p.p = q.p) : p = q := by cases p; cases q; simp_all
def ltP (x y : Px) : Prop := x.a < y.a ∨ (x.a = y.a ∧ x.n < y.n)
theorem ltP_irrefl (x : Px) : ¬ ltP x x := fun h => by rcases h with h | ⟨_, h⟩ <;> omega
theorem ltP_trans {x y z : Px} (h : ltP x y) (h2 : ltP y z) : ltP x z := by
  unfold ltP at *; omega
theorem ltP_asymm {x y : Px} (h : ltP x y) : ¬ ltP y x := by unfold ltP at *; omega
theorem ltP_total {x y : Px} (h : ¬ ltP x y) (h2 : ¬ ltP y x) : x = y := Px.ext' (by unfold ltP at *; omega) (by unfold ltP at *; omega)
theorem cmpI_cases (a b : Int) : (a < b ∧ cmpI a b = -1) ∨ (a > b ∧ cmpI a b = 1) ∨ (a = b ∧ cmpI a b = 0) := by
  unfold cmpI
  split
  · exact .inl ⟨by assumption, rfl⟩
  · split
    · exact .inr (.inl ⟨by assumption, rfl⟩)
    · exact .inr (.inr ⟨by omega, rfl⟩)
theorem cmpP_cases (x y : Px) : (ltP x y ∧ cmpP x y = -1) ∨ (ltP y x ∧ cmpP x y = 1) ∨ (x = y ∧ cmpP x y = 0) := by
  unfold cmpP orP
  rcases cmpI_cases x.a y.a with ⟨h, e⟩ | ⟨h, e⟩ | ⟨h, e⟩
  · exact .inl ⟨.inl h, by rw [e]; rfl⟩
  · exact .inr (.inl ⟨.inl h, by rw [e]; rfl⟩)
  · rw [e]
    rcases cmpI_cases x.n y.n with ⟨h', e'⟩ | ⟨h', e'⟩ | ⟨h', e'⟩
    · exact .inl ⟨.inr ⟨h, h'⟩, by rw [e']; rfl⟩
    · exact .inr (.inl ⟨.inr ⟨h.symm, h'⟩, by rw [e']; rfl⟩)
    · exact .inr (.inr ⟨Px.ext' h h', by rw [e']; rfl⟩)
theorem cmpP_lt {x y : Px} : cmpP x y < 0 ↔ ltP x y := by
  rcases cmpP_cases x y with ⟨h, e⟩ | ⟨h, e⟩ | ⟨h, e⟩
  · exact ⟨fun _ => h, fun _ => by omega⟩
  · exact ⟨fun _ => by omega, fun h2 => absurd h2 (ltP_asymm h)⟩
  · exact ⟨fun _ => by omega, fun h2 => absurd (h ▸ h2) (ltP_irrefl _)⟩
theorem cmpP_ge {x y : Px} : cmpP x y ≥ 0 ↔ ¬ ltP x y := by rw [← cmpP_lt]; omega
theorem cmpP_eq {x y : Px} : (cmpP x y == 0) = true ↔ x = y := by
  rw [beq_iff_eq]
  rcases cmpP_cases x y with ⟨h, e⟩ | ⟨h, e⟩ | ⟨h, e⟩
  · exact ⟨fun _ => by omega, fun h2 => absurd (h2 ▸ h) (ltP_irrefl _)⟩
  · exact ⟨fun _ => by omega, fun h2 => absurd (h2 ▸ h) (ltP_irrefl _)⟩
  · exact ⟨fun _ => h, fun _ => e⟩
/-- A table rises. -/
def Rise (l : List En) : Prop := l.Pairwise fun a b => ltP a.x b.x
theorem rise_iff {l : List En} : risesE l = true ↔ Rise l := by
  unfold risesE
  constructor
  · intro h
    have h' : seekI (upE l) 1 (l.length - 1) = none := by simpa using h
    have hs := seekI_none h'
    unfold Rise
    rw [List.pairwise_iff_getElem]
    have key : ∀ (d i : Nat) (hi : i + d + 1 < l.length), ltP l[i].x l[i + d + 1].x := by
      intro d
      induction d with
      | zero =>
        intro i hi
        have := hs (i + 1) (by omega) (by omega)
        have g1 : l[i + 1 - 1]? = some l[i] := by rw [show i + 1 - 1 = i by omega]; exact List.getElem?_eq_getElem (by omega)
        have g2 : l[i + 1]? = some l[i + 1] := List.getElem?_eq_getElem (by omega)
        simp only [upE, g1, g2, decide_eq_false_iff_not] at this
        rw [cmpP_ge, Classical.not_not] at this
        exact this
      | succ d ih =>
        intro i hi
        have h1 := ih i (by omega)
        have h2 := ih (i + 1) (by omega)
        have h3 := hs (i + d + 1 + 1) (by omega) (by omega)
        have g1 : l[i + d + 1 + 1 - 1]? = some l[i + d + 1] := by rw [show i + d + 1 + 1 - 1 = i + d + 1 by omega]; exact List.getElem?_eq_getElem (by omega)
        have g2 : l[i + d + 1 + 1]? = some l[i + d + 1 + 1] := List.getElem?_eq_getElem (by omega)
        simp only [upE, g1, g2, decide_eq_false_iff_not] at h3
        rw [cmpP_ge, Classical.not_not] at h3
        exact ltP_trans h1 h3
    intro i j hi hj hij
    have := key (j - i - 1) i (by omega)
    simpa only [show i + (j - i - 1) + 1 = j by omega] using this
  · intro h
    cases hk : seekI (upE l) 1 (l.length - 1) with
    | none => rfl
    | some j =>
      obtain ⟨a, b, c⟩ := seekI_some hk
      have g1 : l[j - 1]? = some l[j - 1] := List.getElem?_eq_getElem (by omega)
      have g2 : l[j]? = some l[j] := List.getElem?_eq_getElem (by omega)
      simp only [upE, g1, g2, decide_eq_true_eq] at c
      rw [cmpP_ge] at c
      exact absurd (List.pairwise_iff_getElem.1 h (j - 1) j (by omega) (by omega) (by omega)) c
theorem ebad_iff {e : En} : ebad e = false ↔ psane e.x = true ∧ asane7 e.p = true := by
  unfold ebad; cases psane e.x <;> cases asane7 e.p <;> simp
theorem tsane_iff {l : List En} : tsane l = true ↔ Rise l ∧ ∀ e ∈ l, psane e.x = true ∧ asane7 e.p = true := by
  unfold tsane
  rw [Bool.and_eq_true, rise_iff, Bool.not_eq_true', List.any_eq_false]
  constructor
  · rintro ⟨a, b⟩
    exact ⟨b, fun e he => ebad_iff.1 (by simpa using a e he)⟩
  · rintro ⟨a, b⟩
    exact ⟨fun e he => by simp [ebad_iff.2 (b e he)], a⟩
theorem rise_known (l : List En) : Rise (known l) := by
  unfold known
  cases h : tsane l with
  | true => exact (tsane_iff.1 h).1
  | false => exact List.Pairwise.nil
theorem sane_known {l : List En} : ∀ e ∈ known l, psane e.x = true ∧ asane7 e.p = true := by
  unfold known
  cases h : tsane l with
  | true => exact (tsane_iff.1 h).2
  | false => simp
/-- Of the same entries there is one table. -/
theorem rise_ext : ∀ {l l' : List En}, Rise l → Rise l' → (∀ e, e ∈ l ↔ e ∈ l') → l = l'
  | [], [], _, _, _ => rfl
  | [], b :: l', _, _, h => absurd ((h b).2 List.mem_cons_self) (by simp)
  | a :: l, [], _, _, h => absurd ((h a).1 List.mem_cons_self) (by simp)
  | a :: l, b :: l', h1, h2, h => by
    obtain ⟨ha, hl⟩ := List.pairwise_cons.1 h1
    obtain ⟨hb, hl'⟩ := List.pairwise_cons.1 h2
    have hab : a = b := by
      rcases List.mem_cons.1 ((h a).1 List.mem_cons_self) with e | e
      · exact e
      rcases List.mem_cons.1 ((h b).2 List.mem_cons_self) with e' | e'
      · exact e'.symm
      exact absurd (ha b e') (ltP_asymm (hb a e))
    subst hab
    congr 1
    refine rise_ext hl hl' fun e => ⟨fun he => ?_, fun he => ?_⟩
    · rcases List.mem_cons.1 ((h e).1 (List.mem_cons_of_mem _ he)) with e' | e'
      · subst e'; exact absurd (ha _ he) (ltP_irrefl _)
      · exact e'
    · rcases List.mem_cons.1 ((h e).2 (List.mem_cons_of_mem _ he)) with e' | e'
      · subst e'; exact absurd (hb _ he) (ltP_irrefl _)
      · exact e'
theorem rise_inj {l : List En} (h : Rise l) : ∀ {e e' : En}, e ∈ l → e' ∈ l → e.x = e'.x → e = e' := by
  induction l with
  | nil => intro e e' h; cases h
  | cons a l ih =>
    obtain ⟨ha, hl⟩ := List.pairwise_cons.1 h
    intro e e' h1 h2 hx
    rcases List.mem_cons.1 h1 with e1 | e1 <;> rcases List.mem_cons.1 h2 with e2 | e2
    · rw [e1, e2]
    · subst e1; exact absurd (hx ▸ ha _ e2) (ltP_irrefl _)
    · subst e2; exact absurd (hx ▸ ha _ e1) (ltP_irrefl _)
    · exact ih hl e1 e2 hx
theorem bsE_split (c : Nat → Bool) (hc : ∀ i j, i ≤ j → c j = true → c i = true) : ∀ (k i j : Nat), j - i ≤ k → i ≤ j → (∀ a, a < i → c a = true) → (∀ a, j ≤ a → c a = false) → (∀ a, a < bsE c k i j → c a = true) ∧ ∀ a, bsE c k i j ≤ a → c a = false
  | 0, i, j, h, hij, h1, h2 => ⟨h1, fun a ha => h2 a (by simp only [bsE] at ha; omega)⟩
  | k + 1, i, j, h, hij, h1, h2 => by
    unfold bsE
    rcases Nat.lt_or_ge i j with h3 | h3
    · rw [decide_eq_true h3, cond_true]
      cases hm : c ((i + j) / 2) with
      | true => exact bsE_split c hc k _ j (by omega) (by omega) (fun a ha => hc a _ (by omega) hm) h2
      | false =>
        refine bsE_split c hc k i _ (by omega) (by omega) h1 fun a ha => ?_
        cases hca : c a with
        | false => rfl
        | true => rw [hc _ _ ha hca] at hm; cases hm
    · rw [decide_eq_false (by omega), cond_false]
      exact ⟨h1, fun a ha => h2 a (by omega)⟩
theorem place_split {l : List En} (h : Rise l) (x : Px) : (∀ a, a < placeE l x → ltE l x a = true) ∧ ∀ a, placeE l x ≤ a → ltE l x a = false := by
  refine bsE_split _ (fun i j hij hj => ?_) _ _ _ (by omega) (by omega) (fun a ha => by omega) fun a ha => by simp [ltE, List.getElem?_eq_none ha]
  unfold ltE at hj ⊢
  cases hx : l[j]? with
  | none => simp [hx] at hj
  | some e =>
    obtain ⟨hlt, he⟩ := List.getElem?_eq_some_iff.1 hx
    have g : l[i]? = some l[i] := List.getElem?_eq_getElem (by omega)
    simp only [hx, decide_eq_true_eq, cmpP_lt] at hj
    simp only [g, decide_eq_true_eq, cmpP_lt]
    rcases Nat.lt_or_ge i j with h1 | h1
    · exact ltP_trans (List.pairwise_iff_getElem.1 h i j (by omega) hlt h1) (he ▸ hj)
    · have : i = j := by omega
      subst this; exact he ▸ hj
theorem take_lt {l : List En} (h : Rise l) (x : Px) : ∀ e ∈ l.take (placeE l x), ltP e.x x := fun e he => by
  obtain ⟨i, hi⟩ := List.getElem?_of_mem he
  have hlt := (List.getElem?_eq_some_iff.1 hi).1
  rw [List.length_take] at hlt
  rw [List.getElem?_take_of_lt (by omega)] at hi
  have := (place_split h x).1 i (by omega)
  simp only [ltE, hi, decide_eq_true_eq, cmpP_lt] at this
  exact this
theorem drop_ge {l : List En} (h : Rise l) (x : Px) : ∀ e ∈ l.drop (placeE l x), ¬ ltP e.x x := fun e he => by
  obtain ⟨i, hi⟩ := List.getElem?_of_mem he
  rw [List.getElem?_drop] at hi
  have := (place_split h x).2 (placeE l x + i) (by omega)
  simp only [ltE, hi, decide_eq_false_iff_not, cmpP_lt] at this
  exact this
/-- Where it is there: the table is what comes ahead, it, and what comes behind. -/
theorem there_split {l : List En} {x : Px} (h : thereE l x = true) : ∃ p, l = l.take (placeE l x) ++ ⟨x, p⟩ :: l.drop (placeE l x + 1) := by
  have hlt := thereE_lt h
  unfold thereE at h
  have g : l[placeE l x]? = some l[placeE l x] := List.getElem?_eq_getElem hlt
  simp only [g, cmpP_eq] at h
  refine ⟨l[placeE l x].p, ?_⟩
  rw [show (⟨x, l[placeE l x].p⟩ : En) = l[placeE l x] from En.ext' h.symm rfl, List.getElem_cons_drop, List.take_append_drop]
theorem there_iff {l : List En} (hr : Rise l) {x : Px} : thereE l x = true ↔ ∃ e ∈ l, e.x = x := by
  constructor
  · intro h
    obtain ⟨p, hp⟩ := there_split h
    exact ⟨⟨x, p⟩, by rw [hp]; simp, rfl⟩
  · rintro ⟨e, he, rfl⟩
    have hs := List.take_append_drop (placeE l e.x) l
    have hd : e ∈ l.drop (placeE l e.x) := by
      rw [← hs] at he
      rcases List.mem_append.1 he with h | h
      · exact absurd (take_lt hr _ _ h) (ltP_irrefl _)
      · exact h
    cases hdr : l.drop (placeE l e.x) with
    | nil => rw [hdr] at hd; cases hd
    | cons f r =>
      have g : l[placeE l e.x]? = some f := by
        have := List.getElem?_drop (xs := l) (i := placeE l e.x) (j := 0)
        rw [hdr] at this; simpa using this.symm
      unfold thereE
      simp only [g, cmpP_eq]
      rw [hdr] at hd
      rcases List.mem_cons.1 hd with rfl | hd
      · rfl
      · have hrd : Rise (f :: r) := by rw [← hdr]; exact List.Pairwise.sublist (List.drop_sublist _ _) hr
        have := (List.pairwise_cons.1 hrd).1 _ hd
        exact absurd this (drop_ge hr _ f (by rw [hdr]; exact List.mem_cons_self))
theorem not_there {l : List En} (hr : Rise l) {x : Px} (h : thereE l x = false) : ∀ e ∈ l, e.x ≠ x := fun e he hx => by
  rw [there_iff hr |>.2 ⟨e, he, hx⟩] at h; cases h
theorem rise_parts {a b : List En} {e : En} (h : Rise (a ++ e :: b)) : Rise (a ++ b) ∧ (∀ f ∈ a, ltP f.x e.x) ∧ ∀ f ∈ b, ltP e.x f.x := by
  obtain ⟨h1, h2, h3⟩ := List.pairwise_append.1 h
  obtain ⟨h4, h5⟩ := List.pairwise_cons.1 h2
  exact ⟨List.pairwise_append.2 ⟨h1, h5, fun f hf g hg => h3 f hf g (List.mem_cons_of_mem _ hg)⟩, fun f hf => h3 f hf e List.mem_cons_self, h4⟩
theorem rise_mid {a b : List En} {e : En} (h : Rise (a ++ b)) (h1 : ∀ f ∈ a, ltP f.x e.x) (h2 : ∀ f ∈ b, ltP e.x f.x) : Rise (a ++ e :: b) := by
  obtain ⟨g1, g2, g3⟩ := List.pairwise_append.1 h
  exact List.pairwise_append.2 ⟨g1, List.pairwise_cons.2 ⟨h2, g2⟩, fun f hf g hg => (List.mem_cons.1 hg).elim (fun q => q ▸ h1 f hf) (g3 f hf g)⟩
theorem rise_gone {l : List En} (h : Rise l) (x : Px) : Rise (goneE l x) := by
  unfold goneE
  cases ht : thereE l x with
  | false => exact h
  | true =>
    obtain ⟨p, hp⟩ := there_split ht
    have h' := h
    rw [hp] at h'
    exact (rise_parts h').1
theorem mem_gone {l : List En} (h : Rise l) {x : Px} {e : En} : e ∈ goneE l x ↔ e ∈ l ∧ e.x ≠ x := by
  unfold goneE
  cases ht : thereE l x with
  | false => exact ⟨fun he => ⟨he, not_there h ht e he⟩, fun he => he.1⟩
  | true =>
    obtain ⟨p, hp⟩ := there_split ht
    have h' := h
    rw [hp] at h'
    obtain ⟨_, h2, h3⟩ := rise_parts h'
    simp only [cond_true]
    constructor
    · intro he
      constructor
      · rw [hp]
        rcases List.mem_append.1 he with q | q
        · exact List.mem_append_left _ q
        · exact List.mem_append_right _ (List.mem_cons_of_mem _ q)
      · intro hx
        rcases List.mem_append.1 he with q | q
        · exact ltP_irrefl x (hx ▸ h2 e q)
        · exact ltP_irrefl x (hx ▸ h3 e q)
    · rintro ⟨he, hx⟩
      rw [hp] at he
      rcases List.mem_append.1 he with q | q
      · exact List.mem_append_left _ q
      · rcases List.mem_cons.1 q with rfl | q
        · exact absurd rfl hx
        · exact List.mem_append_right _ q
theorem new_eq {p : Pa} {l : List En} {x : Px} (h : Rise l) (hs : psane x = true) (hp : asane7 p = true) : ∃ a b, newE p l x = a ++ ⟨x, p⟩ :: b ∧ Rise (a ++ b) ∧ (∀ f ∈ a, ltP f.x x) ∧ (∀ f ∈ b, ltP x f.x) ∧ ∀ e, e ∈ a ++ b ↔ e ∈ l ∧ e.x ≠ x := by
  unfold newE
  rw [hs, hp]
  simp only [Bool.and_self, cond_true]
  cases ht : thereE l x with
  | true =>
    obtain ⟨q, hq⟩ := there_split ht
    have hg : goneE l x = l.take (placeE l x) ++ l.drop (placeE l x + 1) := by unfold goneE; rw [ht]; rfl
    have h' := h
    rw [hq] at h'
    obtain ⟨h1, h2, h3⟩ := rise_parts h'
    refine ⟨l.take (placeE l x), l.drop (placeE l x + 1), ?_, h1, h2, h3, fun e => by rw [← hg]; exact mem_gone h⟩
    have hlt := thereE_lt ht
    simp only [cond_true]
    rw [List.set_eq_take_append_cons_drop, if_pos hlt]
  | false =>
    have hs := List.take_append_drop (placeE l x) l
    refine ⟨l.take (placeE l x), l.drop (placeE l x), by simp, by rw [hs]; exact h, take_lt h x, fun f hf => ?_, fun e => by rw [hs]; exact ⟨fun he => ⟨he, not_there h ht e he⟩, fun he => he.1⟩⟩
    have h1 := drop_ge h x f hf
    have h2 := not_there h ht f (List.mem_of_mem_drop hf)
    refine Classical.byContradiction fun h3 => h2 (ltP_total h1 h3)
theorem rise_new {p : Pa} {l : List En} {x : Px} (h : Rise l) : Rise (newE p l x) := by
  cases hc : (psane x && asane7 p) with
  | false => unfold newE; rw [hc]; exact h
  | true =>
    rw [Bool.and_eq_true] at hc
    obtain ⟨a, b, e, h1, h2, h3, _⟩ := new_eq h hc.1 hc.2
    rw [e]
    exact rise_mid h1 h2 h3
theorem mem_new {p : Pa} {l : List En} {x : Px} (h : Rise l) {e : En} : e ∈ newE p l x ↔ (psane x = true ∧ asane7 p = true ∧ e = ⟨x, p⟩) ∨ (e ∈ l ∧ ¬ (psane x = true ∧ asane7 p = true ∧ e.x = x)) := by
  cases hc : (psane x && asane7 p) with
  | false =>
    unfold newE
    rw [hc]
    simp only [cond_false]
    have : ¬ (psane x = true ∧ asane7 p = true) := by intro h; rw [h.1, h.2] at hc; cases hc
    constructor
    · intro he; exact .inr ⟨he, fun h => this ⟨h.1, h.2.1⟩⟩
    · rintro (h | h)
      · exact absurd ⟨h.1, h.2.1⟩ this
      · exact h.1
  | true =>
    rw [Bool.and_eq_true] at hc
    obtain ⟨a, b, e', h1, h2, h3, h4⟩ := new_eq h hc.1 hc.2
    rw [e']
    have h5 := h4 e
    constructor
    · intro he
      rcases List.mem_append.1 he with q | q
      · have := h5.1 (List.mem_append_left _ q); exact .inr ⟨this.1, fun z => this.2 z.2.2⟩
      · rcases List.mem_cons.1 q with q | q
        · exact .inl ⟨hc.1, hc.2, q⟩
        · have := h5.1 (List.mem_append_right _ q); exact .inr ⟨this.1, fun z => this.2 z.2.2⟩
    · rintro (h | h)
      · rw [h.2.2]; simp
      · rcases List.mem_append.1 (h5.2 ⟨h.1, fun z => h.2 ⟨hc.1, hc.2, z⟩⟩) with q | q
        · exact List.mem_append_left _ q
        · exact List.mem_append_right _ (List.mem_cons_of_mem _ q)
theorem rise_gones : ∀ (g : List Px) {l : List En}, Rise l → Rise (g.foldl goneE l)
  | [], l, h => h
  | x :: g, l, h => rise_gones g (rise_gone h x)
theorem mem_gones : ∀ (g : List Px) {l : List En}, Rise l → ∀ {e : En}, e ∈ g.foldl goneE l ↔ e ∈ l ∧ e.x ∉ g
  | [], l, h, e => by simp
  | x :: g, l, h, e => by
    rw [List.foldl_cons, mem_gones g (rise_gone h x), mem_gone h, List.mem_cons, not_or, and_assoc]
theorem rise_news (p : Pa) : ∀ (m : List Px) {l : List En}, Rise l → Rise (m.foldl (newE p) l)
  | [], l, h => h
  | x :: m, l, h => rise_news p m (rise_new h)
/-- What is told. -/
def Told (p : Pa) (m : List Px) (x : Px) : Prop := x ∈ m ∧ psane x = true ∧ asane7 p = true
theorem mem_news (p : Pa) : ∀ (m : List Px) {l : List En}, Rise l → ∀ {e : En}, e ∈ m.foldl (newE p) l ↔ (Told p m e.x ∧ e.p = p) ∨ (e ∈ l ∧ ¬ Told p m e.x)
  | [], l, h, e => by simp [Told]
  | x :: m, l, h, e => by
    rw [List.foldl_cons, mem_news p m (rise_new h), mem_new h]
    simp only [Told, List.mem_cons]
    constructor
    · rintro (⟨⟨h1, h2, h3⟩, h4⟩ | ⟨h1 | h1, h2⟩)
      · exact .inl ⟨⟨.inr h1, h2, h3⟩, h4⟩
      · obtain ⟨a, b, rfl⟩ := h1
        exact .inl ⟨⟨.inl rfl, a, b⟩, rfl⟩
      · refine .inr ⟨h1.1, fun ⟨a, b, c⟩ => ?_⟩
        rcases a with a | a
        · exact h1.2 ⟨a ▸ b, c, a⟩
        · exact h2 ⟨a, b, c⟩
    · rintro (⟨⟨h1, h2, h3⟩, h4⟩ | ⟨h1, h2⟩)
      · by_cases hm : e.x ∈ m
        · exact .inl ⟨⟨hm, h2, h3⟩, h4⟩
        · rcases h1 with h1 | h1
          · exact .inr ⟨.inl ⟨h1 ▸ h2, h3, En.ext' h1 h4⟩, fun z => hm z.1⟩
          · exact absurd h1 hm
      · exact .inr ⟨.inr ⟨h1, fun ⟨a, b, c⟩ => h2 ⟨.inl c, c ▸ a, b⟩⟩, fun ⟨a, b, c⟩ => h2 ⟨.inr a, b, c⟩⟩
theorem rise_apply (t : List En) (n : Nw) : Rise (applyE t n) := rise_news _ _ (rise_gones _ (rise_known t))
theorem mem_apply {t : List En} {n : Nw} {e : En} : e ∈ applyE t n ↔ (Told n.p n.m e.x ∧ e.p = n.p) ∨ (e ∈ known t ∧ e.x ∉ n.g ∧ ¬ Told n.p n.m e.x) := by
  unfold applyE
  rw [mem_news _ _ (rise_gones _ (rise_known t)), mem_gones _ (rise_known t), and_assoc]
theorem sane_apply {t : List En} {n : Nw} : tsane (applyE t n) = true := by
  refine tsane_iff.2 ⟨rise_apply t n, fun e he => ?_⟩
  rcases mem_apply.1 he with ⟨⟨_, a, b⟩, c⟩ | ⟨a, _⟩
  · exact ⟨a, c ▸ b⟩
  · exact sane_known e a
theorem known_sane {t : List En} (h : tsane t = true) : known t = t := by unfold known; rw [h]; rfl
theorem known_apply {t : List En} {n : Nw} : known (applyE t n) = applyE t n := known_sane sane_apply
theorem eqPx_iff {x y : Px} : eqPx x y = true ↔ x = y := by
  unfold eqPx
  constructor
  · intro h
    simp only [Bool.and_eq_true, beq_iff_eq] at h
    exact Px.ext' h.1 h.2.1
  · rintro rfl; simp
theorem len_eq {a b : Nat} (h : ((a : Int) != (b : Int)) = false) : a = b := by
  have : (a : Int) = (b : Int) := by simpa using h
  omega
theorem i64z : (i64 (0 : Int)) = i64 ((0 : Nat) : Int) := rfl
theorem in_iff {l : List Px} {x : Px} : (l.any fun y => eqPx y x) = true ↔ x ∈ l := by
  rw [List.any_eq_true]
  exact ⟨fun ⟨y, hy, h⟩ => eqPx_iff.1 h ▸ hy, fun h => ⟨x, h, eqPx_iff.2 rfl⟩⟩
theorem zip_get {α β : Type} {l : List α} {m : List β} {j : Nat} {a : α} {b : β} (h : (l.zip m)[j]? = some (a, b)) : l[j]? = some a ∧ m[j]? = some b := by
  rw [List.getElem?_zip_eq_some] at h; exact h
def eqIs (s s' : List Int) : Bool := bif (s.length : Int) != (s'.length : Int) then false else !((s.zip s').any fun p => p.1 != p.2)
theorem zip_all {α : Type} {p : α × α → Bool} (hp : ∀ a b, p (a, b) = false → a = b) : ∀ {s s' : List α}, s.length = s'.length → (s.zip s').any p = false → s = s'
  | [], [], _, _ => rfl
  | a :: s, b :: s', hl, h => by
    simp only [List.zip_cons_cons, List.any_cons, Bool.or_eq_false_iff] at h
    rw [hp a b h.1, zip_all hp (by simpa using hl) h.2]
theorem zip_same {α : Type} {p : α × α → Bool} (hp : ∀ a, p (a, a) = false) : ∀ {s : List α}, (s.zip s).any p = false
  | [] => rfl
  | a :: s => by simp [hp, zip_same hp (s := s)]
theorem eqIs_iff {s s' : List Int} : eqIs s s' = true ↔ s = s' := by
  unfold eqIs
  constructor
  · intro h
    cases hlen : ((s.length : Int) != (s'.length : Int)) with
    | true => rw [hlen] at h; cases h
    | false =>
      rw [hlen] at h
      exact zip_all (p := fun p : Int × Int => p.1 != p.2) (fun a b h => by simpa using h) (len_eq hlen) (by simpa using h)
  · rintro rfl
    rw [zip_same (p := fun p : Int × Int => p.1 != p.2) (fun a => by simp)]
    simp
def eqPa (p q : Pa) : Bool := bif p.o == q.o then bif p.h == q.h then bif p.c == q.c then eqIs p.s q.s else false else false else false
theorem eqPa_iff {p q : Pa} : eqPa p q = true ↔ p = q := by
  unfold eqPa
  constructor
  · intro h
    cases h1 : p.o == q.o <;> cases h2 : p.h == q.h <;> cases h3 : p.c == q.c <;> simp [h1, h2, h3] at h
    exact Pa.ext' (by simpa using h1) (eqIs_iff.1 h) (by simpa using h2) (by simpa using h3)
  · rintro rfl
    simp [eqIs_iff.2 rfl]
def eqEn (e f : En) : Bool := bif eqPx e.x f.x then eqPa e.p f.p else false
theorem eqEn_iff {e f : En} : eqEn e f = true ↔ e = f := by
  unfold eqEn
  constructor
  · intro h
    cases h1 : eqPx e.x f.x with
    | false => rw [h1] at h; cases h
    | true => rw [h1] at h; exact En.ext' (eqPx_iff.1 h1) (eqPa_iff.1 h)
  · rintro rfl
    rw [eqPx_iff.2 rfl]; exact eqPa_iff.2 rfl
def eqEs (l l' : List En) : Bool := bif (l.length : Int) != (l'.length : Int) then false else !((l.zip l').any fun p => !eqEn p.1 p.2)
theorem eqEs_iff {l l' : List En} : eqEs l l' = true ↔ l = l' := by
  unfold eqEs
  constructor
  · intro h
    cases hlen : ((l.length : Int) != (l'.length : Int)) with
    | true => rw [hlen] at h; cases h
    | false =>
      rw [hlen] at h
      exact zip_all (p := fun p : En × En => !eqEn p.1 p.2) (fun a b h => eqEn_iff.1 (by simpa using h)) (len_eq hlen) (by simpa using h)
  · rintro rfl
    rw [zip_same (p := fun p : En × En => !eqEn p.1 p.2) (fun a => by simp [eqEn_iff.2 rfl])]
    simp
def Pa.none : Pa := ⟨0, [], 0, 0⟩
def getE (l : List En) (x : Px) : Option Pa := ((known l).find? fun e => eqPx e.x x).map (·.p)
theorem get_iff {l : List En} {x : Px} {p : Pa} : getE l x = some p ↔ (⟨x, p⟩ : En) ∈ known l := by
  unfold getE
  rw [Option.map_eq_some_iff]
  constructor
  · rintro ⟨e, he, rfl⟩
    have h1 := List.find?_some he
    have h2 := List.mem_of_find?_eq_some he
    simp only [eqPx_iff] at h1
    subst h1
    exact h2
  · intro h
    cases hf : (known l).find? fun e => eqPx e.x x with
    | none =>
      have := List.find?_eq_none.1 hf _ h
      simp [eqPx_iff.2 rfl] at this
    | some e =>
      have h1 := List.find?_some hf
      have h2 := List.mem_of_find?_eq_some hf
      simp only [eqPx_iff] at h1
      exact ⟨e, rfl, by rw [rise_inj (rise_known l) h2 h h1]⟩
theorem get_none {l : List En} {x : Px} : getE l x = none ↔ ∀ e ∈ known l, e.x ≠ x := by
  cases h : getE l x with
  | none =>
    refine ⟨fun _ e he hx => ?_, fun _ => rfl⟩
    subst hx
    have := (get_iff (l := l) (x := e.x) (p := e.p)).2 he
    rw [h] at this; cases this
  | some p => exact ⟨fun q => (by cases q), fun q => absurd rfl (q _ (get_iff.1 h))⟩
theorem get_ok {l : List En} {x : Px} (hs : ∀ e ∈ l, e.ok) : ((getE l x).getD Pa.none).ok := by
  cases h : getE l x with
  | none => exact ⟨by decide, by simp [Pa.none], by simp [Pa.none], by decide, by decide⟩
  | some p => exact (hs _ (known_sub (get_iff.1 h))).p
end Go.Sim

/- What the functions of layer 18 answer: tables, and what they tell of a prefix. -/
namespace Go.Sim
open Go.RowKit Go.Proofs
set_option linter.unusedVariables false
set_option linter.unusedSimpArgs false
set_option linter.unusedSectionVars false
set_option maxRecDepth 100000
variable [Lv]
theorem cmpI_ok (a b : Int) : ok64 (cmpI a b) = true := cmp_ok a b
theorem cmpP_ok (x y : Px) : ok64 (cmpP x y) = true := by unfold cmpP orP; cases (cmpI x.a y.a != 0) <;> simp [cmpI_ok]
def nzI (s : List Int) (i : Nat) : Bool := match s[i]? with | some x => x != 0 | none => false
theorem apK_fnE {β : Type} {N : Nat} {g : FuncId} {ts : List T} {x : T} {K : T → Res β} (h : env.mode g = 0) (hx : callP env N g ts = .ok x) : apK env (recOf env N) (.fn g [] []) ts K = K x := (apK_fn h).trans (by rw [List.nil_append, List.append_nil]; exact cl_ok hx)
theorem f55_ok {M : Nat} {s : List En} {g : FuncId} {q : En → Bool} (hM : big + 1 ≤ M) (hl : s.length ≤ big) (hs : ∀ i ∈ s, (En.t i).wf = true) (hm : env.mode g = 0) (hq : ∀ i ∈ s, callP env M g [En.t i] = .ok (.bool (q i))) :
    ∃ k, callP env (M + 1) 55 [.sl 6 (s.map En.t), .fn g [] []] = .ok (i64 (idxI k)) ∧ k.isSome = s.any q := by
  have hln : (s.map En.t).length = s.length := by simp
  rw [q55, wfs2 (wf_sl hl hs) (wf_fn g)]
  simp only [cond_true, loopL]
  have hget : ∀ j, j < s.length → ∃ x, s[j]? = some x ∧ x ∈ s := fun j hj => ⟨s[j], List.getElem?_eq_getElem hj, List.getElem_mem _⟩
  have hstep : ∀ (j : Nat) x, s[j]? = some x → bodyL env M 55 0 2 ⟨slots 19 [(0, .t (.sl 6 (s.map En.t))), (1, .t (.fn g [] [])), (7, .t (i64 ((s.map En.t).length : Int))), (8, .t (i64 (j : Int)))], []⟩ =
      bif q x then .ok (.ret, ⟨slots 19 [(4, .t (i64 (j : Int)))], []⟩) else .ok (.norm, ⟨slots 19 [(0, .t (.sl 6 (s.map En.t))), (1, .t (.fn g [] [])), (7, .t (i64 ((s.map En.t).length : Int))), (8, .t (i64 ((j + 1 : Nat) : Int)))], []⟩) := fun j x hx => by
    have hj : j < s.length := (List.getElem?_eq_some_iff.1 hx).1
    rw [b55_2, decide_eq_true (by rw [hln]; omega)]
    simp only [cond_true, atT_get (map_get hx)]
    rw [show ∀ K : T → Res (Ex × St), apK env (recOf env M) (.fn g [] []) [En.t x] K = (callP env M g [En.t x]).bind K from fun K => by simp [apK, hm, recOf]]
    rw [hq x (List.mem_of_getElem? hx)]
    simp only [Res.bind_ok, bT_bool, wrap_succ (show j ≤ big by omega)]
  have := iter_seek (B := bodyL env M 55 0 2) (S := fun i => ⟨slots 19 [(0, .t (.sl 6 (s.map En.t))), (1, .t (.fn g [] [])), (7, .t (i64 ((s.map En.t).length : Int))), (8, .t (i64 (i : Int)))], []⟩) (R := fun i => ⟨slots 19 [(4, .t (i64 (i : Int)))], []⟩) (X := ⟨slots 19 [], []⟩) (id := 0)
    (fun i => match s[i]? with | some x => q x | none => false) s.length 0 M (by omega) (fun j _ hj hp => by
      obtain ⟨x, hx, _⟩ := hget j (by omega)
      simp only [hx] at hp
      rw [hstep j x hx, hp]; rfl) (fun j _ hj hp => by
      obtain ⟨x, hx, _⟩ := hget j (by omega)
      simp only [hx] at hp
      rw [hstep j x hx, hp]; rfl) (by rw [b55_2, decide_eq_false (by rw [hln]; omega)]; rfl)
  refine ⟨seekI (fun i => match s[i]? with | some x => q x | none => false) 0 s.length, ?_, seekI_any fun i x hx => by simp only [hx]⟩
  rw [show (i64 (0 : Int)) = i64 ((0 : Nat) : Int) from rfl]
  rw [this]
  cases seekI (fun i => match s[i]? with | some x => q x | none => false) 0 s.length with
  | none => simp only [Res.bind_ok, t55_2_exit0, idxI]
  | some j => simp only [Res.bind_ok, t55_2_ret, idxI]
theorem f24_ok {M : Nat} {e : En} (h : e.ok) (hM : big + 5 ≤ M) : callP env (M + 1) 24 [e.t] = .ok (.bool (ebad e)) := by
  obtain ⟨m, rfl⟩ : ∃ m, M = m + 1 := ⟨M - 1, by omega⟩
  have hw := wfs1 h.wf
  have h1 := f21_ok (M := m) h.x (by omega)
  have h2 := f22_ok (M := m) (by omega) h.p
  simp only [En.t, Px.t, Pa.t] at hw h1 h2 ⊢
  rw [q24, hw]
  simp only [cond_true, List.drop, List.take]
  rw [h1, h2]
  simp only [Res.bind_ok, bT_bool, ebad]
  cases psane e.x <;> rfl
theorem f25_ok {M : Nat} {l : List En} (hM : big + 8 ≤ M) (hl : l.length ≤ big) (hs : ∀ e ∈ l, e.ok) : callP env (M + 1) 25 [.sl 6 (l.map En.t), .fn 24 [] []] = .ok (.bool (l.any ebad)) := by
  obtain ⟨m, rfl⟩ : ∃ m, M = m + 1 := ⟨M - 1, by omega⟩
  obtain ⟨m', rfl⟩ : ∃ m', m = m' + 1 := ⟨m - 1, by omega⟩
  obtain ⟨k, h1, h2⟩ := f55_ok (M := m' + 1) (g := 24) (q := ebad) (by omega) hl (fun e he => (hs e he).wf) rfl (fun e he => f24_ok (hs e he) (by omega))
  rw [q25, wfs2 (wf_sl hl fun e he => (hs e he).wf) (wf_fn 24)]
  simp only [cond_true]
  rw [h1]
  simp only [Res.bind_ok, iT_int, idxI_ge, h2]
theorem f59_gen {M : Nat} {s : List Int} (hM : big + 1 ≤ M) (hl : s.length ≤ big) (hs : ∀ i ∈ s, ok64 i = true) : callP env (M + 1) 59 [.sl 1 (ints s)] = .ok (i64 (match seekI (nzI s) 0 s.length with | some j => s.getD j 0 | none => 0)) := by
  have hln : (ints s).length = s.length := by simp [ints]
  rw [q59, wfs1 (show (T.sl 1 (ints s)).wf = true from wf_sl hl fun i hi => wf_int (hs i hi))]
  simp only [cond_true, loopL]
  have hstep : ∀ (j : Nat) x, s[j]? = some x → bodyL env M 59 0 3 ⟨slots 18 [(3, .t (i64 0)), (6, .t (.sl 1 (ints s))), (7, .t (i64 ((ints s).length : Int))), (8, .t (i64 (j : Int)))], []⟩ =
      bif x != 0 then .ok (.ret, ⟨slots 18 [(2, .t (i64 x))], []⟩) else .ok (.norm, ⟨slots 18 [(3, .t (i64 0)), (6, .t (.sl 1 (ints s))), (7, .t (i64 ((ints s).length : Int))), (8, .t (i64 ((j + 1 : Nat) : Int)))], []⟩) := fun j x hx => by
    have hj : j < s.length := (List.getElem?_eq_some_iff.1 hx).1
    rw [b59_3, decide_eq_true (by rw [hln]; omega)]
    simp only [cond_true, atT_get (ints_get hx), iT_int, wrap_succ (show j ≤ big by omega)]
  have := iter_seek (B := bodyL env M 59 0 3) (S := fun i => ⟨slots 18 [(3, .t (i64 0)), (6, .t (.sl 1 (ints s))), (7, .t (i64 ((ints s).length : Int))), (8, .t (i64 (i : Int)))], []⟩) (R := fun i => ⟨slots 18 [(2, .t (i64 (s.getD i 0)))], []⟩) (X := ⟨slots 18 [(3, .t (i64 0))], []⟩) (id := 0)
    (nzI s) s.length 0 M (by omega) (fun j _ hj hp => by
      have hx : s[j]? = some s[j] := List.getElem?_eq_getElem (by omega)
      simp only [nzI, hx] at hp
      rw [hstep j _ hx, hp]
      simp only [cond_true, List.getD_eq_getElem?_getD, hx, Option.getD_some]) (fun j _ hj hp => by
      have hx : s[j]? = some s[j] := List.getElem?_eq_getElem (by omega)
      simp only [nzI, hx] at hp
      rw [hstep j _ hx, hp]; rfl) (by rw [b59_3, decide_eq_false (by rw [hln]; omega)]; rfl)
  have e0 : ∀ (l : List (Nat × PV)), (8, PV.t (i64 (0 : Int))) :: l = (8, PV.t (i64 ((0 : Nat) : Int))) :: l := fun l => rfl
  rw [e0, this]
  cases seekI (nzI s) 0 s.length with
  | none => simp only [Res.bind_ok, t59_3_exit0]
  | some j => simp only [Res.bind_ok, t59_3_ret]
theorem f59_ok {M : Nat} {u v : Int} (hu : ok64 u = true) (hv : ok64 v = true) (hM : big + 1 ≤ M) : callP env (M + 1) 59 [.sl 1 [i64 u, i64 v]] = .ok (i64 (orP u v)) := by
  have h := f59_gen (M := M) (s := [u, v]) hM (by simp [big_val]) (by simpa using ⟨hu, hv⟩)
  rw [show (T.sl 1 [i64 u, i64 v]) = .sl 1 (ints [u, v]) from rfl, h]
  congr 2
  unfold orP
  cases h0 : (u != 0) with
  | true => simp [seekI, nzI, h0]
  | false =>
    cases h1 : (v != 0) with
    | true => simp [seekI, nzI, h0, h1]
    | false =>
      have : v = 0 := by simpa using h1
      simp [seekI, nzI, h0, h1, this]
theorem f31_ok {M : Nat} {x y : Px} (hx : x.ok) (hy : y.ok) (hM : big + 2 ≤ M) : callP env (M + 1) 31 [x.t, y.t] = .ok (i64 (cmpP x y)) := by
  obtain ⟨m, rfl⟩ : ∃ m, M = m + 1 := ⟨M - 1, by omega⟩
  have hw := wfs2 hx.wf hy.wf
  simp only [Px.t] at hw ⊢
  rw [q31, hw, f60_ok (by omega) hx.a hy.a, f60_ok (by omega) hx.n hy.n]
  simp only [cond_true, Res.bind_ok]
  rw [f59_ok (cmpI_ok _ _) (cmpI_ok _ _) (by omega)]
  rfl
theorem f27_ok {M : Nat} {e e' : En} (h : e.ok) (h' : e'.ok) (hM : big + 3 ≤ M) : callP env (M + 1) 27 [e.t, e'.t] = .ok (i64 (cmpP e.x e'.x)) := by
  obtain ⟨m, rfl⟩ : ∃ m, M = m + 1 := ⟨M - 1, by omega⟩
  have hw := wfs2 h.wf h'.wf
  have h1 := f31_ok (M := m) h.x h'.x (by omega)
  simp only [En.t, Px.t] at hw h1 ⊢
  rw [q27, hw]
  simp only [cond_true, List.drop, List.take]
  rw [h1]
  rfl
theorem f49_ok {M : Nat} {e : En} {x : Px} (h : e.ok) (h' : x.ok) (hM : big + 3 ≤ M) : callP env (M + 1) 49 [e.t, x.t] = .ok (i64 (cmpP e.x x)) := by
  obtain ⟨m, rfl⟩ : ∃ m, M = m + 1 := ⟨M - 1, by omega⟩
  have hw := wfs2 h.wf h'.wf
  have h1 := f31_ok (M := m) h.x h' (by omega)
  simp only [En.t, Px.t] at hw h1 ⊢
  rw [q49, hw]
  simp only [cond_true, List.drop, List.take]
  rw [h1]
  rfl
theorem f26_ok {M : Nat} {l : List En} (hM : big + 8 ≤ M) (hl : l.length ≤ big) (hs : ∀ e ∈ l, e.ok) : callP env (M + 1) 26 [.sl 6 (l.map En.t), .fn 27 [] []] = .ok (.bool (risesE l)) := by
  obtain ⟨m, rfl⟩ : ∃ m, M = m + 1 := ⟨M - 1, by omega⟩
  rw [q26, wfs2 (wf_sl hl fun e he => (hs e he).wf) (wf_fn 27)]
  simp only [cond_true, loopL]
  have hln : (l.map En.t).length = l.length := by simp
  have hstep : ∀ (j : Nat), 1 ≤ j → j < l.length → bodyL env (m + 1) 26 0 2 ⟨slots 24 [(0, .t (.sl 6 (l.map En.t))), (1, .t (.fn 27 [] [])), (5, .t (i64 (j : Int)))], []⟩ =
      bif upE l j then .ok (.ret, ⟨slots 24 [(4, .t (.bool false))], []⟩) else .ok (.norm, ⟨slots 24 [(0, .t (.sl 6 (l.map En.t))), (1, .t (.fn 27 [] [])), (5, .t (i64 ((j + 1 : Nat) : Int)))], []⟩) := fun j h1 hj => by
    have g1 : l[j - 1]? = some l[j - 1] := List.getElem?_eq_getElem (by omega)
    have g2 : l[j]? = some l[j] := List.getElem?_eq_getElem hj
    rw [b26_2, decide_eq_true (by rw [hln]; omega)]
    have hw : IntKind.i64.wrap ((j : Int) - 1) = ((j - 1 : Nat) : Int) := by rw [wrap64 (by have := big_val; omega)]; omega
    simp only [cond_true, hw, atT_get (map_get g1), atT_get (map_get g2)]
    rw [apK_fnE rfl (f27_ok (hs _ (List.getElem_mem _)) (hs _ (List.getElem_mem _)) (by omega))]
    simp only [iT_int, wrap_succ (show j ≤ big by omega), upE, g1, g2]
  have h3 : bodyL env (m + 1) 26 0 2 ⟨slots 24 [(0, .t (.sl 6 (l.map En.t))), (1, .t (.fn 27 [] [])), (5, .t (i64 ((1 + (l.length - 1) : Nat) : Int)))], []⟩ = .ok (.exit 0, ⟨slots 24 [], []⟩) := by
    rw [b26_2, decide_eq_false (by rw [hln]; omega)]; rfl
  have := iter_seek (B := bodyL env (m + 1) 26 0 2) (S := fun i => ⟨slots 24 [(0, .t (.sl 6 (l.map En.t))), (1, .t (.fn 27 [] [])), (5, .t (i64 (i : Int)))], []⟩) (R := fun i => ⟨slots 24 [(4, .t (.bool false))], []⟩) (X := ⟨slots 24 [], []⟩) (id := 0)
    (upE l) (l.length - 1) 1 (m + 1) (by omega) (fun j a b hp => by rw [hstep j a (by omega), hp]; rfl) (fun j a b hp => by rw [hstep j a (by omega), hp]; rfl) h3
  rw [show (i64 (1 : Int)) = i64 ((1 : Nat) : Int) from rfl, this]
  unfold risesE
  cases seekI (upE l) 1 (l.length - 1) with
  | none => simp only [Res.bind_ok, t26_2_exit0, Option.isNone]
  | some j => simp only [Res.bind_ok, t26_2_ret, Option.isNone]
theorem f8_ok {M : Nat} {l : List En} (hM : big + 12 ≤ M) (hl : l.length ≤ big) (hs : ∀ e ∈ l, e.ok) : callP env (M + 1) 8 [.sl 6 (l.map En.t)] = .ok (.bool (tsane l)) := by
  obtain ⟨m, rfl⟩ : ∃ m, M = m + 1 := ⟨M - 1, by omega⟩
  rw [q8, wfs1 (wf_sl hl fun e he => (hs e he).wf), f25_ok (by omega) hl hs, f26_ok (by omega) hl hs]
  simp only [cond_true, Res.bind_ok, bT_bool, tsane]
  cases l.any ebad <;> rfl
theorem f17_ok {M : Nat} {l : List En} (hM : big + 14 ≤ M) (hl : l.length ≤ big) (hs : ∀ e ∈ l, e.ok) : callP env (M + 1) 17 [.sl 6 (l.map En.t)] = .ok (.sl 6 ((known l).map En.t)) := by
  obtain ⟨m, rfl⟩ : ∃ m, M = m + 1 := ⟨M - 1, by omega⟩
  rw [q17, wfs1 (wf_sl hl fun e he => (hs e he).wf), f8_ok (by omega) hl hs]
  simp only [cond_true, Res.bind_ok, bT_bool, known]
  cases tsane l <;> rfl
def S75 (l : List En) (x : Px) (i j : Nat) : St := ⟨slots 49 [(0, .t (.sl 6 (l.map En.t))), (2, .t (.fn 49 [] [])), (4, .ptr 0 0), (8, .t (i64 ((l.map En.t).length : Int))), (9, .t (i64 (i : Int))), (10, .t (i64 (j : Int)))], [.box 28 2 (.t (.agg [i64 x.a, i64 x.n]))]⟩
def X75 (l : List En) (x : Px) (i : Nat) : St := ⟨slots 49 [(0, .t (.sl 6 (l.map En.t))), (2, .t (.fn 49 [] [])), (4, .ptr 0 0), (8, .t (i64 ((l.map En.t).length : Int))), (9, .t (i64 (i : Int)))], [.box 28 2 (.t (.agg [i64 x.a, i64 x.n]))]⟩
theorem b48_exit {m : Nat} {l : List En} {x : Px} {i j : Nat} (h : j ≤ i) : bodyL env m 48 0 3 (S75 l x i j) = .ok (.exit 0, X75 l x i) := by
  unfold S75 X75
  rw [b48_3, decide_eq_false (by omega)]
  simp only [cond_false]
theorem b48_step {m : Nat} {l : List En} {x : Px} {i j : Nat} (h1 : i < j) (h2 : j ≤ l.length) (hl : l.length ≤ big) (h76 : ∀ i, (hi : i < l.length) → callP env m 49 [En.t l[i], .agg [i64 x.a, i64 x.n]] = .ok (i64 (cmpP l[i].x x))) :
    bodyL env m 48 0 3 (S75 l x i j) = .ok (.norm, bif ltE l x ((i + j) / 2) then S75 l x ((i + j) / 2 + 1) j else S75 l x i ((i + j) / 2)) := by
  have g : l[(i + j) / 2]? = some l[(i + j) / 2] := List.getElem?_eq_getElem (by omega)
  unfold S75
  rw [b48_3, decide_eq_true (by omega)]
  simp only [cond_true, wrap_mid (show i ≤ big by omega) (show j ≤ big by omega), atT_get (map_get g)]
  rw [apK_fnE rfl (h76 _ (by omega))]
  simp only [iT_int, wrap_succ (show (i + j) / 2 ≤ big by omega), ltE, g]
  cases decide (cmpP l[(i + j) / 2].x x < 0) <;> simp only [cond_true, cond_false]
theorem q48' (N : Nat) (l : List En) (x : Px) (hw : T.wfs [.sl 6 (l.map En.t), .agg [i64 x.a, i64 x.n], .fn 49 [] []] = true) : callP env (N + 1) 48 [.sl 6 (l.map En.t), .agg [i64 x.a, i64 x.n], .fn 49 [] []] = loopL env N 48 3 (S75 l x 0 l.length) := by
  rw [q48, hw]
  simp only [cond_true, S75, List.length_map]
  rfl
theorem t48' (N : Nat) (l : List En) (x : Px) (i : Nat) (h76 : ∀ i, (hi : i < l.length) → callP env N 49 [En.t l[i], .agg [i64 x.a, i64 x.n]] = .ok (i64 (cmpP l[i].x x))) :
    tailL env N 48 0 3 (outK env 48) (.exit 0) (X75 l x i) = .ok (.tup [i64 (i : Int), .bool (match l[i]? with | some e => cmpP e.x x == 0 | none => false)]) := by
  unfold X75
  rw [t48_3_exit0]
  rcases Nat.lt_or_ge i l.length with h | h
  · have g : l[i]? = some l[i] := List.getElem?_eq_getElem h
    rw [decide_eq_true (by rw [List.length_map]; omega)]
    simp only [cond_true]
    rw [atT_get (map_get g), apK_fnE rfl (h76 _ h)]
    simp only [iT_int, g]
  · have g : l[i]? = none := List.getElem?_eq_none h
    rw [decide_eq_false (by rw [List.length_map]; omega)]
    simp only [cond_false, g]
theorem f48_ok {M : Nat} {l : List En} {x : Px} (hM : big + 5 ≤ M) (hl : l.length ≤ big) (hs : ∀ e ∈ l, e.ok) (hx : x.ok) :
    callP env (M + 1) 48 [.sl 6 (l.map En.t), x.t, .fn 49 [] []] = .ok (.tup [i64 (placeE l x : Int), .bool (thereE l x)]) := by
  obtain ⟨m, rfl⟩ : ∃ m, M = m + 1 := ⟨M - 1, by omega⟩
  have hw := wfs3 (wf_sl (k := 6) hl fun e he => (hs e he).wf) hx.wf (wf_fn 49)
  have h76 : ∀ i, (hi : i < l.length) → callP env (m + 1) 49 [En.t l[i], .agg [i64 x.a, i64 x.n]] = .ok (i64 (cmpP l[i].x x)) := fun i hi => f49_ok (hs _ (List.getElem_mem _)) hx (by omega)
  have main : ∀ (k i j n : Nat), j - i ≤ k → k < n → j ≤ l.length → iterR (bodyL env (m + 1) 48 0 3) n (S75 l x i j) = .ok (.exit 0, X75 l x (bsE (ltE l x) k i j)) := by
    intro k
    induction k with
    | zero =>
      intro i j n h1 h2 h3
      obtain ⟨n, rfl⟩ : ∃ n', n = n' + 1 := ⟨n - 1, by omega⟩
      exact iterR_exit (b48_exit (by omega))
    | succ k ih =>
      intro i j n h1 h2 h3
      obtain ⟨n, rfl⟩ : ∃ n', n = n' + 1 := ⟨n - 1, by omega⟩
      rcases Nat.lt_or_ge i j with h4 | h4
      · rw [iterR_step (b48_step h4 h3 hl h76)]
        unfold bsE
        rw [decide_eq_true h4, cond_true]
        cases ltE l x ((i + j) / 2) with
        | true => simp only [cond_true]; exact ih _ _ _ (by omega) (by omega) h3
        | false => simp only [cond_false]; exact ih _ _ _ (by omega) (by omega) (by omega)
      · rw [iterR_exit (b48_exit h4)]
        unfold bsE
        rw [decide_eq_false (by omega), cond_false]
  have e := q48' (m + 1) l x hw
  rw [show x.t = .agg [i64 x.a, i64 x.n] from rfl, e]
  unfold loopL
  rw [main l.length 0 l.length (m + 1) (by omega) (by omega) (Nat.le_refl _)]
  rw [Res.bind_ok, t48' (m + 1) l x _ h76]
  rfl
theorem f18_ok {M : Nat} {l : List En} {x : Px} (hM : big + 7 ≤ M) (hl : l.length ≤ big) (hs : ∀ e ∈ l, e.ok) (hx : x.ok) :
    callP env (M + 1) 18 [.sl 6 (l.map En.t), x.t] = .ok (.tup [i64 (placeE l x : Int), .bool (thereE l x)]) := by
  obtain ⟨m, rfl⟩ : ∃ m, M = m + 1 := ⟨M - 1, by omega⟩
  have hw := wfs2 (wf_sl (k := 6) hl fun e he => (hs e he).wf) hx.wf
  have h := f48_ok (M := m) (by omega) hl hs hx
  simp only [Px.t] at hw h ⊢
  rw [q18, hw, h]
  rfl
theorem f47_ok {M : Nat} {l : List En} (hM : big + 1 ≤ M) (hl : l.length ≤ big) (hs : ∀ e ∈ l, e.ok) : callP env (M + 1) 47 [.sl 6 (l.map En.t)] = .ok (.bool (fewE l)) := by
  have hln : (l.map En.t).length = l.length := by simp
  rw [q47, wfs1 (wf_sl hl fun e he => (hs e he).wf)]
  simp only [cond_true, loopL]
  have hstep : ∀ (j : Nat) e, l[j]? = some e → bodyL env M 47 0 2 ⟨slots 21 [(0, .t (.sl 6 (l.map En.t))), (3, .t (i64 (j : Int)))], []⟩ =
      bif decide ((e.p.s.length : Int) > 100) then .ok (.ret, ⟨slots 21 [(2, .t (.bool false))], []⟩) else .ok (.norm, ⟨slots 21 [(0, .t (.sl 6 (l.map En.t))), (3, .t (i64 ((j + 1 : Nat) : Int)))], []⟩) := fun j e hx => by
    have hj : j < l.length := (List.getElem?_eq_some_iff.1 hx).1
    rw [b47_2, decide_eq_true (show (j : Int) < ((l.map En.t).length : Int) by rw [hln]; omega)]
    have hp : (En.t e).partD 3 1 false = .sl 1 (ints e.p.s) := rfl
    have hi : (ints e.p.s).length = e.p.s.length := by simp [ints]
    simp only [cond_true, atT_get (map_get hx), hp, sllT, hi, wrap_succ (show j ≤ big by omega)]
  have := iter_seek (B := bodyL env M 47 0 2) (S := fun i => ⟨slots 21 [(0, .t (.sl 6 (l.map En.t))), (3, .t (i64 (i : Int)))], []⟩) (R := fun i => ⟨slots 21 [(2, .t (.bool false))], []⟩) (X := ⟨slots 21 [(0, .t (.sl 6 (l.map En.t)))], []⟩) (id := 0)
    (longE l) l.length 0 M (by omega) (fun j _ hj hp => by
      have hx : l[j]? = some l[j] := List.getElem?_eq_getElem (by omega)
      simp only [longE, hx] at hp
      rw [hstep j _ hx, hp]; rfl) (fun j _ hj hp => by
      have hx : l[j]? = some l[j] := List.getElem?_eq_getElem (by omega)
      simp only [longE, hx] at hp
      rw [hstep j _ hx, hp]; rfl) (by rw [b47_2, decide_eq_false (by rw [hln]; omega)]; rfl)
  have hany : (seekI (longE l) 0 l.length).isSome = l.any fun e => decide ((e.p.s.length : Int) > 100) := seekI_any fun i e hx => by simp only [longE, hx]
  rw [show (i64 (0 : Int)) = i64 ((0 : Nat) : Int) from rfl, this]
  unfold fewE
  rw [← hany]
  cases seekI (longE l) 0 l.length with
  | none => simp only [Res.bind_ok, t47_2_exit0, hln, Option.isSome, Bool.not_false, Bool.true_and]
  | some j => simp only [Res.bind_ok, t47_2_ret, Option.isSome, Bool.not_true, Bool.false_and]
theorem f6_ok {M : Nat} {l : List En} {x : Px} (hM : big + 16 ≤ M) (hl : l.length ≤ big) (hs : ∀ e ∈ l, e.ok) (hx : x.ok) :
    callP env (M + 1) 6 [.sl 6 (l.map En.t), x.t] = .ok (.tup [((getE l x).getD Pa.none).t, .bool (getE l x).isSome]) := by
  obtain ⟨m, rfl⟩ : ∃ m, M = m + 1 := ⟨M - 1, by omega⟩
  have hw := wfs2 (wf_sl (k := 6) hl fun e he => (hs e he).wf) hx.wf
  have h43 := f17_ok (M := m) (l := l) (by omega) hl hs
  have hkl := known_len l
  have h44 := f18_ok (M := m) (l := known l) (x := x) (by omega) (by omega) (fun e he => hs e (known_sub he)) hx
  simp only [Px.t] at hw h44 ⊢
  rw [q6, hw, h43]
  simp only [cond_true, Res.bind_ok]
  rw [h44]
  simp only [Res.bind_ok, compT, List.getElem?_cons_zero, List.getElem?_cons_succ, bT_bool]
  cases ht : thereE (known l) x with
  | false =>
    have : getE l x = none := get_none.2 (not_there (rise_known l) ht)
    rw [this]
    rfl
  | true =>
    have hlt := thereE_lt ht
    obtain ⟨p, hp⟩ := there_split ht
    have hg : (known l)[placeE (known l) x]? = some ⟨x, p⟩ := by
      rw [hp] 
      rw [List.getElem?_append_right (by rw [List.length_take, ← hp]; omega)]
      rw [List.length_take, ← hp, Nat.min_eq_left (by omega), Nat.sub_self]
      rfl
    have hgs : getE l x = some p := get_iff.2 (List.mem_of_getElem? hg)
    rw [hgs]
    generalize placeE (known l) x = k at hg
    simp only [Bool.not_true, cond_false, anyT, slT, if_true, atT_get (map_get hg)]
    rfl
end Go.Sim

/- Which of two routes is better: an order. -/
namespace Go.Sim
open Go.RowKit Go.Proofs
set_option linter.unusedVariables false
set_option linter.unusedSimpArgs false
set_option linter.unusedSectionVars false

theorem cmpI_swap (a b : Int) : cmpI b a = - cmpI a b := by
  unfold cmpI
  split <;> split <;> omega
theorem cmpI_iff {a b : Int} : (cmpI a b < 0 ↔ a < b) ∧ (cmpI a b ≤ 0 ↔ a ≤ b) := by
  unfold cmpI
  split
  · omega
  · split <;> omega
theorem cmpI_ne {a b : Int} (h : a ≠ b) : cmpI a b = -1 ∨ cmpI a b = 1 := by
  unfold cmpI
  split
  · exact .inl rfl
  · split
    · exact .inr rfl
    · omega
theorem cmpL_swap : ∀ (l m : List Int), cmpL m l = - cmpL l m
  | [], [] => rfl
  | [], _ :: _ => rfl
  | _ :: _, [] => rfl
  | a :: l, b :: m => by
    simp only [cmpL]
    by_cases h : a = b
    · rw [if_pos h, if_pos h.symm]; exact cmpL_swap l m
    · rw [if_neg h, if_neg (Ne.symm h)]; exact cmpI_swap a b
theorem cmpL_trans : ∀ {l m k : List Int}, cmpL l m ≤ 0 → cmpL m k ≤ 0 → cmpL l k ≤ 0
  | [], _, [], _, _ => Int.le_refl _
  | [], _, _ :: _, _, _ => by show (-1 : Int) ≤ 0; decide
  | _ :: _, [], _, h, _ => absurd h (by show ¬ (1 : Int) ≤ 0; decide)
  | _ :: _, _ :: _, [], _, h => absurd h (by show ¬ (1 : Int) ≤ 0; decide)
  | a :: l, b :: m, c :: k, h1, h2 => by
    simp only [cmpL] at h1 h2 ⊢
    by_cases e1 : a = b
    · subst e1
      rw [if_pos rfl] at h1
      by_cases e2 : a = c
      · rw [if_pos e2] at h2 ⊢; exact cmpL_trans h1 h2
      · rw [if_neg e2] at h2 ⊢; exact h2
    · rw [if_neg e1] at h1
      have h3 := cmpI_iff.2.1 h1
      by_cases e2 : b = c
      · subst e2
        rw [if_neg e1]; exact h1
      · rw [if_neg e2] at h2
        have h4 := cmpI_iff.2.1 h2
        rw [if_neg (by omega)]
        exact cmpI_iff.2.2 (by omega)
theorem cmpL_append : ∀ {l m : List Int}, l.length = m.length → ∀ (t u : List Int), cmpL (l ++ t) (m ++ u) = if cmpL l m = 0 then cmpL t u else cmpL l m
  | [], [], _, t, u => by simp [cmpL]
  | [], _ :: _, h, _, _ => by simp at h
  | _ :: _, [], h, _, _ => by simp at h
  | a :: l, b :: m, h, t, u => by
    have e1 : cmpL (a :: l) (b :: m) = if a = b then cmpL l m else cmpI a b := rfl
    have e2 : cmpL (a :: (l ++ t)) (b :: (m ++ u)) = if a = b then cmpL (l ++ t) (m ++ u) else cmpI a b := rfl
    show cmpL (a :: (l ++ t)) (b :: (m ++ u)) = _
    by_cases e : a = b
    · rw [if_pos e] at e1 e2
      rw [e1, e2]; exact cmpL_append (by simpa using h) t u
    · rw [if_neg e] at e1 e2
      rw [e1, e2, if_neg (fun h => e (cmpI_zero.1 h))]
/-- A route as numbers: the lesser ones are better. -/
def keyR (r : Rt) : List Int := [-r.n, r.p.s.length, r.p.o] ++ (r.p.s ++ [r.p.h, r.p.c, r.f])
theorem cmpI_if (x y : Int) (l m : List Int) : cmpL (x :: l) (y :: m) = if cmpI x y = 0 then cmpL l m else cmpI x y := by
  simp only [cmpL]
  by_cases e : x = y
  · rw [if_pos e, if_pos (cmpI_zero.2 e)]
  · rw [if_neg e, if_neg (fun h => e (cmpI_zero.1 h))]
theorem cmpI_neg (a b : Int) : cmpI (-a) (-b) = cmpI b a := by
  unfold cmpI
  split <;> split <;> first | rfl | omega | (split <;> first | rfl | omega)
theorem cmpR_key (a b : Rt) : cmpR a b = cmpL (keyR a) (keyR b) := by
  unfold cmpR keyR
  simp only [fnz, List.cons_append, List.nil_append, cmpI_if, cmpI_neg]
  by_cases h1 : cmpI b.n a.n = 0
  case neg => rw [if_neg h1, if_neg h1]
  rw [if_pos h1, if_pos h1]
  by_cases h2 : cmpI (a.p.s.length : Int) (b.p.s.length : Int) = 0
  case neg => rw [if_neg h2, if_neg h2]
  rw [if_pos h2, if_pos h2]
  by_cases h3 : cmpI a.p.o b.p.o = 0
  case neg => rw [if_neg h3, if_neg h3]
  rw [if_pos h3, if_pos h3, cmpL_append (by have := cmpI_zero.1 h2; omega)]
  simp only [cmpI_if]
  rfl
theorem cmpR_swap (a b : Rt) : cmpR b a = - cmpR a b := by rw [cmpR_key, cmpR_key, cmpL_swap]
theorem cmpR_trans {a b c : Rt} (h1 : cmpR a b ≤ 0) (h2 : cmpR b c ≤ 0) : cmpR a c ≤ 0 := by
  rw [cmpR_key] at h1 h2 ⊢; exact cmpL_trans h1 h2
theorem cmpR_total (a b : Rt) : cmpR a b ≤ 0 ∨ cmpR b a ≤ 0 := by rw [cmpR_swap a b]; omega
theorem cmpR_anti {a b : Rt} (h1 : cmpR a b ≤ 0) (h2 : cmpR b a ≤ 0) : a = b := cmpR_zero.1 (by rw [cmpR_swap a b] at h2; omega)
/-- The best one. -/
def bestR : List Rt → Option Rt
  | [] => none
  | r :: l => some (l.foldl (fun b r => if cmpR r b < 0 then r else b) r)
theorem best_fold : ∀ (l : List Rt) (b : Rt), (l.foldl (fun b r => if cmpR r b < 0 then r else b) b = b ∨ l.foldl (fun b r => if cmpR r b < 0 then r else b) b ∈ l) ∧ cmpR (l.foldl (fun b r => if cmpR r b < 0 then r else b) b) b ≤ 0 ∧ ∀ r ∈ l, cmpR (l.foldl (fun b r => if cmpR r b < 0 then r else b) b) r ≤ 0
  | [], b => ⟨.inl rfl, by show cmpR b b ≤ 0; rw [cmpR_zero.2 rfl]; exact Int.le_refl _, by simp⟩
  | x :: l, b => by
    rw [List.foldl_cons]
    by_cases h : cmpR x b < 0
    · rw [if_pos h]
      obtain ⟨h1, h2, h3⟩ := best_fold l x
      refine ⟨.inr ?_, cmpR_trans h2 (by omega), fun r hr => (List.mem_cons.1 hr).elim (fun e => e ▸ h2) (h3 r)⟩
      rcases h1 with h1 | h1
      · rw [h1]; exact List.mem_cons_self
      · exact List.mem_cons_of_mem _ h1
    · rw [if_neg h]
      obtain ⟨h1, h2, h3⟩ := best_fold l b
      refine ⟨h1.imp id (List.mem_cons_of_mem _), h2, fun r hr => (List.mem_cons.1 hr).elim (fun e => ?_) (h3 r)⟩
      subst e
      have h4 : cmpR b r ≤ 0 := by have := cmpR_swap b r; omega
      exact cmpR_trans h2 h4
theorem best_spec {l : List Rt} {r : Rt} (h : bestR l = some r) : r ∈ l ∧ ∀ q ∈ l, cmpR r q ≤ 0 := by
  cases l with
  | nil => cases h
  | cons x l =>
    simp only [bestR, Option.some.injEq] at h
    obtain ⟨h1, h2, h3⟩ := best_fold l x
    rw [h] at h1 h2 h3
    exact ⟨h1.elim (fun e => e ▸ List.mem_cons_self) (List.mem_cons_of_mem _), fun q hq => (List.mem_cons.1 hq).elim (fun e => e ▸ h2) (h3 q)⟩
/-- The best one depends on which routes there are, not on their order. -/
theorem best_unique {l : List Rt} {r : Rt} (hm : r ∈ l) (hb : ∀ q ∈ l, cmpR r q ≤ 0) : bestR l = some r := by
  cases hl : bestR l with
  | none => cases l with
    | nil => cases hm
    | cons x l => cases hl
  | some q =>
    obtain ⟨h1, h2⟩ := best_spec hl
    rw [cmpR_anti (h2 r hm) (hb q h1)]
end Go.Sim

/- Which routes a node takes, on plain data. -/
namespace Go.Sim
open Go.RowKit Go.Proofs
set_option linter.unusedVariables false
set_option linter.unusedSimpArgs false
set_option linter.unusedSectionVars false

/-- The routes to a prefix. -/
def thoseR (c : Cf) (t : List (List En)) (x : Px) : List Rt := if csane c then (if c.w.contains x then [ownR c.d] else []) ++ (List.range (min t.length c.s.length)).filterMap fun (k : Nat) => (t[k]?).bind fun l => (getE l x).bind fun p => inR c (k : Int) x p else []
/-- A prefix, laid where it belongs, once. -/
def putP (x : Px) : List Px → List Px
  | [] => [x]
  | y :: l => if cmpP x y < 0 then x :: y :: l else if cmpP x y = 0 then y :: l else y :: putP x l
def seenL (c : Cf) (t : List (List En)) : List Px := c.w ++ (t.take c.s.length).flatMap fun l => l.map En.x
def keysR (c : Cf) (t : List (List En)) : List Px := (seenL c t).foldl (fun l x => putP x l) []
def choiceR (c : Cf) (t : List (List En)) (x : Px) : Option Ch := (bestR (thoseR c t x)).map (Ch.mk x)
/-- The routes that are taken. -/
def locR (c : Cf) (t : List (List En)) : List Ch := (keysR c t).filterMap (choiceR c t)
def getC (l : List Ch) (x : Px) : Option Rt := (l.find? fun c => c.x == x).map Ch.r

theorem mem_put {x y : Px} : ∀ {l : List Px}, y ∈ putP x l ↔ y = x ∨ y ∈ l
  | [] => by simp [putP]
  | z :: l => by
    simp only [putP]
    split
    · simp
    · split
      · rename_i h1 h2
        have : x = z := by
          rcases cmpP_cases x z with ⟨_, h⟩ | ⟨_, h⟩ | ⟨h, _⟩
          · omega
          · omega
          · exact h
        subst this
        simp
      · rw [List.mem_cons, mem_put, List.mem_cons]
        constructor
        · rintro (h | h | h)
          · exact .inr (.inl h)
          · exact .inl h
          · exact .inr (.inr h)
        · rintro (h | h | h)
          · exact .inr (.inl h)
          · exact .inl h
          · exact .inr (.inr h)
theorem put_sorted {x : Px} : ∀ {l : List Px}, l.Pairwise ltP → (putP x l).Pairwise ltP
  | [], _ => by simp [putP]
  | z :: l, h => by
    simp only [putP]
    obtain ⟨h1, h2⟩ := List.pairwise_cons.1 h
    split
    · rename_i h3
      have h3 := cmpP_lt.1 h3
      refine List.pairwise_cons.2 ⟨fun y hy => ?_, h⟩
      rcases List.mem_cons.1 hy with rfl | hy
      · exact h3
      · exact ltP_trans h3 (h1 y hy)
    · split
      · exact h
      · rename_i h3 h4
        refine List.pairwise_cons.2 ⟨fun y hy => ?_, put_sorted h2⟩
        rcases mem_put.1 hy with rfl | hy
        · rcases cmpP_cases y z with ⟨_, h⟩ | ⟨h, _⟩ | ⟨_, h⟩
          · omega
          · exact h
          · omega
        · exact h1 y hy
theorem puts_mem {y : Px} : ∀ (m l : List Px), y ∈ m.foldl (fun l x => putP x l) l ↔ y ∈ m ∨ y ∈ l
  | [], l => by simp
  | x :: m, l => by
    rw [List.foldl_cons, puts_mem m, mem_put, List.mem_cons]
    constructor
    · rintro (h | h | h)
      · exact .inl (.inr h)
      · exact .inl (.inl h)
      · exact .inr h
    · rintro ((h | h) | h)
      · exact .inr (.inl h)
      · exact .inl h
      · exact .inr (.inr h)
theorem puts_sorted : ∀ (m l : List Px), l.Pairwise ltP → (m.foldl (fun l x => putP x l) l).Pairwise ltP
  | [], l, h => h
  | x :: m, l, h => puts_sorted m _ (put_sorted h)
theorem mem_keys {c : Cf} {t : List (List En)} {x : Px} : x ∈ keysR c t ↔ x ∈ seenL c t := by
  unfold keysR
  rw [puts_mem]; simp
theorem keys_sorted (c : Cf) (t : List (List En)) : (keysR c t).Pairwise ltP := puts_sorted _ _ List.Pairwise.nil
theorem choice_some {c : Cf} {t : List (List En)} {x : Px} {e : Ch} : choiceR c t x = some e ↔ e.x = x ∧ bestR (thoseR c t x) = some e.r := by
  unfold choiceR
  rw [Option.map_eq_some_iff]
  constructor
  · rintro ⟨r, h, rfl⟩; exact ⟨rfl, h⟩
  · rintro ⟨rfl, h⟩; exact ⟨e.r, h, rfl⟩
/-- Choices stand by rising prefixes. -/
def RiseC (l : List Ch) : Prop := l.Pairwise fun a b => ltP a.x b.x
theorem loc_sorted (c : Cf) (t : List (List En)) : RiseC (locR c t) := by
  refine List.Pairwise.filterMap _ (fun a b h a' h1 b' h2 => ?_) (keys_sorted c t)
  rw [(choice_some.1 h1).1, (choice_some.1 h2).1]; exact h
theorem riseC_ext : ∀ {l l' : List Ch}, RiseC l → RiseC l' → (∀ e, e ∈ l ↔ e ∈ l') → l = l'
  | [], [], _, _, _ => rfl
  | [], e :: l, _, _, h => absurd ((h e).2 List.mem_cons_self) (by simp)
  | e :: l, [], _, _, h => absurd ((h e).1 List.mem_cons_self) (by simp)
  | e :: l, e' :: l', h1, h2, h => by
    obtain ⟨a1, a2⟩ := List.pairwise_cons.1 h1
    obtain ⟨b1, b2⟩ := List.pairwise_cons.1 h2
    have he : e = e' := by
      rcases List.mem_cons.1 ((h e).1 List.mem_cons_self) with h3 | h3
      · exact h3
      · rcases List.mem_cons.1 ((h e').2 List.mem_cons_self) with h4 | h4
        · exact h4.symm
        · exact absurd (a1 _ h4) (ltP_asymm (b1 _ h3))
    subst he
    rw [riseC_ext a2 b2 fun x => ?_]
    constructor
    · intro hx
      rcases List.mem_cons.1 ((h x).1 (List.mem_cons_of_mem _ hx)) with h3 | h3
      · exact absurd (h3 ▸ a1 x hx) (ltP_irrefl _)
      · exact h3
    · intro hx
      rcases List.mem_cons.1 ((h x).2 (List.mem_cons_of_mem _ hx)) with h3 | h3
      · exact absurd (h3 ▸ b1 x hx) (ltP_irrefl _)
      · exact h3
theorem mem_those {c : Cf} {t : List (List En)} {x : Px} {r : Rt} : r ∈ thoseR c t x ↔ csane c = true ∧ ((x ∈ c.w ∧ r = ownR c.d) ∨ ∃ (k : Nat) (l : List En) (p : Pa), k < c.s.length ∧ t[k]? = some l ∧ getE l x = some p ∧ inR c k x p = some r) := by
  unfold thoseR
  cases hc : csane c with
  | false => simp
  | true =>
    simp only [if_true, true_and, List.mem_append, List.mem_filterMap, List.mem_range]
    constructor
    · rintro (h | ⟨k, h1, h2⟩)
      · split at h
        · rename_i h3
          rw [List.mem_singleton] at h
          exact .inl ⟨List.contains_iff_mem.1 h3, h⟩
        · simp at h
      · rw [Option.bind_eq_some_iff] at h2
        obtain ⟨l, h2, h3⟩ := h2
        rw [Option.bind_eq_some_iff] at h3
        obtain ⟨p, h3, h4⟩ := h3
        exact .inr ⟨k, l, p, by omega, h2, h3, h4⟩
    · rintro (⟨h1, h2⟩ | ⟨k, l, p, h1, h2, h3, h4⟩)
      · rw [if_pos (List.contains_iff_mem.2 h1)]; exact .inl (by rw [h2]; simp)
      · have := (List.getElem?_eq_some_iff.1 h2).1
        exact .inr ⟨k, by omega, by rw [h2, Option.bind_some, h3, Option.bind_some, h4]⟩
theorem those_seen {c : Cf} {t : List (List En)} {x : Px} {r : Rt} (h : r ∈ thoseR c t x) : x ∈ seenL c t := by
  unfold seenL
  rw [List.mem_append]
  rcases (mem_those.1 h).2 with ⟨h, _⟩ | ⟨k, l, p, h1, h2, h3, h4⟩
  · exact .inl h
  · refine .inr (List.mem_flatMap.2 ⟨l, ?_, List.mem_map.2 ⟨⟨x, p⟩, known_sub (get_iff.1 h3), rfl⟩⟩)
    exact List.mem_of_getElem? (i := k) (by rw [List.getElem?_take, if_pos h1]; exact h2)
theorem mem_loc {c : Cf} {t : List (List En)} {e : Ch} : e ∈ locR c t ↔ bestR (thoseR c t e.x) = some e.r := by
  unfold locR
  rw [List.mem_filterMap]
  constructor
  · rintro ⟨x, h1, h2⟩
    obtain ⟨h3, h4⟩ := choice_some.1 h2
    subst h3; exact h4
  · intro h
    exact ⟨e.x, mem_keys.2 (those_seen (best_spec h).1), choice_some.2 ⟨rfl, h⟩⟩
theorem getC_some {l : List Ch} (h : RiseC l) {x : Px} {r : Rt} : getC l x = some r ↔ ⟨x, r⟩ ∈ l := by
  unfold getC
  rw [Option.map_eq_some_iff]
  constructor
  · rintro ⟨e, h1, h2⟩
    have h3 := List.find?_some h1
    have h4 := List.mem_of_find?_eq_some h1
    have h5 : e.x = x := by simpa using h3
    subst h2; subst h5; exact h4
  · intro hm
    cases hf : l.find? (fun c => c.x == x) with
    | none => exact absurd (List.find?_eq_none.1 hf _ hm) (by simp)
    | some e =>
      have h3 := List.find?_some hf
      have h4 := List.mem_of_find?_eq_some hf
      have h5 : e.x = x := by simpa using h3
      refine ⟨e, rfl, ?_⟩
      clear hf h3
      induction l with
      | nil => cases hm
      | cons a l ih =>
        obtain ⟨a1, a2⟩ := List.pairwise_cons.1 h
        rcases List.mem_cons.1 h4 with e1 | e1 <;> rcases List.mem_cons.1 hm with e2 | e2
        · rw [e1, ← e2]
        · have := a1 _ e2; rw [← e1, h5] at this; exact absurd this (ltP_irrefl _)
        · have := a1 _ e1; rw [← e2, h5] at this; exact absurd this (ltP_irrefl _)
        · exact ih a2 e2 e1
theorem get_loc {c : Cf} {t : List (List En)} {x : Px} : getC (locR c t) x = bestR (thoseR c t x) := by
  refine Option.ext fun r => ?_
  rw [getC_some (loc_sorted c t), mem_loc]
/-- Whatever order the prefixes are visited in, what has been sorted is one list. -/
theorem loc_unique {c : Cf} {t : List (List En)} {vis : List Px} {ys : List Ch} (hv : ∀ x, x ∈ vis ↔ x ∈ seenL c t) (hn : vis.Nodup) (hp : ys.Perm (vis.filterMap (choiceR c t))) (hs : ys.Pairwise fun a b => ¬ cmpP b.x a.x < 0) : ys = locR c t := by
  have hmem : ∀ e, e ∈ ys ↔ e ∈ locR c t := fun e => by
    rw [hp.mem_iff, mem_loc, List.mem_filterMap]
    constructor
    · rintro ⟨x, h1, h2⟩
      obtain ⟨h3, h4⟩ := choice_some.1 h2
      subst h3; exact h4
    · intro h
      exact ⟨e.x, (hv _).2 (those_seen (best_spec h).1), choice_some.2 ⟨rfl, h⟩⟩
  have hd : (vis.filterMap (choiceR c t)).Pairwise fun a b => a.x ≠ b.x := by
    refine List.Pairwise.filterMap _ (fun a b h a' h1 b' h2 => ?_) hn
    rw [(choice_some.1 h1).1, (choice_some.1 h2).1]; exact h
  have hd2 : ys.Pairwise fun a b => a.x ≠ b.x := hp.symm.pairwise hd fun {a b} h => Ne.symm h
  refine riseC_ext ?_ (loc_sorted c t) hmem
  refine List.Pairwise.imp₂ (fun a b h1 h2 => ?_) hs hd2
  rcases cmpP_cases b.x a.x with ⟨_, h⟩ | ⟨h, _⟩ | ⟨h, _⟩
  · omega
  · exact h
  · exact absurd h.symm h2
end Go.Sim

/- What the functions of layer 19 answer: the node's. -/
namespace Go.Sim
open Go.RowKit Go.Proofs
set_option linter.unusedVariables false
set_option linter.unusedSimpArgs false
set_option linter.unusedSectionVars false
set_option maxRecDepth 100000
theorem eqPx_dec (x y : Px) : (x.a == y.a && (x.n == y.n && true)) = decide (x = y) := by
  rw [Bool.eq_iff_iff, decide_eq_true_eq]
  simp only [Bool.and_true, Bool.and_eq_true, beq_iff_eq]
  exact ⟨fun h => Px.ext' h.1 h.2, fun h => by rw [h]; exact ⟨rfl, rfl⟩⟩
theorem eqLs_dec (x y : Px) : T.eqLs [0, 0] [i64 x.a, i64 x.n] [i64 y.a, i64 y.n] = some (decide (x = y)) := by rw [← eqPx_dec]; rfl
theorem eqLs_cells (x y : Px) : T.eqLs [0, 0] x.t.cells [i64 y.a, i64 y.n] = some (decide (x = y)) := eqLs_dec x y
theorem ch_x (c : Ch) : c.t.partD 0 2 true = c.x.t := rfl
theorem ch_r (c : Ch) : c.t.partD 2 6 true = c.r.t := rfl
theorem ch_chk {c : Ch} : (c.t.cells.length == 8 && !c.t.isTup) = true := rfl
theorem tabs_get {t : List (List En)} {i : Nat} {l : List En} (h : t[i]? = some l) : (tabT t)[i]? = some (.sl 6 (l.map En.t)) := map_get h
theorem tabs_len (t : List (List En)) : (tabT t).length = t.length := by simp [tabT]
def okT (t : List (List En)) : Prop := okL (okL En.ok) t
theorem okT.wf {t : List (List En)} (h : okT t) : (T.sl 1 (tabT t)).wf = true := wf_okL (p := okL En.ok) (fun l hl => wf_okL (fun _ => En.ok.wf) hl) h
variable [Lv]
theorem f65_ok {M : Nat} {l : List Px} {x : Px} (hM : big + 1 ≤ M) (hl : okL Px.ok l) (hx : x.ok) : callP env (M + 1) 65 [.sl 2 (l.map Px.t), x.t] = .ok (i64 (idxI (l.findIdx? fun y => decide (y = x)))) := by
  rw [q65, W_ok (wfs2 (wf_okL (fun _ h => Px.ok.wf h) hl) hx.wf)]
  have hb := hl.1
  have step : ∀ j y, l[j]? = some y → bodyL env M 65 0 2 (sIxP l x (j : Nat)) = bif decide (y = x) then .ok (.ret, ⟨slots 19 [(4, .t (i64 (j : Nat)))], []⟩) else .ok (.norm, sIxP l x ((j + 1 : Nat) : Int)) := fun j y hy => by
    have hj : j < l.length := (List.getElem?_eq_some_iff.1 hy).1
    rw [b65_2, decide_eq_true (by rw [List.length_map]; omega)]
    simp only [cond_true]
    rw [atT_get (map_get hy), show y.t.cells = [i64 y.a, i64 y.n] from rfl, eqLs_dec, wrap_succ (show j ≤ big by omega)]
    simp only [eq_comm (a := x)]
  have he : bodyL env M 65 0 2 (sIxP l x (l.length : Nat)) = .ok (.exit 0, ⟨slots 19 [], []⟩) := by
    rw [b65_2, decide_eq_false (by rw [List.length_map]; omega)]; rfl
  exact idx_loop (R := fun i => ⟨slots 19 [(4, .t (i64 i))], []⟩) (fun y => decide (y = x)) (by omega) step he (t65_2_ret M) (t65_2_exit0 M)
theorem f42_ok {M : Nat} {l : List Px} {x : Px} (hM : big + 2 ≤ M) (hl : okL Px.ok l) (hx : x.ok) : callP env (M + 1) 42 [.sl 2 (l.map Px.t), x.t] = .ok (.bool (l.contains x)) := by
  obtain ⟨m, rfl⟩ := exM (show 1 ≤ M by omega)
  rw [q42, W_ok (wfs2 (wf_okL (fun _ h => Px.ok.wf h) hl) hx.wf), clI_ok (f65_ok (by omega) hl hx), idxI_ge, findIdx_any]
  have : (l.any fun y => decide (y = x)) = l.contains x := by
    rw [Bool.eq_iff_iff, List.any_eq_true, List.contains_iff_mem]
    simp
  rw [this]
theorem f32_ok {M : Nat} {l : List Ch} {g : FuncId} {cs : List T} {q : Ch → Bool} (hM : big + 1 ≤ M) (hl : okL Ch.ok l) (hw : T.wfs cs = true) (hm : env.mode g = 0) (hq : ∀ r ∈ l, callP env M g (r.t :: cs) = .ok (.bool (q r))) :
    callP env (M + 1) 32 [.sl 8 (l.map Ch.t), .fn g [] cs] = .ok (i64 (idxI (l.findIdx? q))) := by
  rw [q32, W_ok (wfs2 (wf_okL (fun _ h => Ch.ok.wf h) hl) (wf_clo hw))]
  exact idx_gen Ch.t (S := sIfC l _) q (by have := hl.1; omega) hl.1 (b32_2 M l _) (t32_2_ret M) (t32_2_exit0 M) fun x hx K => (apK_fn hm).trans (cl_ok (hq x hx))
def getC' (l : List Ch) (x : Px) : Rt × Bool := (((getC l x).getD zRt), (getC l x).isSome)
theorem f10_ok {M : Nat} {l : List Ch} {x : Px} (hM : big + 3 ≤ M) (hl : okL Ch.ok l) (hx : x.ok) : callP env (M + 1) 10 [.sl 8 (l.map Ch.t), x.t] = .ok (optR (getC l x)) := by
  obtain ⟨m, rfl⟩ := exM (show 1 ≤ M by omega)
  obtain ⟨m, rfl⟩ := exM (show 1 ≤ m by omega)
  have h1 := f32_ok (M := m + 1) (g := 33) (cs := [x.t.ref]) (q := fun c => decide (c.x = x)) (by omega) hl (wfs1 (by simpa [T.wf] using hx.wf)) rfl fun c hc => by
    rw [q33, W_ok (wfs2 (hl.2 c hc).wf (by simpa [T.wf] using hx.wf)), eqPx_dec]
  rw [q10, W_ok (wfs2 (wf_okL (fun _ h => Ch.ok.wf h) hl) hx.wf), cl_ok h1]
  simp only [iT_int]
  have hb := hl.1
  have hp : (fun c : Ch => decide (c.x = x)) = fun c => c.x == x := by funext c; rw [Bool.eq_iff_iff]; simp
  cases hf : l.findIdx? (fun c => decide (c.x = x)) with
  | none =>
    rw [hp] at hf
    have : getC l x = none := by unfold getC; rw [find_none hf]; rfl
    rw [this]; rfl
  | some j =>
    obtain ⟨y, hy⟩ : ∃ y, l[j]? = some y := by
      have := List.findIdx?_eq_some_iff_getElem.1 hf
      obtain ⟨h, _⟩ := this
      exact ⟨l[j], List.getElem?_eq_getElem h⟩
    rw [hp] at hf
    have : getC l x = some y.r := by unfold getC; rw [find_idx hf hy]; rfl
    rw [this, decide_eq_false (by simp [idxI])]
    simp only [cond_false, anyT, idxI]
    rw [atT_get (map_get hy)]
    rfl
theorem f30_ok {M : Nat} {a b : Ch} (hM : big + 3 ≤ M) (ha : a.ok) (hb : b.ok) : callP env (M + 1) 30 [a.t, b.t] = .ok (i64 (cmpP a.x b.x)) := by
  obtain ⟨m, rfl⟩ := exM (show 1 ≤ M by omega)
  rw [q30, W_ok (wfs2 ha.wf hb.wf), cl_ok (f31_ok ha.x hb.x (by omega))]
theorem f46_ok {M : Nat} {a b : Ch} (hM : big + 6 ≤ M) (ha : a.ok) (hb : b.ok) : callP env (M + 1) 46 [a.t, b.t] = .ok (.bool (decide (a = b))) := by
  obtain ⟨m, rfl⟩ := exM (show 1 ≤ M by omega)
  rw [q46, W_ok (wfs2 ha.wf hb.wf), eqPx_dec]
  have e : decide (a = b) = (decide (a.x = b.x) && (cmpR a.r b.r == 0)) := by
    rw [Bool.eq_iff_iff]
    simp only [decide_eq_true_eq, Bool.and_eq_true, beq_iff_eq, cmpR_zero]
    obtain ⟨x, r⟩ := a
    obtain ⟨x', r'⟩ := b
    simp
  rw [e]
  cases decide (a.x = b.x) with
  | true => simp only [cond_true, Bool.true_and]; rw [cl_ok (f11_ok (by omega) ha.r hb.r)]
  | false => rfl
theorem f14_ok {M : Nat} {l m : List Ch} (hM : big + 9 ≤ M) (hl : okL Ch.ok l) (hm : okL Ch.ok m) : callP env (M + 1) 14 [.sl 8 (l.map Ch.t), .sl 8 (m.map Ch.t)] = .ok (.bool (decide (l = m))) := by
  obtain ⟨k, rfl⟩ := exM (show 1 ≤ M by omega)
  have hbl := hl.1
  have hbm := hm.1
  have h1 : callP env (k + 1) 45 [.sl 8 (l.map Ch.t), .sl 8 (m.map Ch.t), .fn 46 [] []] = .ok (.bool (decide (l = m))) := by
    obtain ⟨k, rfl⟩ := exM (show 1 ≤ k by omega)
    rw [q45, W_ok (wfs3 (wf_okL (fun _ h => Ch.ok.wf h) hl) (wf_okL (fun _ h => Ch.ok.wf h) hm) (wf_fn _)), ← same_gen (q := fun a b => decide (a = b)) (by simp) l m, List.length_map, List.length_map]
    by_cases h : l.length = m.length
    · rw [if_pos h, show ((l.length : Int) != (m.length : Int)) = false by rw [h]; simp]
      simp only [cond_false]
      refine pair_gen (S := fun i => sEqC l m (.fn 46 [] []) (i : Int)) (R := ⟨slots 32 [(6, .t (.bool false))], []⟩) (X := ⟨slots 32 [], []⟩) (id := 0) _ (by omega) h (fun j x y hx hy => ?_) ?_ (t45_4_ret _ _) (t45_4_exit0 _)
      · have hj : j < l.length := (List.getElem?_eq_some_iff.1 hx).1
        rw [b45_4, decide_eq_true (by rw [List.length_map]; omega)]
        simp only [cond_true]
        rw [atT_get (map_get hx), ch_chk, chk_true, atT_get (map_get hy), ch_chk, chk_true, apK_fnE rfl (f46_ok (by omega) (hl.2 x (List.mem_of_getElem? hx)) (hm.2 y (List.mem_of_getElem? hy))), bT_bool, wrap_succ (show j ≤ big by omega)]
      · rw [b45_4, decide_eq_false (by rw [List.length_map]; omega)]; rfl
    · rw [if_neg h, show ((l.length : Int) != (m.length : Int)) = true by simp; omega]; rfl
  rw [q14, W_ok (wfs2 (wf_okL (fun _ h => Ch.ok.wf h) hl) (wf_okL (fun _ h => Ch.ok.wf h) hm)), cl_ok h1]
/-- The best of some, by the text's own sum. -/
theorem f56_ok {M : Nat} {r : Rt} {l : List Rt} (hM : big + 6 ≤ M) (hl : okL Rt.ok (r :: l)) : callP env (M + 1) 56 [.sl 6 ((r :: l).map Rt.t), .fn 12 [] []] = .ok (l.foldl (fun b r => if cmpR r b < 0 then r else b) r).t := by
  obtain ⟨m, rfl⟩ := exM (show 1 ≤ M by omega)
  have hb := hl.1
  simp only [List.length_cons] at hb
  rw [q56, W_ok (wfs2 (wf_okL (fun _ h => Rt.ok.wf h) hl) (wf_fn _)), decide_eq_false (by simp; omega)]
  simp only [cond_false]
  rw [show atT ((r :: l).map Rt.t) 0 = fun K : T → Res T => K r.t from by funext K; exact atT_get (i := 0) rfl]
  simp only []
  rw [rt_chk, chk_true]
  refine ((fold_gen (S := fun (b : Rt) j => sMn (r :: l) b (.fn 12 [] []) ((j + 1 : Nat) : Int)) (X := fun b => ⟨slots 33 [(4, .ptr 0 0), (5, .ptr 1 0)], [.box 45 6 (.agg [.t (i64 0), .t (i64 0), .own 2, .t (i64 0), .t (i64 0), .t (i64 0)]), .box 45 6 (.t b.t), .row 3 1 []]⟩) (id := 0) (fun b _ => b.ok) (fun b r => if cmpR r b < 0 then r else b) l r (by omega) (fun b j x hx hI => ?_) (fun b hI => ?_) (hl.2 r List.mem_cons_self)).1).trans (t56_5_exit0 _ _)
  · have hj : j < l.length := (List.getElem?_eq_some_iff.1 hx).1
    have hx' : (r :: l)[j + 1]? = some x := by simpa using hx
    have ho := hl.2 x (List.mem_cons_of_mem _ (List.mem_of_getElem? hx))
    rw [b56_5, decide_eq_true (by rw [List.length_map, List.length_cons]; omega)]
    simp only [cond_true]
    rw [atT_get (map_get hx'), apK_fnE rfl (f12_ok (by omega) ho hI)]
    simp only [iT_int]
    rw [atT_get (map_get hx'), rt_chk, chk_true, wrap_succ (show j + 1 ≤ big by omega)]
    by_cases hc : cmpR x b < 0
    · rw [decide_eq_true hc, if_pos hc]; exact ⟨rfl, ho⟩
    · rw [decide_eq_false hc, if_neg hc]; exact ⟨rfl, hI⟩
  · rw [b56_5, decide_eq_false (by rw [List.length_map, List.length_cons]; omega)]; rfl
theorem f28_ok {M : Nat} {l : List Rt} (hM : big + 7 ≤ M) (hl : okL Rt.ok l) : callP env (M + 1) 28 [.sl 6 (l.map Rt.t)] = .ok (optR (bestR l)) := by
  obtain ⟨m, rfl⟩ := exM (show 1 ≤ M by omega)
  rw [q28, W_ok (wfs1 (wf_okL (fun _ h => Rt.ok.wf h) hl)), List.length_map]
  cases l with
  | nil => rfl
  | cons r l =>
    rw [show (((r :: l).length : Int) == 0) = false by simp; omega]
    simp only [cond_false]
    rw [cl_ok (f56_ok (by omega) hl), rt_chk, chk_true]
    rfl
theorem those_step_ok {c : Cf} {t : List (List En)} {x : Px} (h : c.ok) (ht : okT t) : ∀ r ∈ thoseR c t x, r.ok := fun r hr => by
  rcases (mem_those.1 hr).2 with ⟨_, rfl⟩ | ⟨k, l, p, h1, h2, h3, h4⟩
  · exact ownR_ok h.d
  · have hl := ht.2 l (List.mem_of_getElem? h2)
    have hb := h.s.1
    have := big_val
    exact inR_ok h4 h (ok64_iff.2 (by omega)) ((hl.2 _ (known_sub (get_iff.1 h3))).p)
/-- What a side adds to the routes to a prefix. -/
def addR (c : Cf) (t : List (List En)) (x : Px) (k : Nat) : List Rt := (((t[k]?).bind fun l => (getE l x).bind fun p => inR c (k : Int) x p)).toList
theorem filterMap_flat {α β : Type} (f : α → Option β) : ∀ l : List α, l.filterMap f = l.foldl (fun r a => r ++ (f a).toList) [] := by
  have main : ∀ (l : List α) (r : List β), l.foldl (fun r a => r ++ (f a).toList) r = r ++ l.filterMap f := by
    intro l
    induction l with
    | nil => simp
    | cons a l ih =>
      intro r
      rw [List.foldl_cons, ih, List.filterMap_cons]
      cases f a <;> simp
  intro l
  rw [main]; simp
theorem foldl_pre {α β : Type} (f : α → List β) : ∀ (l : List α) (r : List β), l.foldl (fun r a => r ++ f a) r = r ++ l.foldl (fun r a => r ++ f a) [] := by
  intro l
  induction l with
  | nil => simp
  | cons a l ih => intro r; rw [List.foldl_cons, List.foldl_cons, ih (r ++ f a), ih ([] ++ f a)]; simp
theorem minmax_min (a b : Nat) : minmax false [(b : Int)] (a : Int) = ((min a b : Nat) : Int) := by
  simp only [minmax, cond_false]
  split <;> omega
theorem f13_ok {M : Nat} {c : Cf} {t : List (List En)} {x : Px} (hM : big + 24 ≤ M) (h : c.ok) (ht : okT t) (hx : x.ok) : callP env (M + 1) 13 [c.t, .sl 1 (tabT t), x.t] = .ok (.sl 6 ((thoseR c t x).map Rt.t)) := by
  obtain ⟨m, rfl⟩ := exM (show 1 ≤ M by omega)
  have hbt := ht.1
  have hbs := h.s.1
  have hbig := big_val
  rw [q13, W_ok (wfs3 h.wf ht.wf hx.wf), clB_ok (f41_ok (by omega) h)]
  unfold thoseR
  cases hc : csane c with
  | false => rfl
  | true =>
    have hs8 : c.s.length ≤ 8 := (csane_parts hc).2.2.2.2
    simp only [Bool.not_true, cond_false, if_true]
    rw [clB_ok (f42_ok (by omega) h.w hx)]
    have key : ∀ r0 : List Rt, r0.length ≤ 1 → loopL env (m + 1) 13 7 (sTh c t x r0 ((min t.length c.s.length : Nat) : Int) 0) =
        .ok (.sl 6 ((r0 ++ (List.range (min t.length c.s.length)).filterMap fun (k : Nat) => (t[k]?).bind fun l => (getE l x).bind fun p => inR c (k : Int) x p).map Rt.t)) := fun r0 hr0 => by
      have := fold_gen (S := fun (r : List Rt) j => sTh c t x r ((min t.length c.s.length : Nat) : Int) (j : Int)) (X := fun r => ⟨slots 61 [(7, .own 0)], [.row 45 6 (r.map Rt.t)]⟩) (id := 0) (N := m + 1) (F := 13) (r := 7) (fun (r : List Rt) j => r.length ≤ j + 1) (fun r k => r ++ addR c t x k) (List.range (min t.length c.s.length)) r0 (by rw [List.length_range]; omega)
        (fun r j k hk hI => by
          have hk' : j < min t.length c.s.length := by have := (List.getElem?_eq_some_iff.1 hk).1; simpa using this
          obtain rfl : j = k := by rw [List.getElem?_range hk'] at hk; simpa using hk
          have hjt : j < t.length := by omega
          have e1 : t[j]? = some t[j] := List.getElem?_eq_getElem hjt
          have hl := ht.2 _ (List.getElem_mem hjt)
          have hko : ok64 (j : Int) = true := ok64_iff.2 (by omega)
          rw [b13_7, decide_eq_true (by omega)]
          simp only [cond_true]
          rw [atT_get (tabs_get e1), cl_ok (f6_ok (by omega) hl.1 hl.2 hx)]
          simp only [compT, List.getElem?_cons_zero, List.getElem?_cons_succ, pa_chk, chk_true, bT_bool]
          rw [wrap_succ (show j ≤ big by omega)]
          cases hg : getE t[j] x with
          | none =>
            have : addR c t x j = [] := by unfold addR; rw [e1, Option.bind_some, hg]; rfl
            rw [this, List.append_nil]
            exact ⟨rfl, by omega⟩
          | some p =>
            have hp : p.ok := (hl.2 _ (known_sub (get_iff.1 hg))).p
            simp only [Option.getD_some, Option.isSome_some, Bool.not_true, cond_false]
            rw [cl_ok (f44_ok (by omega) h hko hx hp), optR_eq]
            simp only [compT, List.getElem?_cons_zero, List.getElem?_cons_succ, rt_chk, chk_true, bT_bool]
            cases hi : inR c (j : Int) x p with
            | none =>
              have : addR c t x j = [] := by unfold addR; rw [e1, Option.bind_some, hg, Option.bind_some, hi]; rfl
              rw [this, List.append_nil]
              exact ⟨rfl, by omega⟩
            | some q =>
              have : addR c t x j = [q] := by unfold addR; rw [e1, Option.bind_some, hg, Option.bind_some, hi]; rfl
              rw [this]
              simp only [Option.isSome_some, cond_true, Option.getD_some]
              rw [show chkAll (T.okE 6) [q.t] = fun (K : Res (Ex × St)) => K from rfl, List.length_map, decide_eq_true (by omega), chk_true]
              refine ⟨?_, by rw [List.length_append, List.length_singleton]; omega⟩
              unfold sTh
              rw [List.map_append]; rfl)
        (fun r hI => by rw [List.length_range, b13_7, decide_eq_false (by omega)]; rfl) (by omega)
      refine this.1.trans ((t13_7_exit0 _ _).trans ?_)
      rw [foldl_pre, filterMap_flat]; rfl
    rw [show ((List.map (fun l => T.sl 6 (List.map En.t l)) t).length : Int) = (t.length : Int) by simp, show ((List.map Sd.t c.s).length : Int) = (c.s.length : Int) by simp, minmax_min]
    cases hw : c.w.contains x with
    | true =>
      simp only [cond_true, if_true]
      rw [cl_ok (f43_ok h.d)]
      exact key [ownR c.d] (by simp)
    | false =>
      simp only [cond_false, Bool.false_eq_true, if_false]
      exact key [] (by simp)
end Go.Sim

/- What calls come to: printed by wip/tools/eq2.py: the document's layers 2, 7, 9, 10, 12, 13, 14. -/
namespace Go.Sim
open Go.RowKit Go.Proofs
set_option linter.unusedVariables false
set_option maxRecDepth 100000
variable [Lv]

def sSz (m i : Int) : St := ⟨slots 14 [(3, .t (i64 m)), (4, .t (i64 i))], []⟩
def sHa (l : List Int) (n i : Int) : St := ⟨slots 18 [(0, .t (.sl 1 (ints l))), (1, .t (i64 n)), (5, .t (i64 i))], []⟩
def sPk (l : List Ru) (v : Vw) (i : Int) : St := ⟨slots 24 [(0, .t (.sl 6 (l.map Ru.t))), (3, .ptr 0 0), (4, .ptr 1 0), (6, .t (i64 i))], [.box 116 4 (.t v.t), .box 54 6 (.t (T.agg [i64 0, i64 0, i64 0, i64 0, i64 0, i64 0]))]⟩
def sRu (l : List Ru) (b : Bool) (i : Int) : St := ⟨slots 22 [(0, .t (.sl 6 (l.map Ru.t))), (1, .t (.bool b)), (5, .t (i64 i))], []⟩
def sOw (l : List Px) (i : Int) : St := ⟨slots 34 [(0, .t (.sl 2 (l.map Px.t))), (3, .t (i64 i))], []⟩
def sOw2 (l : List Px) (i k : Int) : St := ⟨slots 34 [(0, .t (.sl 2 (l.map Px.t))), (3, .t (i64 i)), (4, .t (i64 k))], []⟩
def sSi (l : List Sd) (a i : Int) : St := ⟨slots 70 [(0, .t (.sl 4 (l.map Sd.t))), (1, .t (i64 a)), (5, .t (i64 i))], []⟩
def sSi2 (l : List Sd) (a i : Int) (s : Sd) (k : Int) : St := ⟨slots 70 [(0, .t (.sl 4 (l.map Sd.t))), (1, .t (i64 a)), (5, .t (i64 i)), (6, .ptr 0 0), (7, .t (i64 k))], [.box 57 4 (.t s.t)]⟩
def sPs (p : Pa) (i : Int) : St := ⟨slots 59 [(1, .ptr 0 0), (3, .t (i64 i))], [.box 31 4 (.t p.t)]⟩
def sHb (l : List Int) (n i : Int) : St := ⟨slots 18 [(0, .t (.sl 1 (ints l))), (1, .t (i64 n)), (5, .t (i64 i))], []⟩
end Go.Sim

/- What calls come to: printed by wip/tools/eq2.py: more of the document's layers. -/
namespace Go.Sim
open Go.RowKit Go.Proofs
set_option linter.unusedVariables false
set_option maxRecDepth 100000
variable [Lv]

end Go.Sim

/- What calls come to: printed by wip/tools/eq2.py: laws of layer 14. -/
namespace Go.Sim
open Go.RowKit Go.Proofs
set_option linter.unusedVariables false
set_option maxRecDepth 100000
variable [Lv]


def sSP (a b : Pa) (i : Int) : St := ⟨slots 52 [(2, .ptr 0 0), (3, .ptr 1 0), (5, .t (i64 i))], [.box 31 4 (.t a.t), .box 31 4 (.t b.t)]⟩
end Go.Sim

/- Two paths are the same: the document's answer. -/
namespace Go.Sim
open Go.RowKit Go.Proofs
set_option linter.unusedVariables false
set_option linter.unusedSimpArgs false
set_option linter.unusedSectionVars false
set_option maxRecDepth 100000
variable [Lv]
end Go.Sim

/- What the document's layers 2, 7, 9, 10, 12, 13 answer: the same as the program's. -/
namespace Go.Sim
open Go.RowKit Go.Proofs
set_option linter.unusedVariables false
set_option linter.unusedSimpArgs false
set_option linter.unusedSectionVars false
set_option maxRecDepth 100000

theorem seekI_min {p : Nat → Bool} : ∀ {k i j : Nat}, seekI p i k = some j → ∀ m, i ≤ m → m < j → p m = false
  | 0, i, j, h, m, a, b => by simp [seekI] at h
  | k + 1, i, j, h, m, a, b => by
    cases hp : p i with
    | true => simp [seekI, hp] at h; omega
    | false =>
      simp only [seekI, hp, cond_false] at h
      rcases Nat.lt_or_ge i m with c | c
      · exact seekI_min h m (by omega) b
      · have : m = i := by omega
        subst this; exact hp
def sizeI (n : Int) : Int := 2 ^ (32 - max n 0).toNat
theorem pow_le32 {s : Nat} (h : s ≤ 32) : (2 : Int) ^ s ≤ 4294967296 ∧ 0 < (2 : Int) ^ s := by
  constructor
  · have : (2 : Int) ^ s ≤ 2 ^ 32 := by exact_mod_cast Nat.pow_le_pow_right (by omega) h
    simpa using this
  · exact_mod_cast Nat.pow_pos (by omega : 0 < 2)
theorem and_range (a : Int) : 0 ≤ ((BitVec.toNat (BitVec.ofInt 64 a &&& BitVec.ofInt 64 4294967295) : Nat) : Int) ∧ ((BitVec.toNat (BitVec.ofInt 64 a &&& BitVec.ofInt 64 4294967295) : Nat) : Int) ≤ 4294967295 := by
  have h : BitVec.toNat (BitVec.ofInt 64 a &&& BitVec.ofInt 64 4294967295) ≤ 4294967295 := by
    rw [BitVec.toNat_and]
    exact Nat.le_trans Nat.and_le_right (by decide)
  omega
theorem mask_eq {a n : Int} (h0 : 0 ≤ n) (h1 : n ≤ 32) : maskI a n = ((BitVec.toNat (BitVec.ofInt 64 a &&& BitVec.ofInt 64 4294967295) : Nat) : Int) / 2 ^ (32 - n).toNat * 2 ^ (32 - n).toNat := by
  have hx := and_range a
  have hs : shiftI n = 32 - n := by rw [shiftI_eq]; omega
  unfold maskI
  rw [hs, Nat.min_eq_left (show (32 - n).toNat ≤ 64 by omega)]
  generalize ((BitVec.toNat (BitVec.ofInt 64 a &&& BitVec.ofInt 64 4294967295) : Nat) : Int) = y at hx ⊢
  obtain ⟨p1, p2⟩ := pow_le32 (s := (32 - n).toNat) (by omega)
  generalize (2 : Int) ^ (32 - n).toNat = p at p1 p2 ⊢
  have e1 : IntKind.i64.wrap y = y := wrap64 (by omega)
  rw [e1, Int.fdiv_eq_ediv_of_nonneg y (by omega)]
  have q1 := Int.ediv_mul_le y (show p ≠ 0 by omega)
  have q2 : 0 ≤ y / p * p := Int.mul_nonneg (Int.ediv_nonneg hx.1 (by omega)) (by omega)
  rw [wrap64 (by omega)]
theorem mask_range {a n : Int} (h0 : 0 ≤ n) (h1 : n ≤ 32) : 0 ≤ maskI a n ∧ maskI a n ≤ 4294967295 := by
  rw [mask_eq h0 h1]
  have hx := and_range a
  generalize ((BitVec.toNat (BitVec.ofInt 64 a &&& BitVec.ofInt 64 4294967295) : Nat) : Int) = y at hx ⊢
  obtain ⟨p1, p2⟩ := pow_le32 (s := (32 - n).toNat) (by omega)
  generalize (2 : Int) ^ (32 - n).toNat = p at p1 p2 ⊢
  have q1 := Int.ediv_mul_le y (show p ≠ 0 by omega)
  have q2 : 0 ≤ y / p * p := Int.mul_nonneg (Int.ediv_nonneg hx.1 (by omega)) (by omega)
  omega
theorem fresh_iff {α κ : Type} [DecidableEq κ] {kf : α → κ} {q : α → Bool} : ∀ {l : List α} {s : List κ}, freshB kf q s l = true ↔ ∀ (i : Nat) (x : α), l[i]? = some x → (s ++ (l.take i).map kf).contains (kf x) = false ∧ q x = true
  | [], s => by simp [freshB]
  | y :: l, s => by
    unfold freshB
    rw [Bool.and_eq_true, Bool.and_eq_true, fresh_iff]
    constructor
    · rintro ⟨h1, h2, h3⟩ i x hx
      cases i with
      | zero =>
        simp only [List.getElem?_cons_zero, Option.some.injEq] at hx
        subst hx
        refine ⟨?_, h2⟩
        simpa using h1
      | succ i =>
        have := h3 i x (by simpa using hx)
        rw [List.take_succ_cons, List.map_cons]
        rw [List.append_assoc] at this
        exact this
    · intro h
      have h0 := h 0 y rfl
      refine ⟨by simpa using h0.1, h0.2, fun i x hx => ?_⟩
      have := h (i + 1) x (by simpa using hx)
      rw [List.take_succ_cons, List.map_cons] at this
      rw [List.append_assoc]
      exact this
variable [Lv]
theorem dec_pos {n : Int} : decide (n ≥ 1) = decide (n > 0) := decide_eq_decide.2 (by omega)
theorem dec_lt {n : Int} : decide (n ≤ 399) = decide (n < 400) := decide_eq_decide.2 (by omega)
theorem and_if {a b : Bool} : (bif a then rB b else rB false) = .ok (.bool (a && b)) := by cases a <;> rfl
end Go.Sim

/- What the document's layers 7, 9, 12, 13, 14 answer: the same as the program's. -/
namespace Go.Sim
open Go.RowKit Go.Proofs
set_option linter.unusedVariables false
set_option linter.unusedSimpArgs false
set_option linter.unusedSectionVars false
set_option maxRecDepth 100000

/-- Does place i fall? -/
def ownF (l : List Px) (i : Nat) : Bool := match l[i]? with | some x => !psane x || (l.take i).contains x | none => false
def sideF (l : List Sd) (a : Int) (i : Nat) : Bool := match l[i]? with | some s => !(sideB s && !(s.a == a)) || ((l.take i).map Sd.a).contains s.a | none => false
theorem own_iff {l : List Px} : (seekI (ownF l) 0 l.length).isNone = freshB id psane [] l := by
  rw [Bool.eq_iff_iff, fresh_iff, Option.isNone_iff_eq_none]
  constructor
  · intro h i x hx
    have := seekI_none h i (by omega) (by have := (List.getElem?_eq_some_iff.1 hx).1; omega)
    unfold ownF at this
    rw [hx] at this
    simp only [Bool.or_eq_false_iff, Bool.not_eq_false'] at this
    exact ⟨by simpa using this.2, this.1⟩
  · intro h
    cases hk : seekI (ownF l) 0 l.length with
    | none => rfl
    | some j =>
      obtain ⟨_, hj, hp⟩ := seekI_some hk
      have hx := h j l[j] (List.getElem?_eq_getElem (by omega))
      unfold ownF at hp
      rw [List.getElem?_eq_getElem (show j < l.length by omega)] at hp
      simp only [Bool.or_eq_true, Bool.not_eq_true'] at hp
      rcases hp with hp | hp
      · rw [hp] at hx; exact absurd hx.2 (by simp)
      · have := hx.1; simp only [List.nil_append, List.map_id_fun, id] at this; rw [hp] at this; cases this
theorem side_iff {l : List Sd} {a : Int} : (seekI (sideF l a) 0 l.length).isNone = freshB Sd.a sideB [a] l := by
  rw [Bool.eq_iff_iff, fresh_iff, Option.isNone_iff_eq_none]
  have key : ∀ (i : Nat) (s : Sd), ([a] ++ (l.take i).map Sd.a).contains s.a = (s.a == a || ((l.take i).map Sd.a).contains s.a) := fun i s => by rw [List.singleton_append, List.contains_cons]
  constructor
  · intro h i x hx
    have := seekI_none h i (by omega) (by have := (List.getElem?_eq_some_iff.1 hx).1; omega)
    unfold sideF at this
    rw [hx] at this
    simp only [Bool.or_eq_false_iff, Bool.not_eq_false', Bool.and_eq_true, Bool.not_eq_true'] at this
    rw [key, this.1.2, this.2]
    exact ⟨rfl, this.1.1⟩
  · intro h
    cases hk : seekI (sideF l a) 0 l.length with
    | none => rfl
    | some j =>
      obtain ⟨_, hj, hp⟩ := seekI_some hk
      have hx := h j l[j] (List.getElem?_eq_getElem (by omega))
      rw [key, Bool.or_eq_false_iff] at hx
      unfold sideF at hp
      rw [List.getElem?_eq_getElem (show j < l.length by omega)] at hp
      simp only [hx.1.1, hx.1.2, hx.2, Bool.not_false, Bool.and_self, Bool.not_true, Bool.or_self] at hp
      cases hp
variable [Lv]
theorem loopI_end {N : Nat} {f : FuncId} {r q : Nat} {s s' : St} {e : Ex} (h : iterR (bodyI env N f 0 r q) N s = .ok (e, s')) : loopI env N f r q s = tailI env N f 0 r q e s' := by
  unfold loopI; rw [h]; rfl
end Go.Sim

/- What calls come to: printed by wip/tools/eq2.py: the document's Out. -/
namespace Go.Sim
open Go.RowKit Go.Proofs
set_option linter.unusedVariables false
set_option maxRecDepth 100000
variable [Lv]
def sOz (c : Cf) (x : Px) (r : Rt) (s : Sd) (u : Ru) (m : Int) (d : Nat → PV) : St := ⟨[d 0, d 1, d 2, d 3, .ptr 0 0, d 5, d 6, .ptr 2 0, .ptr 3 0, d 9, d 10, .ptr 5 0, d 12, .t (i64 m), d 14, d 15, d 16, d 17, d 18, d 19, d 20, d 21, d 22, d 23, d 24, d 25, d 26, d 27, d 28, d 29, d 30, d 31, d 32, d 33, d 34, d 35, d 36, d 37, d 38, d 39, d 40, d 41, d 42, d 43, d 44, d 45, d 46, d 47, d 48, d 49, d 50, d 51, d 52, d 53, d 54, d 55, d 56, d 57, d 58, d 59, d 60, d 61, d 62, d 63, d 64, d 65, d 66, d 67, d 68, d 69, d 70, d 71, d 72, d 73, d 74, d 75, d 76, d 77, d 78, d 79, d 80, d 81, d 82, d 83, d 84, d 85, d 86, d 87, d 88, d 89, d 90, d 91, d 92, d 93, d 94, d 95, d 96, d 97, d 98, d 99, d 100, d 101, d 102, d 103, d 104, d 105, d 106, d 107, d 108, d 109, d 110, d 111, d 112, d 113, d 114, d 115, d 116, d 117, d 118, d 119, d 120, d 121, d 122, d 123, d 124, d 125, d 126, d 127], [.box 25 6 (.t c.t), .box 28 2 (.t x.t), .box 45 6 (.t r.t), .box 31 4 (.agg [.t (i64 0), .nil 3 1, .t (i64 0), .t (i64 0)]), .box 57 4 (.t s.t), .box 54 6 (.t u.t)]⟩
def sO11 (c : Cf) (r : Rt) (u : Ru) (m : Int) (l : List Int) (i : Int) : St := ⟨slots 128 [(4, .ptr 0 0), (7, .ptr 1 0), (8, .ptr 2 0), (11, .ptr 3 0), (13, .t (i64 m)), (15, .own 4), (16, .t (i64 i))], [.box 25 6 (.t c.t), .box 45 6 (.t r.t), .box 31 4 (.agg [.t (i64 0), .own 5, .t (i64 0), .t (i64 0)]), .box 54 6 (.t u.t), .row 3 1 (ints l), .row 3 1 []]⟩
end Go.Sim

/- EdgeIs: its call comes to 'true'. -/
namespace Go.Sim
open Go.RowKit Go.Proofs
set_option linter.unusedVariables false
set_option linter.unusedSimpArgs false
set_option linter.unusedSectionVars false
set_option maxRecDepth 100000
variable [Lv]
theorem more_spec {u : Ru} (h : rsane u false = true) (ha : u.a ≠ 0) : u.n = if u.a = 3 then u.n else 0 := by
  unfold rsane actB at h
  simp only [Bool.and_eq_true] at h
  have h2 := h.2.2
  rw [if_neg ha] at h2
  split
  · rfl
  · rename_i h3
    split at h2
    · simpa using h2
    split at h2
    · simp at h2
    · first | cases h2 | (rw [if_neg h3] at h2; cases h2)
end Go.Sim

/- What the functions of layer 19 answer: the document's. -/
namespace Go.Sim
open Go.RowKit Go.Proofs
set_option linter.unusedVariables false
set_option linter.unusedSimpArgs false
set_option linter.unusedSectionVars false
set_option maxRecDepth 100000
def putS2 (x : Px) (s : List Px × Bool) (y : Px) : List Px × Bool := ((if cmpP x y < 0 ∧ s.2 = false then s.1 ++ [x] else s.1) ++ [y], s.2 || decide (cmpP x y ≤ 0))
theorem put_done (x : Px) : ∀ (l r : List Px), l.foldl (putS2 x) (r, true) = (r ++ l, true)
  | [], r => by simp
  | y :: l, r => by
    rw [List.foldl_cons, show putS2 x (r, true) y = (r ++ [y], true) by simp [putS2], put_done x l]
    simp
theorem put_fold (x : Px) : ∀ (l r : List Px), (l.foldl (putS2 x) (r, false)).1 ++ (if (l.foldl (putS2 x) (r, false)).2 then [] else [x]) = r ++ putP x l
  | [], r => by simp [putP]
  | y :: l, r => by
    rw [List.foldl_cons]
    simp only [putP]
    by_cases h1 : cmpP x y < 0
    · rw [show putS2 x (r, false) y = (r ++ [x] ++ [y], true) by simp [putS2, h1]; omega, put_done, if_pos h1]
      simp
    · rw [if_neg h1]
      by_cases h2 : cmpP x y = 0
      · rw [show putS2 x (r, false) y = (r ++ [y], true) by simp [putS2, h2], put_done, if_pos h2]
        simp
      · rw [show putS2 x (r, false) y = (r ++ [y], false) by simp [putS2, h1]; omega, put_fold x l, if_neg h2]
        simp
theorem put_len (x : Px) : ∀ l : List Px, (putP x l).length ≤ l.length + 1
  | [] => by simp [putP]
  | y :: l => by
    simp only [putP]
    split
    · simp
    · split
      · simp
      · have := put_len x l; simp; omega
theorem puts_len : ∀ (m l : List Px), (m.foldl (fun l x => putP x l) l).length ≤ m.length + l.length
  | [], l => by simp
  | x :: m, l => by
    rw [List.foldl_cons]
    have := puts_len m (putP x l)
    have := put_len x l
    simp; omega
theorem puts_ok {m l : List Px} (hm : ∀ x ∈ m, x.ok) (hl : ∀ x ∈ l, x.ok) : ∀ y ∈ m.foldl (fun l x => putP x l) l, y.ok := fun y hy => (puts_mem m l).1 hy |>.elim (hm y) (hl y)
variable [Lv]
def badS (l : List En) (i : Nat) : Bool := match l[i]? with | some e => !psane e.x || !asane7 e.p || (decide (0 < i) && upE l i) | none => false
theorem rises_cons {a : En} : ∀ {l : List En}, risesE (a :: l) = ((match l with | [] => true | b :: _ => decide (cmpP a.x b.x < 0)) && risesE l) := by
  intro l
  rw [Bool.eq_iff_iff, Bool.and_eq_true, rise_iff, rise_iff]
  cases l with
  | nil => simp [Rise]
  | cons b l =>
    simp only [decide_eq_true_eq, cmpP_lt]
    constructor
    · intro h
      obtain ⟨h1, h2⟩ := List.pairwise_cons.1 h
      exact ⟨h1 b List.mem_cons_self, h2⟩
    · rintro ⟨h1, h2⟩
      refine List.pairwise_cons.2 ⟨fun c hc => ?_, h2⟩
      rcases List.mem_cons.1 hc with rfl | hc
      · exact h1
      · exact ltP_trans h1 ((List.pairwise_cons.1 h2).1 c hc)
theorem bad_iff {l : List En} : (seekI (badS l) 0 l.length).isNone = tsane l := by
  rw [Bool.eq_iff_iff, Option.isNone_iff_eq_none, tsane_iff]
  constructor
  · intro h
    have h1 := seekI_none h
    have hs : ∀ i (hi : i < l.length), badS l i = false := fun i hi => h1 i (by omega) (by omega)
    refine ⟨?_, fun e he => ?_⟩
    · rw [← rise_iff]
      unfold risesE
      rw [Option.isNone_iff_eq_none]
      cases hu : seekI (upE l) 1 (l.length - 1) with
      | none => rfl
      | some j =>
        obtain ⟨a, b, c⟩ := seekI_some hu
        have hj : j < l.length := by omega
        have := hs j hj
        unfold badS at this
        rw [List.getElem?_eq_getElem hj] at this
        simp only [c, decide_eq_true (show 0 < j by omega), Bool.and_true, Bool.or_true] at this
        cases this
    · obtain ⟨i, hi, rfl⟩ := List.getElem_of_mem he
      have := hs i hi
      unfold badS at this
      rw [List.getElem?_eq_getElem hi] at this
      simp only [Bool.or_eq_false_iff, Bool.not_eq_false'] at this
      exact ⟨this.1.1, this.1.2⟩
  · rintro ⟨h1, h2⟩
    cases hk : seekI (badS l) 0 l.length with
    | none => rfl
    | some j =>
      obtain ⟨_, b, c⟩ := seekI_some hk
      have hj : j < l.length := by omega
      obtain ⟨p1, p2⟩ := h2 l[j] (List.getElem_mem hj)
      unfold badS at c
      rw [List.getElem?_eq_getElem hj] at c
      simp only [p1, p2, Bool.not_true, Bool.false_or, Bool.and_eq_true, decide_eq_true_eq] at c
      obtain ⟨c1, c2⟩ := c
      rw [← rise_iff] at h1
      unfold risesE at h1
      rw [Option.isNone_iff_eq_none] at h1
      have := seekI_none h1 j (by omega) (by omega)
      rw [this] at c2
      cases c2
theorem okL_known {l : List En} (hl : okL En.ok l) : okL En.ok (known l) := ⟨Nat.le_trans (known_len l) hl.1, fun e he => hl.2 e (known_sub he)⟩
theorem find_seek {α : Type} (q : α → Bool) : ∀ (l : List α) (i : Nat) (p : Nat → Bool), (∀ j x, l[j]? = some x → p (i + j) = q x) → l.find? q = (seekI p i l.length).bind fun j => l[j - i]?
  | [], i, p, _ => rfl
  | x :: l, i, p, h => by
    have h0 := h 0 x rfl
    rw [Nat.add_zero] at h0
    rw [List.find?_cons]
    simp only [List.length_cons, seekI]
    rw [h0]
    cases q x with
    | true => simp
    | false =>
      simp only [cond_false]
      rw [find_seek q l (i + 1) p fun j y hy => by rw [show i + 1 + j = i + (j + 1) by omega]; exact h (j + 1) y (by simpa using hy)]
      cases hs : seekI p (i + 1) l.length with
      | none => rfl
      | some j =>
        have := (seekI_some hs).1
        simp only [Option.bind_some]
        rw [show j - i = (j - (i + 1)) + 1 by omega, List.getElem?_cons_succ]
theorem fnz_app : ∀ l m : List Int, fnz (l ++ m) = if fnz l = 0 then fnz m else fnz l
  | [], m => by simp [fnz]
  | a :: l, m => by
    have e1 : fnz (a :: l) = if a = 0 then fnz l else a := rfl
    have e2 : fnz (a :: (l ++ m)) = if a = 0 then fnz (l ++ m) else a := rfl
    show fnz (a :: (l ++ m)) = _
    by_cases h : a = 0
    · rw [if_pos h] at e1 e2
      rw [e1, e2]; exact fnz_app l m
    · rw [if_neg h] at e1 e2
      rw [e1, e2, if_neg h]
theorem fnz_zip : ∀ (l m : List Int), l.length = m.length → fnz ((l.zip m).map fun p => cmpI p.1 p.2) = cmpL l m
  | [], [], _ => rfl
  | [], _ :: _, h => by simp at h
  | _ :: _, [], h => by simp at h
  | a :: l, b :: m, h => by
    simp only [List.zip_cons_cons, List.map_cons, fnz, cmpL]
    by_cases e : a = b
    · rw [if_pos e, if_pos (cmpI_zero.2 e)]; exact fnz_zip l m (by simpa using h)
    · rw [if_neg e, if_neg (fun h => e (cmpI_zero.1 h))]
/-- The document's sum of comparisons is ours. -/
theorem fnz_cmpR (a b : Rt) : fnz ([cmpI b.n a.n, cmpI a.p.s.length b.p.s.length, cmpI a.p.o b.p.o] ++ ((a.p.s.zip b.p.s).map fun p => cmpI p.1 p.2) ++ [cmpI a.p.h b.p.h, cmpI a.p.c b.p.c, cmpI a.f b.f]) = cmpR a b := by
  rw [List.append_assoc, fnz_app]
  unfold cmpR
  by_cases h1 : cmpI b.n a.n = 0
  case neg => simp only [fnz, h1, if_false]
  by_cases h2 : cmpI (a.p.s.length : Int) (b.p.s.length : Int) = 0
  case neg => simp only [fnz, h1, h2, if_true, if_false]
  by_cases h3 : cmpI a.p.o b.p.o = 0
  case neg => simp only [fnz, h1, h2, h3, if_true, if_false]
  have hl : a.p.s.length = b.p.s.length := by have := cmpI_zero.1 h2; omega
  rw [fnz_app, fnz_zip _ _ hl]
  simp only [fnz, h1, h2, h3, if_true]
end Go.Sim

/- What the functions of layer 19 answer: the document's, that go over tables and choices. -/
namespace Go.Sim
open Go.RowKit Go.Proofs
set_option linter.unusedVariables false
set_option linter.unusedSimpArgs false
set_option linter.unusedSectionVars false
set_option maxRecDepth 100000
def fewT (t : List (List En)) : Bool := !(t.any fun l => !fewE l) && decide (t.length ≤ 10)
def fewC (l : List Ch) : Bool := !(l.any fun c => decide (c.r.p.s.length > 100)) && decide (l.length ≤ 60)
variable [Lv]
theorem getC_seek {l : List Ch} {x : Px} {p : Nat → Bool} (hp : ∀ j c, l[j]? = some c → p j = decide (c.x = x)) : getC l x = ((seekI p 0 l.length).bind fun j => l[j]?).map Ch.r := by
  unfold getC
  rw [find_seek (fun c : Ch => c.x == x) l 0 p fun j c hc => by rw [Nat.zero_add, hp j c hc, Bool.eq_iff_iff]; simp]
  simp
theorem f16_ok {M : Nat} {t : List (List En)} (hM : big + 3 ≤ M) (ht : okT t) : callP env (M + 1) 16 [.sl 1 (tabT t)] = .ok (.bool (fewT t)) := by
  obtain ⟨m, rfl⟩ := exM (show 1 ≤ M by omega)
  have hb := ht.1
  rw [q16, W_ok (wfs1 ht.wf)]
  have := any_gen (N := m + 1) (F := 16) (r := 2) (id := 0) (S := fun j => sFw t (j : Int)) (fun l : List En => !fewE l) t (by omega) (fun j l hl => by
    have hj : j < t.length := (List.getElem?_eq_some_iff.1 hl).1
    have ho := ht.2 l (List.mem_of_getElem? hl)
    rw [b16_2, decide_eq_true (by rw [List.length_map]; omega)]
    simp only [cond_true]
    rw [atT_get (tabs_get hl), clB_ok (f47_ok (by omega) ho.1 ho.2), wrap_succ (show j ≤ big by omega)]) (by
    rw [b16_2, decide_eq_false (by rw [List.length_map]; omega)]; rfl) (t16_2_ret _ _) (t16_2_exit0 _ _)
  refine this.trans ?_
  unfold fewT
  rw [show decide (((List.map (fun l => T.sl 6 (List.map En.t l)) t).length : Int) ≤ 10) = decide (t.length ≤ 10) by rw [List.length_map]; exact decide_eq_decide.2 (by omega)]
  cases t.any fun l : List En => !fewE l <;> rfl
/-- One's own route, once for each time that a prefix stands among one's own. -/
def ownAdd (c : Cf) (x : Px) (r : List Rt) (y : Px) : List Rt := if y = x then r ++ [ownR c.d] else r
theorem own_len (c : Cf) (x : Px) : ∀ (l : List Px) (r : List Rt), (l.foldl (ownAdd c x) r).length ≤ l.length + r.length
  | [], r => by simp
  | y :: l, r => by
    rw [List.foldl_cons]
    have h1 := own_len c x l (ownAdd c x r y)
    have h2 : (ownAdd c x r y).length ≤ r.length + 1 := by unfold ownAdd; split <;> simp
    simp only [List.length_cons]
    omega
theorem own_fold {c : Cf} (h : csane c = true) (x : Px) : c.w.foldl (ownAdd c x) [] = if c.w.contains x then [ownR c.d] else [] := by
  have hf : freshB id psane [] c.w = true := by
    unfold csane at h
    simp only [Bool.and_eq_true] at h
    exact h.2.2.2.2.2.2.2.1
  have hn := (fresh_iff.1 hf)
  have hnd : c.w.Nodup := by
    rw [List.nodup_iff_pairwise_ne, List.pairwise_iff_getElem]
    intro i j hi hj hij he
    have h3 := (hn j c.w[j] (List.getElem?_eq_getElem hj)).1
    have h4 : ([] ++ (c.w.take j).map id).contains (id c.w[j]) = true := by
      rw [List.nil_append, List.map_id, id, List.contains_iff_mem, ← he]
      exact List.mem_take_iff_getElem.2 ⟨i, by omega, rfl⟩
    rw [h4] at h3
    cases h3
  clear hf hn h
  have main : ∀ (l : List Px) (r : List Rt), l.Nodup → l.foldl (ownAdd c x) r = r ++ if l.contains x then [ownR c.d] else [] := by
    intro l
    induction l with
    | nil => intro r _; simp
    | cons y l ih =>
      intro r hl
      obtain ⟨h1, h2⟩ := List.nodup_cons.1 hl
      rw [List.foldl_cons, ih _ h2]
      unfold ownAdd
      by_cases e : y = x
      · subst e
        have : l.contains y = false := by rw [Bool.eq_false_iff]; intro h; exact h1 (List.contains_iff_mem.1 h)
        rw [if_pos rfl, this, show (y :: l).contains y = true by simp]; simp
      · rw [if_neg e]
        have : (y :: l).contains x = l.contains x := by rw [List.contains_cons, show (x == y) = false by simp; exact fun h => e h.symm]; rfl
        rw [this]
  rw [main _ _ hnd]; simp
end Go.Sim

/- What the functions of layer 19 answer: the document's choices. -/
namespace Go.Sim
open Go.RowKit Go.Proofs
set_option linter.unusedVariables false
set_option linter.unusedSimpArgs false
set_option linter.unusedSectionVars false
set_option maxRecDepth 100000
theorem those_len {c : Cf} {t : List (List En)} {x : Px} : (thoseR c t x).length ≤ 1 + t.length := by
  unfold thoseR
  split
  · rw [List.length_append]
    have h1 := List.length_filterMap_le (fun (k : Nat) => (t[k]?).bind fun l => (getE l x).bind fun p => inR c (k : Int) x p) (List.range (min t.length c.s.length))
    rw [List.length_range] at h1
    split <;> simp <;> omega
  · simp
/-- Are there few enough prefixes? -/
def roomT (c : Cf) (t : List (List En)) : Prop := (seenL c t).length * 128 ≤ big
def rowX (l : List Px) (r : List En) : List Px := r.foldl (fun l e => putP e.x l) l
theorem rowX_map (l : List Px) (r : List En) : rowX l r = (r.map En.x).foldl (fun l x => putP x l) l := by rw [List.foldl_map]; rfl
theorem rows_flat : ∀ (t : List (List En)) (l : List Px), t.foldl rowX l = (t.flatMap fun r => r.map En.x).foldl (fun l x => putP x l) l
  | [], l => rfl
  | r :: t, l => by rw [List.foldl_cons, List.flatMap_cons, List.foldl_append, rows_flat t, rowX_map]
theorem keys_rows (c : Cf) (t : List (List En)) : keysR c t = (t.take c.s.length).foldl rowX (c.w.foldl (fun l x => putP x l) []) := by
  unfold keysR seenL
  rw [List.foldl_append, rows_flat]
theorem flat_take_le {α : Type} {t : List (List α)} {j : Nat} {r : List α} (h : t[j]? = some r) : ((t.take j).flatten).length + r.length ≤ t.flatten.length := flat_take h
theorem fm_flat {α β : Type} (f : α → List β) (t : List α) : (t.flatMap f) = (t.map f).flatten := by rw [List.flatMap_def]
variable [Lv]
theorem those_short {c : Cf} {t : List (List En)} {x : Px} : ∀ r ∈ thoseR c t x, r.p.s.length ≤ 32 := fun r hr => by
  rcases (mem_those.1 hr).2 with ⟨_, rfl⟩ | ⟨k, l, p, h1, h2, h3, h4⟩
  · exact Nat.zero_le _
  · obtain ⟨g1, g2, g3, i, s, m, u, e, hi, hs, h4', h5, h6, h7, h8, h9, rfl⟩ := inR_spec h4
    exact h5
theorem choice_step {c : Cf} {t : List (List En)} {x : Px} : locR c t = (keysR c t).foldl (fun r x => r ++ (choiceR c t x).toList) [] := filterMap_flat _ _
/-- How many prefixes there are at most, behind so many tables. -/
theorem weights (c : Cf) (t : List (List En)) : ∃ w : Nat → Nat, w 0 = c.w.length ∧ (∀ j r, (t.take c.s.length)[j]? = some r → w (j + 1) = w j + r.length ∧ w (j + 1) ≤ (seenL c t).length) ∧ w (t.take c.s.length).length ≤ (seenL c t).length := by
  have hsl : (seenL c t).length = c.w.length + (((t.take c.s.length).map fun r => r.map En.x).flatten).length := by unfold seenL; rw [List.length_append, fm_flat]
  refine ⟨fun j => c.w.length + ((((t.take c.s.length).map fun r => r.map En.x).take j).flatten).length, by simp, fun j r hr => ?_, ?_⟩
  · have hm : ((t.take c.s.length).map fun r => r.map En.x)[j]? = some (r.map En.x) := by rw [List.getElem?_map, hr]; rfl
    have h1 := flat_take hm
    have h2 := take_flat hm
    rw [List.length_map] at h1
    refine ⟨?_, ?_⟩
    · show c.w.length + _ = c.w.length + _ + _
      rw [h2, List.length_append, List.length_map, Nat.add_assoc]
    · show c.w.length + _ ≤ _
      rw [h2, List.length_append, List.length_map, hsl]
      exact Nat.add_le_add_left h1 _
  · show c.w.length + _ ≤ _
    rw [hsl, List.take_of_length_le (by rw [List.length_map]; exact Nat.le_refl _)]
    exact Nat.le_refl _
theorem cond_two {α : Type} {a b : Bool} {x y : α} (h : (a && b) = false) : (bif a then bif b then x else y else y) = y := by cases a <;> cases b <;> simp_all
theorem cap_le {a b c k B : Nat} (h : a ≤ b + k) (hk : k < c) (hc : (b + c + 2) * 16 ≤ B) : (a + 2) * 16 ≤ B ∧ a ≤ B := by omega
/-- What has been laid so far: nothing yet, or some. -/
def stepO (o : Option (List Px)) (x : Px) : Option (List Px) := some (putP x (o.getD []))
def rowO (o : Option (List Px)) (r : List En) : Option (List Px) := r.foldl (fun o e => stepO o e.x) o
theorem foldO {α : Type} (f : α → Px) : ∀ (m : List α) (o : Option (List Px)), (m.foldl (fun o a => stepO o (f a)) o).getD [] = m.foldl (fun l a => putP (f a) l) (o.getD [])
  | [], o => rfl
  | x :: m, o => by rw [List.foldl_cons, List.foldl_cons, foldO f m]; rfl
theorem rowO_get (o : Option (List Px)) (r : List En) : (rowO o r).getD [] = rowX (o.getD []) r := foldO En.x r o
theorem rowsO_get : ∀ (t : List (List En)) (o : Option (List Px)), (t.foldl rowO o).getD [] = t.foldl rowX (o.getD [])
  | [], o => rfl
  | r :: t, o => by rw [List.foldl_cons, List.foldl_cons, rowsO_get t, rowO_get]
def oL1 (c : Cf) (t : List (List En)) (o : Option (List Px)) (i : Int) : St := match o with | none => sL1o c t i | some l => sL1 c t l i
def oL2 (c : Cf) (t : List (List En)) (o : Option (List Px)) (i : Int) : St := match o with | none => sL2o c t i | some l => sL2 c t l i
def oL3 (c : Cf) (t : List (List En)) (o : Option (List Px)) (i j : Int) : St := match o with | none => sL3o c t i j | some l => sL3 c t l i j
def oX (c : Cf) (t : List (List En)) (o : Option (List Px)) : St := match o with
  | none => ⟨slots 87 [(1, .t (.sl 1 (tabT t))), (2, .ptr 0 0), (5, .own 1)], [.box 25 6 (.t c.t), .row 28 2 []]⟩
  | some l => ⟨slots 87 [(1, .t (.sl 1 (tabT t))), (2, .ptr 0 0), (5, .t (.sl 2 (l.map Px.t)))], [.box 25 6 (.t c.t)]⟩
end Go.Sim

/- Which functions and types of this seat the sort of the library leans on (printed by wip/tools/genlay.py). -/
namespace Go.Proofs
set_option maxRecDepth 100000
def sortL_ren : Go.Shelf.Ren := ⟨fun | 6 => 29 | 15 => 58 | 14 => 57 | 28 => 86 | 29 => 87 | 20 => 78 | 21 => 79 | 22 => 80 | 23 => 81 | 24 => 82 | 25 => 83 | 26 => 84 | 27 => 85 | 46 => 96 | 47 => 97 | 48 => 98 | 49 => 99 | 50 => 100 | 57 => 105 | n => n, fun | 22 => 42 | 24 => 49 | 25 => 80 | 3 => 3 | 39 => 103 | 0 => 0 | 53 => 126 | 55 => 128 | 4 => 4 | 46 => 120 | 45 => 119 | 50 => 66 | 5 => 5 | 9 => 9 | 66 => 136 | 70 => 140 | 76 => 148 | 77 => 149 | n => n, fun | n => n⟩
theorem sortL : Go.Proofs.SlLaysF0.n6 Tryz.prog sortL_ren where
  mixed := by kernel_rfl
  f6 := ⟨ "slices.SortFunc[[]ridgeway/api.Choice,ridgeway/api.Choice]", by decide, Tryz.func29.trans (congrArg some (by kernel_rfl))⟩
  f14 := ⟨ "slices.pdqsortCmpFunc[ridgeway/api.Choice]", by decide, Tryz.func57.trans (congrArg some (by kernel_rfl))⟩
  f15 := Tryz.func58.trans (congrArg some (by kernel_rfl))
  f20 := ⟨ "slices.insertionSortCmpFunc[ridgeway/api.Choice]", by decide, Tryz.func78.trans (congrArg some (by kernel_rfl))⟩
  f21 := ⟨ "slices.heapSortCmpFunc[ridgeway/api.Choice]", by decide, Tryz.func79.trans (congrArg some (by kernel_rfl))⟩
  f22 := ⟨ "slices.breakPatternsCmpFunc[ridgeway/api.Choice]", by decide, Tryz.func80.trans (congrArg some (by kernel_rfl))⟩
  f23 := ⟨ "slices.choosePivotCmpFunc[ridgeway/api.Choice]", by decide, Tryz.func81.trans (congrArg some (by kernel_rfl))⟩
  f24 := ⟨ "slices.reverseRangeCmpFunc[ridgeway/api.Choice]", by decide, Tryz.func82.trans (congrArg some (by kernel_rfl))⟩
  f25 := ⟨ "slices.partialInsertionSortCmpFunc[ridgeway/api.Choice]", by decide, Tryz.func83.trans (congrArg some (by kernel_rfl))⟩
  f26 := ⟨ "slices.partitionEqualCmpFunc[ridgeway/api.Choice]", by decide, Tryz.func84.trans (congrArg some (by kernel_rfl))⟩
  f27 := ⟨ "slices.partitionCmpFunc[ridgeway/api.Choice]", by decide, Tryz.func85.trans (congrArg some (by kernel_rfl))⟩
  f28 := Tryz.func86.trans (congrArg some (by kernel_rfl))
  f29 := Tryz.func87.trans (congrArg some (by kernel_rfl))
  f46 := ⟨ "slices.siftDownCmpFunc[ridgeway/api.Choice]", by decide, Tryz.func96.trans (congrArg some (by kernel_rfl))⟩
  f47 := Tryz.func97.trans (congrArg some (by kernel_rfl))
  f48 := Tryz.func98.trans (congrArg some (by kernel_rfl))
  f49 := ⟨ "slices.medianAdjacentCmpFunc[ridgeway/api.Choice]", by decide, Tryz.func99.trans (congrArg some (by kernel_rfl))⟩
  f50 := ⟨ "slices.medianCmpFunc[ridgeway/api.Choice]", by decide, Tryz.func100.trans (congrArg some (by kernel_rfl))⟩
  f57 := ⟨ "slices.order2CmpFunc[ridgeway/api.Choice]", by decide, Tryz.func105.trans (congrArg some (by kernel_rfl))⟩
  t0 := Tryz.underlying0
  a0 := Tryz.isAgg0
  z0 := Tryz.sizeOf0
  v0 := Tryz.zeroValue0
  t3 := Tryz.underlying3
  a3 := Tryz.isAgg3
  z3 := Tryz.sizeOf3
  v3 := Tryz.zeroValue3
  t4 := Tryz.underlying4
  a4 := Tryz.isAgg4
  z4 := Tryz.sizeOf4
  v4 := Tryz.zeroValue4
  t5 := Tryz.underlying5
  a5 := Tryz.isAgg5
  z5 := Tryz.sizeOf5
  v5 := Tryz.zeroValue5
  t9 := Tryz.underlying9
  a9 := Tryz.isAgg9
  z9 := Tryz.sizeOf9
  v9 := Tryz.zeroValue9
  t22 := Tryz.underlying42
  a22 := Tryz.isAgg42
  z22 := Tryz.sizeOf42
  v22 := Tryz.zeroValue42
  t25 := Tryz.underlying80
  a25 := Tryz.isAgg80
  z25 := Tryz.sizeOf80
  v25 := Tryz.zeroValue80
  t39 := Tryz.underlying103
  a39 := Tryz.isAgg103
  z39 := Tryz.sizeOf103
  v39 := Tryz.zeroValue103
  t45 := Tryz.underlying119
  a45 := Tryz.isAgg119
  z45 := Tryz.sizeOf119
  v45 := Tryz.zeroValue119
  t46 := Tryz.underlying120
  a46 := Tryz.isAgg120
  z46 := Tryz.sizeOf120
  v46 := Tryz.zeroValue120
  t50 := Tryz.underlying66
  a50 := Tryz.isAgg66
  z50 := Tryz.sizeOf66
  v50 := Tryz.zeroValue66
  t53 := Tryz.underlying126
  a53 := Tryz.isAgg126
  z53 := Tryz.sizeOf126
  v53 := Tryz.zeroValue126
  t55 := Tryz.underlying128
  a55 := Tryz.isAgg128
  z55 := Tryz.sizeOf128
  v55 := Tryz.zeroValue128
  t66 := Tryz.underlying136
  a66 := Tryz.isAgg136
  z66 := Tryz.sizeOf136
  v66 := Tryz.zeroValue136
  t70 := Tryz.underlying140
  a70 := Tryz.isAgg140
  z70 := Tryz.sizeOf140
  v70 := Tryz.zeroValue140
  t76 := Tryz.underlying148
  a76 := Tryz.isAgg148
  z76 := Tryz.sizeOf148
  v76 := Tryz.zeroValue148
  t77 := Tryz.underlying149
  a77 := Tryz.isAgg149
  z77 := Tryz.sizeOf149
  v77 := Tryz.zeroValue149
end Go.Proofs
