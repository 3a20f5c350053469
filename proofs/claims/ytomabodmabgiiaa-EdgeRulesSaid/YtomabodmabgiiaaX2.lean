/- The texts of a proof, one behind the other: an interpreter and its soundness, what the functions of the program answer, and plain laws on that. -/
import Derived.Test.YtomabodmabgiiaaX1
import Derived.Test.YtomabodmabgiiaaK3
set_option linter.unusedVariables false
set_option linter.unusedSimpArgs false
set_option linter.unnecessarySimpa false
set_option linter.unusedSectionVars false
/- What calls come to: printed by wip/tools/eq2.py: rounds of edge.all. -/
namespace Go.Sim
open Go.RowKit Go.Proofs
set_option linter.unusedVariables false
set_option maxRecDepth 100000
variable [Lv]

def pnI1 (c : Cf) (k : Int) (x : Px) (p : Pa) (b : Bool) : Pin := ⟨33, [.ptr 0 0, .ptr 1 0, .ptr 2 0, .ptr 3 0], inH c k x p (T.agg [i64 0, i64 0, i64 0, i64 0, i64 0, i64 0]) 0, .t (.bool b), inH c k x p (T.agg [i64 0, i64 0, i64 0, i64 0, i64 0, i64 0]) 0⟩
def pnI2 (c : Cf) (k : Int) (x : Px) (p : Pa) (b : Bool) : Pin := ⟨36, [.ptr 3 0, .ptr 0 0, .ptr 1 0], inH c k x p (T.agg [i64 0, i64 0, i64 0, i64 0, i64 0, i64 0]) 0, .t (.bool b), inH c k x p (T.agg [i64 0, i64 0, i64 0, i64 0, i64 0, i64 0]) 0⟩
def pnI3 (c : Cf) (k : Int) (x : Px) (p : Pa) (b : Bool) : Pin := ⟨37, [.ptr 3 0, .ptr 0 0], inH c k x p (T.agg [i64 0, i64 0, i64 0, i64 0, i64 0, i64 0]) 0, .t (.bool b), inH c k x p (T.agg [i64 0, i64 0, i64 0, i64 0, i64 0, i64 0]) 0⟩
def pnI4 (c : Cf) (k : Int) (x : Px) (p : Pa) (b : Bool) (o : Int) : Pin := ⟨39, [.ptr 0 0, .ptr 1 0, .ptr 3 0, .ptr 6 0], inH c k x p (T.agg [i64 0, i64 0, i64 0, i64 0, i64 0, i64 0]) 0, .t (.bool b), inH c k x p (T.agg [i64 0, i64 0, i64 0, i64 0, i64 0, i64 0]) o⟩
def pnI5 (c : Cf) (k : Int) (x : Px) (p : Pa) (b : Bool) (o : Int) (r : T) : Pin := ⟨40, [.ptr 0 0, .ptr 1 0, .ptr 2 0, .ptr 3 0, .ptr 5 0], inH c k x p (T.agg [i64 0, i64 0, i64 0, i64 0, i64 0, i64 0]) o, .t (.bool b), inH c k x p r o⟩
def pnAll (c : Cf) (k : Int) (x : Px) (p : Pa) (b : Bool) (o : Int) (r : T) : Pin := ⟨32, [.own 7], inH0 c k x p (T.agg [i64 0, i64 0, i64 0, i64 0, i64 0, i64 0]) 0, .t (.bool b), inH c k x p r o⟩
def sAl0 (c : Cf) (k : Int) (x : Px) (p : Pa) (r : T) (o : Int) : St := ⟨slots 15 [(5, .own 7), (6, .t (i64 5)), (7, .t (i64 0))], [.box 25 6 (.t c.t), .box 3 1 (.t (i64 k)), .box 27 2 (.t x.t), .box 30 4 (.t p.t), .box 34 6 (.agg [.t (i64 0), .t (i64 0), .own 8, .t (i64 0), .t (i64 0), .t (i64 0)]), .box 54 6 (.t r), .box 3 1 (.t (i64 o)), .vec 31 inV, .row 3 1 []]⟩
def sAl1 (c : Cf) (k : Int) (x : Px) (p : Pa) (r : T) (o : Int) : St := ⟨slots 15 [(5, .own 7), (6, .t (i64 5)), (7, .t (i64 1))], [.box 25 6 (.t c.t), .box 3 1 (.t (i64 k)), .box 27 2 (.t x.t), .box 30 4 (.t p.t), .box 34 6 (.agg [.t (i64 0), .t (i64 0), .own 8, .t (i64 0), .t (i64 0), .t (i64 0)]), .box 54 6 (.t r), .box 3 1 (.t (i64 o)), .vec 31 inV, .row 3 1 []]⟩
def sAl2 (c : Cf) (k : Int) (x : Px) (p : Pa) (r : T) (o : Int) : St := ⟨slots 15 [(5, .own 7), (6, .t (i64 5)), (7, .t (i64 2))], [.box 25 6 (.t c.t), .box 3 1 (.t (i64 k)), .box 27 2 (.t x.t), .box 30 4 (.t p.t), .box 34 6 (.agg [.t (i64 0), .t (i64 0), .own 8, .t (i64 0), .t (i64 0), .t (i64 0)]), .box 54 6 (.t r), .box 3 1 (.t (i64 o)), .vec 31 inV, .row 3 1 []]⟩
def sAl3 (c : Cf) (k : Int) (x : Px) (p : Pa) (r : T) (o : Int) : St := ⟨slots 15 [(5, .own 7), (6, .t (i64 5)), (7, .t (i64 3))], [.box 25 6 (.t c.t), .box 3 1 (.t (i64 k)), .box 27 2 (.t x.t), .box 30 4 (.t p.t), .box 34 6 (.agg [.t (i64 0), .t (i64 0), .own 8, .t (i64 0), .t (i64 0), .t (i64 0)]), .box 54 6 (.t r), .box 3 1 (.t (i64 o)), .vec 31 inV, .row 3 1 []]⟩
def sAl4 (c : Cf) (k : Int) (x : Px) (p : Pa) (r : T) (o : Int) : St := ⟨slots 15 [(5, .own 7), (6, .t (i64 5)), (7, .t (i64 4))], [.box 25 6 (.t c.t), .box 3 1 (.t (i64 k)), .box 27 2 (.t x.t), .box 30 4 (.t p.t), .box 34 6 (.agg [.t (i64 0), .t (i64 0), .own 8, .t (i64 0), .t (i64 0), .t (i64 0)]), .box 54 6 (.t r), .box 3 1 (.t (i64 o)), .vec 31 inV, .row 3 1 []]⟩
def sAl5 (c : Cf) (k : Int) (x : Px) (p : Pa) (r : T) (o : Int) : St := ⟨slots 15 [(5, .own 7), (6, .t (i64 5)), (7, .t (i64 5))], [.box 25 6 (.t c.t), .box 3 1 (.t (i64 k)), .box 27 2 (.t x.t), .box 30 4 (.t p.t), .box 34 6 (.agg [.t (i64 0), .t (i64 0), .own 8, .t (i64 0), .t (i64 0), .t (i64 0)]), .box 54 6 (.t r), .box 3 1 (.t (i64 o)), .vec 31 inV, .row 3 1 []]⟩
theorem pk32 (N : Nat) (c : Cf) (k : Int) (x : Px) (p : Pa) (b : Bool) {β : Type} (K : PV → List AObj → Res β) : funK env (recP env N [pnI1 c k x p b]) N 32 [.own 7] [.box 25 6 (.t c.t), .box 3 1 (.t (i64 k)), .box 27 2 (.t x.t), .box 30 4 (.t p.t), .box 34 6 (.agg [.t (i64 0), .t (i64 0), .nil 3 1, .t (i64 0), .t (i64 0), .t (i64 0)]), .box 54 6 (.t (T.agg [i64 0, i64 0, i64 0, i64 0, i64 0, i64 0])), .box 3 1 (.t (i64 0)), .vec 31 inV] K = loopR env (recP env N [pnI1 c k x p b]) N 32 8 2 K { tmps := slots 15 [(5, PV.own 7), (6, PV.t (i64 5)), (7, PV.t (i64 0))], heap := [AObj.box 25 6 (PV.t c.t), AObj.box 3 1 (PV.t (i64 k)), AObj.box 27 2 (PV.t x.t), AObj.box 30 4 (PV.t p.t), AObj.box 34 6 (PV.agg [PV.t (i64 0), PV.t (i64 0), PV.own 8, PV.t (i64 0), PV.t (i64 0), PV.t (i64 0)]), AObj.box 54 6 (PV.t (T.agg [i64 0, i64 0, i64 0, i64 0, i64 0, i64 0])), AObj.box 3 1 (PV.t (i64 0)), AObj.vec 31 [PV.fn 33 [] [PV.ptr 0 0, PV.ptr 1 0, PV.ptr 2 0, PV.ptr 3 0], PV.fn 36 [] [PV.ptr 3 0, PV.ptr 0 0, PV.ptr 1 0], PV.fn 37 [] [PV.ptr 3 0, PV.ptr 0 0], PV.fn 39 [] [PV.ptr 0 0, PV.ptr 1 0, PV.ptr 3 0, PV.ptr 6 0], PV.fn 40 [] [PV.ptr 0 0, PV.ptr 1 0, PV.ptr 2 0, PV.ptr 3 0, PV.ptr 5 0]], AObj.row 3 1 []] } := by kernel_rfl
theorem pkb32_2 (N : Nat) (c : Cf) (k : Int) (x : Px) (p : Pa) (b : Bool) : bodyR env (recP env N [pnI1 c k x p b]) N 32 8 2 (sAl0 c k x p (T.agg [i64 0, i64 0, i64 0, i64 0, i64 0, i64 0]) 0) = chkP ([PV.ptr 0 0, PV.ptr 1 0, PV.ptr 2 0, PV.ptr 3 0] = [PV.ptr 0 0, PV.ptr 1 0, PV.ptr 2 0, PV.ptr 3 0] ∧ [AObj.box 25 6 (PV.t c.t), AObj.box 3 1 (PV.t (i64 k)), AObj.box 27 2 (PV.t x.t), AObj.box 30 4 (PV.t p.t), AObj.box 34 6 (PV.agg [PV.t (i64 0), PV.t (i64 0), PV.own 8, PV.t (i64 0), PV.t (i64 0), PV.t (i64 0)]), AObj.box 54 6 (PV.t (T.agg [i64 0, i64 0, i64 0, i64 0, i64 0, i64 0])), AObj.box 3 1 (PV.t (i64 0)), AObj.vec 31 [PV.fn 33 [] [PV.ptr 0 0, PV.ptr 1 0, PV.ptr 2 0, PV.ptr 3 0], PV.fn 36 [] [PV.ptr 3 0, PV.ptr 0 0, PV.ptr 1 0], PV.fn 37 [] [PV.ptr 3 0, PV.ptr 0 0], PV.fn 39 [] [PV.ptr 0 0, PV.ptr 1 0, PV.ptr 3 0, PV.ptr 6 0], PV.fn 40 [] [PV.ptr 0 0, PV.ptr 1 0, PV.ptr 2 0, PV.ptr 3 0, PV.ptr 5 0]], AObj.row 3 1 []] = [AObj.box 25 6 (PV.t c.t), AObj.box 3 1 (PV.t (i64 k)), AObj.box 27 2 (PV.t x.t), AObj.box 30 4 (PV.t p.t), AObj.box 34 6 (PV.agg [PV.t (i64 0), PV.t (i64 0), PV.own 8, PV.t (i64 0), PV.t (i64 0), PV.t (i64 0)]), AObj.box 54 6 (PV.t (T.agg [i64 0, i64 0, i64 0, i64 0, i64 0, i64 0])), AObj.box 3 1 (PV.t (i64 0)), AObj.vec 31 [PV.fn 33 [] [PV.ptr 0 0, PV.ptr 1 0, PV.ptr 2 0, PV.ptr 3 0], PV.fn 36 [] [PV.ptr 3 0, PV.ptr 0 0, PV.ptr 1 0], PV.fn 37 [] [PV.ptr 3 0, PV.ptr 0 0], PV.fn 39 [] [PV.ptr 0 0, PV.ptr 1 0, PV.ptr 3 0, PV.ptr 6 0], PV.fn 40 [] [PV.ptr 0 0, PV.ptr 1 0, PV.ptr 2 0, PV.ptr 3 0, PV.ptr 5 0]], AObj.row 3 1 []]) (bif !b then Res.ok (Ex.ret, { tmps := slots 15 [(2, PV.t (T.bool false))], heap := [AObj.box 25 6 (PV.t c.t), AObj.box 3 1 (PV.t (i64 k)), AObj.box 27 2 (PV.t x.t), AObj.box 30 4 (PV.t p.t), AObj.box 34 6 (PV.agg [PV.t (i64 0), PV.t (i64 0), PV.own 8, PV.t (i64 0), PV.t (i64 0), PV.t (i64 0)]), AObj.box 54 6 (PV.t (T.agg [i64 0, i64 0, i64 0, i64 0, i64 0, i64 0])), AObj.box 3 1 (PV.t (i64 0)), AObj.vec 31 [PV.fn 33 [] [PV.ptr 0 0, PV.ptr 1 0, PV.ptr 2 0, PV.ptr 3 0], PV.fn 36 [] [PV.ptr 3 0, PV.ptr 0 0, PV.ptr 1 0], PV.fn 37 [] [PV.ptr 3 0, PV.ptr 0 0], PV.fn 39 [] [PV.ptr 0 0, PV.ptr 1 0, PV.ptr 3 0, PV.ptr 6 0], PV.fn 40 [] [PV.ptr 0 0, PV.ptr 1 0, PV.ptr 2 0, PV.ptr 3 0, PV.ptr 5 0]], AObj.row 3 1 []] }) else Res.ok (Ex.norm, { tmps := slots 15 [(5, PV.own 7), (6, PV.t (i64 5)), (7, PV.t (i64 1))], heap := [AObj.box 25 6 (PV.t c.t), AObj.box 3 1 (PV.t (i64 k)), AObj.box 27 2 (PV.t x.t), AObj.box 30 4 (PV.t p.t), AObj.box 34 6 (PV.agg [PV.t (i64 0), PV.t (i64 0), PV.own 8, PV.t (i64 0), PV.t (i64 0), PV.t (i64 0)]), AObj.box 54 6 (PV.t (T.agg [i64 0, i64 0, i64 0, i64 0, i64 0, i64 0])), AObj.box 3 1 (PV.t (i64 0)), AObj.vec 31 [PV.fn 33 [] [PV.ptr 0 0, PV.ptr 1 0, PV.ptr 2 0, PV.ptr 3 0], PV.fn 36 [] [PV.ptr 3 0, PV.ptr 0 0, PV.ptr 1 0], PV.fn 37 [] [PV.ptr 3 0, PV.ptr 0 0], PV.fn 39 [] [PV.ptr 0 0, PV.ptr 1 0, PV.ptr 3 0, PV.ptr 6 0], PV.fn 40 [] [PV.ptr 0 0, PV.ptr 1 0, PV.ptr 2 0, PV.ptr 3 0, PV.ptr 5 0]], AObj.row 3 1 []] })) := by kernel_rfl
theorem pkt32_2_ret (N : Nat) (c : Cf) (k : Int) (x : Px) (p : Pa) (b : Bool) (H : List AObj) {β : Type} (K : PV → List AObj → Res β) : tailR env (recP env N [pnI1 c k x p b]) N 32 8 2 K (.ret) (⟨slots 15 [(2, .t (.bool false))], H⟩) = K (PV.t (T.bool false)) H := by kernel_rfl
theorem pk32_2 (N : Nat) (c : Cf) (k : Int) (x : Px) (p : Pa) (b : Bool) {β : Type} (K : PV → List AObj → Res β) : funK env (recP env N [pnI1 c k x p true, pnI2 c k x p b]) N 32 [.own 7] [.box 25 6 (.t c.t), .box 3 1 (.t (i64 k)), .box 27 2 (.t x.t), .box 30 4 (.t p.t), .box 34 6 (.agg [.t (i64 0), .t (i64 0), .nil 3 1, .t (i64 0), .t (i64 0), .t (i64 0)]), .box 54 6 (.t (T.agg [i64 0, i64 0, i64 0, i64 0, i64 0, i64 0])), .box 3 1 (.t (i64 0)), .vec 31 inV] K = loopR env (recP env N [pnI1 c k x p true, pnI2 c k x p b]) N 32 8 2 K { tmps := slots 15 [(5, PV.own 7), (6, PV.t (i64 5)), (7, PV.t (i64 0))], heap := [AObj.box 25 6 (PV.t c.t), AObj.box 3 1 (PV.t (i64 k)), AObj.box 27 2 (PV.t x.t), AObj.box 30 4 (PV.t p.t), AObj.box 34 6 (PV.agg [PV.t (i64 0), PV.t (i64 0), PV.own 8, PV.t (i64 0), PV.t (i64 0), PV.t (i64 0)]), AObj.box 54 6 (PV.t (T.agg [i64 0, i64 0, i64 0, i64 0, i64 0, i64 0])), AObj.box 3 1 (PV.t (i64 0)), AObj.vec 31 [PV.fn 33 [] [PV.ptr 0 0, PV.ptr 1 0, PV.ptr 2 0, PV.ptr 3 0], PV.fn 36 [] [PV.ptr 3 0, PV.ptr 0 0, PV.ptr 1 0], PV.fn 37 [] [PV.ptr 3 0, PV.ptr 0 0], PV.fn 39 [] [PV.ptr 0 0, PV.ptr 1 0, PV.ptr 3 0, PV.ptr 6 0], PV.fn 40 [] [PV.ptr 0 0, PV.ptr 1 0, PV.ptr 2 0, PV.ptr 3 0, PV.ptr 5 0]], AObj.row 3 1 []] } := by kernel_rfl
theorem pkb32_2_2 (N : Nat) (c : Cf) (k : Int) (x : Px) (p : Pa) (b : Bool) : bodyR env (recP env N [pnI1 c k x p true, pnI2 c k x p b]) N 32 8 2 (sAl0 c k x p (T.agg [i64 0, i64 0, i64 0, i64 0, i64 0, i64 0]) 0) = chkP ([PV.ptr 0 0, PV.ptr 1 0, PV.ptr 2 0, PV.ptr 3 0] = [PV.ptr 0 0, PV.ptr 1 0, PV.ptr 2 0, PV.ptr 3 0] ∧ [AObj.box 25 6 (PV.t c.t), AObj.box 3 1 (PV.t (i64 k)), AObj.box 27 2 (PV.t x.t), AObj.box 30 4 (PV.t p.t), AObj.box 34 6 (PV.agg [PV.t (i64 0), PV.t (i64 0), PV.own 8, PV.t (i64 0), PV.t (i64 0), PV.t (i64 0)]), AObj.box 54 6 (PV.t (T.agg [i64 0, i64 0, i64 0, i64 0, i64 0, i64 0])), AObj.box 3 1 (PV.t (i64 0)), AObj.vec 31 [PV.fn 33 [] [PV.ptr 0 0, PV.ptr 1 0, PV.ptr 2 0, PV.ptr 3 0], PV.fn 36 [] [PV.ptr 3 0, PV.ptr 0 0, PV.ptr 1 0], PV.fn 37 [] [PV.ptr 3 0, PV.ptr 0 0], PV.fn 39 [] [PV.ptr 0 0, PV.ptr 1 0, PV.ptr 3 0, PV.ptr 6 0], PV.fn 40 [] [PV.ptr 0 0, PV.ptr 1 0, PV.ptr 2 0, PV.ptr 3 0, PV.ptr 5 0]], AObj.row 3 1 []] = [AObj.box 25 6 (PV.t c.t), AObj.box 3 1 (PV.t (i64 k)), AObj.box 27 2 (PV.t x.t), AObj.box 30 4 (PV.t p.t), AObj.box 34 6 (PV.agg [PV.t (i64 0), PV.t (i64 0), PV.own 8, PV.t (i64 0), PV.t (i64 0), PV.t (i64 0)]), AObj.box 54 6 (PV.t (T.agg [i64 0, i64 0, i64 0, i64 0, i64 0, i64 0])), AObj.box 3 1 (PV.t (i64 0)), AObj.vec 31 [PV.fn 33 [] [PV.ptr 0 0, PV.ptr 1 0, PV.ptr 2 0, PV.ptr 3 0], PV.fn 36 [] [PV.ptr 3 0, PV.ptr 0 0, PV.ptr 1 0], PV.fn 37 [] [PV.ptr 3 0, PV.ptr 0 0], PV.fn 39 [] [PV.ptr 0 0, PV.ptr 1 0, PV.ptr 3 0, PV.ptr 6 0], PV.fn 40 [] [PV.ptr 0 0, PV.ptr 1 0, PV.ptr 2 0, PV.ptr 3 0, PV.ptr 5 0]], AObj.row 3 1 []]) (Res.ok (Ex.norm, { tmps := slots 15 [(5, PV.own 7), (6, PV.t (i64 5)), (7, PV.t (i64 1))], heap := [AObj.box 25 6 (PV.t c.t), AObj.box 3 1 (PV.t (i64 k)), AObj.box 27 2 (PV.t x.t), AObj.box 30 4 (PV.t p.t), AObj.box 34 6 (PV.agg [PV.t (i64 0), PV.t (i64 0), PV.own 8, PV.t (i64 0), PV.t (i64 0), PV.t (i64 0)]), AObj.box 54 6 (PV.t (T.agg [i64 0, i64 0, i64 0, i64 0, i64 0, i64 0])), AObj.box 3 1 (PV.t (i64 0)), AObj.vec 31 [PV.fn 33 [] [PV.ptr 0 0, PV.ptr 1 0, PV.ptr 2 0, PV.ptr 3 0], PV.fn 36 [] [PV.ptr 3 0, PV.ptr 0 0, PV.ptr 1 0], PV.fn 37 [] [PV.ptr 3 0, PV.ptr 0 0], PV.fn 39 [] [PV.ptr 0 0, PV.ptr 1 0, PV.ptr 3 0, PV.ptr 6 0], PV.fn 40 [] [PV.ptr 0 0, PV.ptr 1 0, PV.ptr 2 0, PV.ptr 3 0, PV.ptr 5 0]], AObj.row 3 1 []] })) := by kernel_rfl
theorem pkb32_2_3 (N : Nat) (c : Cf) (k : Int) (x : Px) (p : Pa) (b : Bool) : bodyR env (recP env N [pnI1 c k x p true, pnI2 c k x p b]) N 32 8 2 (sAl1 c k x p (T.agg [i64 0, i64 0, i64 0, i64 0, i64 0, i64 0]) 0) = chkP ([PV.ptr 3 0, PV.ptr 0 0, PV.ptr 1 0] = [PV.ptr 3 0, PV.ptr 0 0, PV.ptr 1 0] ∧ [AObj.box 25 6 (PV.t c.t), AObj.box 3 1 (PV.t (i64 k)), AObj.box 27 2 (PV.t x.t), AObj.box 30 4 (PV.t p.t), AObj.box 34 6 (PV.agg [PV.t (i64 0), PV.t (i64 0), PV.own 8, PV.t (i64 0), PV.t (i64 0), PV.t (i64 0)]), AObj.box 54 6 (PV.t (T.agg [i64 0, i64 0, i64 0, i64 0, i64 0, i64 0])), AObj.box 3 1 (PV.t (i64 0)), AObj.vec 31 [PV.fn 33 [] [PV.ptr 0 0, PV.ptr 1 0, PV.ptr 2 0, PV.ptr 3 0], PV.fn 36 [] [PV.ptr 3 0, PV.ptr 0 0, PV.ptr 1 0], PV.fn 37 [] [PV.ptr 3 0, PV.ptr 0 0], PV.fn 39 [] [PV.ptr 0 0, PV.ptr 1 0, PV.ptr 3 0, PV.ptr 6 0], PV.fn 40 [] [PV.ptr 0 0, PV.ptr 1 0, PV.ptr 2 0, PV.ptr 3 0, PV.ptr 5 0]], AObj.row 3 1 []] = [AObj.box 25 6 (PV.t c.t), AObj.box 3 1 (PV.t (i64 k)), AObj.box 27 2 (PV.t x.t), AObj.box 30 4 (PV.t p.t), AObj.box 34 6 (PV.agg [PV.t (i64 0), PV.t (i64 0), PV.own 8, PV.t (i64 0), PV.t (i64 0), PV.t (i64 0)]), AObj.box 54 6 (PV.t (T.agg [i64 0, i64 0, i64 0, i64 0, i64 0, i64 0])), AObj.box 3 1 (PV.t (i64 0)), AObj.vec 31 [PV.fn 33 [] [PV.ptr 0 0, PV.ptr 1 0, PV.ptr 2 0, PV.ptr 3 0], PV.fn 36 [] [PV.ptr 3 0, PV.ptr 0 0, PV.ptr 1 0], PV.fn 37 [] [PV.ptr 3 0, PV.ptr 0 0], PV.fn 39 [] [PV.ptr 0 0, PV.ptr 1 0, PV.ptr 3 0, PV.ptr 6 0], PV.fn 40 [] [PV.ptr 0 0, PV.ptr 1 0, PV.ptr 2 0, PV.ptr 3 0, PV.ptr 5 0]], AObj.row 3 1 []]) (bif !b then Res.ok (Ex.ret, { tmps := slots 15 [(2, PV.t (T.bool false))], heap := [AObj.box 25 6 (PV.t c.t), AObj.box 3 1 (PV.t (i64 k)), AObj.box 27 2 (PV.t x.t), AObj.box 30 4 (PV.t p.t), AObj.box 34 6 (PV.agg [PV.t (i64 0), PV.t (i64 0), PV.own 8, PV.t (i64 0), PV.t (i64 0), PV.t (i64 0)]), AObj.box 54 6 (PV.t (T.agg [i64 0, i64 0, i64 0, i64 0, i64 0, i64 0])), AObj.box 3 1 (PV.t (i64 0)), AObj.vec 31 [PV.fn 33 [] [PV.ptr 0 0, PV.ptr 1 0, PV.ptr 2 0, PV.ptr 3 0], PV.fn 36 [] [PV.ptr 3 0, PV.ptr 0 0, PV.ptr 1 0], PV.fn 37 [] [PV.ptr 3 0, PV.ptr 0 0], PV.fn 39 [] [PV.ptr 0 0, PV.ptr 1 0, PV.ptr 3 0, PV.ptr 6 0], PV.fn 40 [] [PV.ptr 0 0, PV.ptr 1 0, PV.ptr 2 0, PV.ptr 3 0, PV.ptr 5 0]], AObj.row 3 1 []] }) else Res.ok (Ex.norm, { tmps := slots 15 [(5, PV.own 7), (6, PV.t (i64 5)), (7, PV.t (i64 2))], heap := [AObj.box 25 6 (PV.t c.t), AObj.box 3 1 (PV.t (i64 k)), AObj.box 27 2 (PV.t x.t), AObj.box 30 4 (PV.t p.t), AObj.box 34 6 (PV.agg [PV.t (i64 0), PV.t (i64 0), PV.own 8, PV.t (i64 0), PV.t (i64 0), PV.t (i64 0)]), AObj.box 54 6 (PV.t (T.agg [i64 0, i64 0, i64 0, i64 0, i64 0, i64 0])), AObj.box 3 1 (PV.t (i64 0)), AObj.vec 31 [PV.fn 33 [] [PV.ptr 0 0, PV.ptr 1 0, PV.ptr 2 0, PV.ptr 3 0], PV.fn 36 [] [PV.ptr 3 0, PV.ptr 0 0, PV.ptr 1 0], PV.fn 37 [] [PV.ptr 3 0, PV.ptr 0 0], PV.fn 39 [] [PV.ptr 0 0, PV.ptr 1 0, PV.ptr 3 0, PV.ptr 6 0], PV.fn 40 [] [PV.ptr 0 0, PV.ptr 1 0, PV.ptr 2 0, PV.ptr 3 0, PV.ptr 5 0]], AObj.row 3 1 []] })) := by kernel_rfl
theorem pkt32_2_ret_2 (N : Nat) (c : Cf) (k : Int) (x : Px) (p : Pa) (b : Bool) (H : List AObj) {β : Type} (K : PV → List AObj → Res β) : tailR env (recP env N [pnI1 c k x p true, pnI2 c k x p b]) N 32 8 2 K (.ret) (⟨slots 15 [(2, .t (.bool false))], H⟩) = K (PV.t (T.bool false)) H := by kernel_rfl
theorem pk32_3 (N : Nat) (c : Cf) (k : Int) (x : Px) (p : Pa) (b : Bool) {β : Type} (K : PV → List AObj → Res β) : funK env (recP env N [pnI1 c k x p true, pnI2 c k x p true, pnI3 c k x p b]) N 32 [.own 7] [.box 25 6 (.t c.t), .box 3 1 (.t (i64 k)), .box 27 2 (.t x.t), .box 30 4 (.t p.t), .box 34 6 (.agg [.t (i64 0), .t (i64 0), .nil 3 1, .t (i64 0), .t (i64 0), .t (i64 0)]), .box 54 6 (.t (T.agg [i64 0, i64 0, i64 0, i64 0, i64 0, i64 0])), .box 3 1 (.t (i64 0)), .vec 31 inV] K = loopR env (recP env N [pnI1 c k x p true, pnI2 c k x p true, pnI3 c k x p b]) N 32 8 2 K { tmps := slots 15 [(5, PV.own 7), (6, PV.t (i64 5)), (7, PV.t (i64 0))], heap := [AObj.box 25 6 (PV.t c.t), AObj.box 3 1 (PV.t (i64 k)), AObj.box 27 2 (PV.t x.t), AObj.box 30 4 (PV.t p.t), AObj.box 34 6 (PV.agg [PV.t (i64 0), PV.t (i64 0), PV.own 8, PV.t (i64 0), PV.t (i64 0), PV.t (i64 0)]), AObj.box 54 6 (PV.t (T.agg [i64 0, i64 0, i64 0, i64 0, i64 0, i64 0])), AObj.box 3 1 (PV.t (i64 0)), AObj.vec 31 [PV.fn 33 [] [PV.ptr 0 0, PV.ptr 1 0, PV.ptr 2 0, PV.ptr 3 0], PV.fn 36 [] [PV.ptr 3 0, PV.ptr 0 0, PV.ptr 1 0], PV.fn 37 [] [PV.ptr 3 0, PV.ptr 0 0], PV.fn 39 [] [PV.ptr 0 0, PV.ptr 1 0, PV.ptr 3 0, PV.ptr 6 0], PV.fn 40 [] [PV.ptr 0 0, PV.ptr 1 0, PV.ptr 2 0, PV.ptr 3 0, PV.ptr 5 0]], AObj.row 3 1 []] } := by kernel_rfl
theorem pkb32_2_4 (N : Nat) (c : Cf) (k : Int) (x : Px) (p : Pa) (b : Bool) : bodyR env (recP env N [pnI1 c k x p true, pnI2 c k x p true, pnI3 c k x p b]) N 32 8 2 (sAl0 c k x p (T.agg [i64 0, i64 0, i64 0, i64 0, i64 0, i64 0]) 0) = chkP ([PV.ptr 0 0, PV.ptr 1 0, PV.ptr 2 0, PV.ptr 3 0] = [PV.ptr 0 0, PV.ptr 1 0, PV.ptr 2 0, PV.ptr 3 0] ∧ [AObj.box 25 6 (PV.t c.t), AObj.box 3 1 (PV.t (i64 k)), AObj.box 27 2 (PV.t x.t), AObj.box 30 4 (PV.t p.t), AObj.box 34 6 (PV.agg [PV.t (i64 0), PV.t (i64 0), PV.own 8, PV.t (i64 0), PV.t (i64 0), PV.t (i64 0)]), AObj.box 54 6 (PV.t (T.agg [i64 0, i64 0, i64 0, i64 0, i64 0, i64 0])), AObj.box 3 1 (PV.t (i64 0)), AObj.vec 31 [PV.fn 33 [] [PV.ptr 0 0, PV.ptr 1 0, PV.ptr 2 0, PV.ptr 3 0], PV.fn 36 [] [PV.ptr 3 0, PV.ptr 0 0, PV.ptr 1 0], PV.fn 37 [] [PV.ptr 3 0, PV.ptr 0 0], PV.fn 39 [] [PV.ptr 0 0, PV.ptr 1 0, PV.ptr 3 0, PV.ptr 6 0], PV.fn 40 [] [PV.ptr 0 0, PV.ptr 1 0, PV.ptr 2 0, PV.ptr 3 0, PV.ptr 5 0]], AObj.row 3 1 []] = [AObj.box 25 6 (PV.t c.t), AObj.box 3 1 (PV.t (i64 k)), AObj.box 27 2 (PV.t x.t), AObj.box 30 4 (PV.t p.t), AObj.box 34 6 (PV.agg [PV.t (i64 0), PV.t (i64 0), PV.own 8, PV.t (i64 0), PV.t (i64 0), PV.t (i64 0)]), AObj.box 54 6 (PV.t (T.agg [i64 0, i64 0, i64 0, i64 0, i64 0, i64 0])), AObj.box 3 1 (PV.t (i64 0)), AObj.vec 31 [PV.fn 33 [] [PV.ptr 0 0, PV.ptr 1 0, PV.ptr 2 0, PV.ptr 3 0], PV.fn 36 [] [PV.ptr 3 0, PV.ptr 0 0, PV.ptr 1 0], PV.fn 37 [] [PV.ptr 3 0, PV.ptr 0 0], PV.fn 39 [] [PV.ptr 0 0, PV.ptr 1 0, PV.ptr 3 0, PV.ptr 6 0], PV.fn 40 [] [PV.ptr 0 0, PV.ptr 1 0, PV.ptr 2 0, PV.ptr 3 0, PV.ptr 5 0]], AObj.row 3 1 []]) (Res.ok (Ex.norm, { tmps := slots 15 [(5, PV.own 7), (6, PV.t (i64 5)), (7, PV.t (i64 1))], heap := [AObj.box 25 6 (PV.t c.t), AObj.box 3 1 (PV.t (i64 k)), AObj.box 27 2 (PV.t x.t), AObj.box 30 4 (PV.t p.t), AObj.box 34 6 (PV.agg [PV.t (i64 0), PV.t (i64 0), PV.own 8, PV.t (i64 0), PV.t (i64 0), PV.t (i64 0)]), AObj.box 54 6 (PV.t (T.agg [i64 0, i64 0, i64 0, i64 0, i64 0, i64 0])), AObj.box 3 1 (PV.t (i64 0)), AObj.vec 31 [PV.fn 33 [] [PV.ptr 0 0, PV.ptr 1 0, PV.ptr 2 0, PV.ptr 3 0], PV.fn 36 [] [PV.ptr 3 0, PV.ptr 0 0, PV.ptr 1 0], PV.fn 37 [] [PV.ptr 3 0, PV.ptr 0 0], PV.fn 39 [] [PV.ptr 0 0, PV.ptr 1 0, PV.ptr 3 0, PV.ptr 6 0], PV.fn 40 [] [PV.ptr 0 0, PV.ptr 1 0, PV.ptr 2 0, PV.ptr 3 0, PV.ptr 5 0]], AObj.row 3 1 []] })) := by kernel_rfl
theorem pkb32_2_5 (N : Nat) (c : Cf) (k : Int) (x : Px) (p : Pa) (b : Bool) : bodyR env (recP env N [pnI1 c k x p true, pnI2 c k x p true, pnI3 c k x p b]) N 32 8 2 (sAl1 c k x p (T.agg [i64 0, i64 0, i64 0, i64 0, i64 0, i64 0]) 0) = chkP ([PV.ptr 3 0, PV.ptr 0 0, PV.ptr 1 0] = [PV.ptr 3 0, PV.ptr 0 0, PV.ptr 1 0] ∧ [AObj.box 25 6 (PV.t c.t), AObj.box 3 1 (PV.t (i64 k)), AObj.box 27 2 (PV.t x.t), AObj.box 30 4 (PV.t p.t), AObj.box 34 6 (PV.agg [PV.t (i64 0), PV.t (i64 0), PV.own 8, PV.t (i64 0), PV.t (i64 0), PV.t (i64 0)]), AObj.box 54 6 (PV.t (T.agg [i64 0, i64 0, i64 0, i64 0, i64 0, i64 0])), AObj.box 3 1 (PV.t (i64 0)), AObj.vec 31 [PV.fn 33 [] [PV.ptr 0 0, PV.ptr 1 0, PV.ptr 2 0, PV.ptr 3 0], PV.fn 36 [] [PV.ptr 3 0, PV.ptr 0 0, PV.ptr 1 0], PV.fn 37 [] [PV.ptr 3 0, PV.ptr 0 0], PV.fn 39 [] [PV.ptr 0 0, PV.ptr 1 0, PV.ptr 3 0, PV.ptr 6 0], PV.fn 40 [] [PV.ptr 0 0, PV.ptr 1 0, PV.ptr 2 0, PV.ptr 3 0, PV.ptr 5 0]], AObj.row 3 1 []] = [AObj.box 25 6 (PV.t c.t), AObj.box 3 1 (PV.t (i64 k)), AObj.box 27 2 (PV.t x.t), AObj.box 30 4 (PV.t p.t), AObj.box 34 6 (PV.agg [PV.t (i64 0), PV.t (i64 0), PV.own 8, PV.t (i64 0), PV.t (i64 0), PV.t (i64 0)]), AObj.box 54 6 (PV.t (T.agg [i64 0, i64 0, i64 0, i64 0, i64 0, i64 0])), AObj.box 3 1 (PV.t (i64 0)), AObj.vec 31 [PV.fn 33 [] [PV.ptr 0 0, PV.ptr 1 0, PV.ptr 2 0, PV.ptr 3 0], PV.fn 36 [] [PV.ptr 3 0, PV.ptr 0 0, PV.ptr 1 0], PV.fn 37 [] [PV.ptr 3 0, PV.ptr 0 0], PV.fn 39 [] [PV.ptr 0 0, PV.ptr 1 0, PV.ptr 3 0, PV.ptr 6 0], PV.fn 40 [] [PV.ptr 0 0, PV.ptr 1 0, PV.ptr 2 0, PV.ptr 3 0, PV.ptr 5 0]], AObj.row 3 1 []]) (Res.ok (Ex.norm, { tmps := slots 15 [(5, PV.own 7), (6, PV.t (i64 5)), (7, PV.t (i64 2))], heap := [AObj.box 25 6 (PV.t c.t), AObj.box 3 1 (PV.t (i64 k)), AObj.box 27 2 (PV.t x.t), AObj.box 30 4 (PV.t p.t), AObj.box 34 6 (PV.agg [PV.t (i64 0), PV.t (i64 0), PV.own 8, PV.t (i64 0), PV.t (i64 0), PV.t (i64 0)]), AObj.box 54 6 (PV.t (T.agg [i64 0, i64 0, i64 0, i64 0, i64 0, i64 0])), AObj.box 3 1 (PV.t (i64 0)), AObj.vec 31 [PV.fn 33 [] [PV.ptr 0 0, PV.ptr 1 0, PV.ptr 2 0, PV.ptr 3 0], PV.fn 36 [] [PV.ptr 3 0, PV.ptr 0 0, PV.ptr 1 0], PV.fn 37 [] [PV.ptr 3 0, PV.ptr 0 0], PV.fn 39 [] [PV.ptr 0 0, PV.ptr 1 0, PV.ptr 3 0, PV.ptr 6 0], PV.fn 40 [] [PV.ptr 0 0, PV.ptr 1 0, PV.ptr 2 0, PV.ptr 3 0, PV.ptr 5 0]], AObj.row 3 1 []] })) := by kernel_rfl
theorem pkb32_2_6 (N : Nat) (c : Cf) (k : Int) (x : Px) (p : Pa) (b : Bool) : bodyR env (recP env N [pnI1 c k x p true, pnI2 c k x p true, pnI3 c k x p b]) N 32 8 2 (sAl2 c k x p (T.agg [i64 0, i64 0, i64 0, i64 0, i64 0, i64 0]) 0) = chkP ([PV.ptr 3 0, PV.ptr 0 0] = [PV.ptr 3 0, PV.ptr 0 0] ∧ [AObj.box 25 6 (PV.t c.t), AObj.box 3 1 (PV.t (i64 k)), AObj.box 27 2 (PV.t x.t), AObj.box 30 4 (PV.t p.t), AObj.box 34 6 (PV.agg [PV.t (i64 0), PV.t (i64 0), PV.own 8, PV.t (i64 0), PV.t (i64 0), PV.t (i64 0)]), AObj.box 54 6 (PV.t (T.agg [i64 0, i64 0, i64 0, i64 0, i64 0, i64 0])), AObj.box 3 1 (PV.t (i64 0)), AObj.vec 31 [PV.fn 33 [] [PV.ptr 0 0, PV.ptr 1 0, PV.ptr 2 0, PV.ptr 3 0], PV.fn 36 [] [PV.ptr 3 0, PV.ptr 0 0, PV.ptr 1 0], PV.fn 37 [] [PV.ptr 3 0, PV.ptr 0 0], PV.fn 39 [] [PV.ptr 0 0, PV.ptr 1 0, PV.ptr 3 0, PV.ptr 6 0], PV.fn 40 [] [PV.ptr 0 0, PV.ptr 1 0, PV.ptr 2 0, PV.ptr 3 0, PV.ptr 5 0]], AObj.row 3 1 []] = [AObj.box 25 6 (PV.t c.t), AObj.box 3 1 (PV.t (i64 k)), AObj.box 27 2 (PV.t x.t), AObj.box 30 4 (PV.t p.t), AObj.box 34 6 (PV.agg [PV.t (i64 0), PV.t (i64 0), PV.own 8, PV.t (i64 0), PV.t (i64 0), PV.t (i64 0)]), AObj.box 54 6 (PV.t (T.agg [i64 0, i64 0, i64 0, i64 0, i64 0, i64 0])), AObj.box 3 1 (PV.t (i64 0)), AObj.vec 31 [PV.fn 33 [] [PV.ptr 0 0, PV.ptr 1 0, PV.ptr 2 0, PV.ptr 3 0], PV.fn 36 [] [PV.ptr 3 0, PV.ptr 0 0, PV.ptr 1 0], PV.fn 37 [] [PV.ptr 3 0, PV.ptr 0 0], PV.fn 39 [] [PV.ptr 0 0, PV.ptr 1 0, PV.ptr 3 0, PV.ptr 6 0], PV.fn 40 [] [PV.ptr 0 0, PV.ptr 1 0, PV.ptr 2 0, PV.ptr 3 0, PV.ptr 5 0]], AObj.row 3 1 []]) (bif !b then Res.ok (Ex.ret, { tmps := slots 15 [(2, PV.t (T.bool false))], heap := [AObj.box 25 6 (PV.t c.t), AObj.box 3 1 (PV.t (i64 k)), AObj.box 27 2 (PV.t x.t), AObj.box 30 4 (PV.t p.t), AObj.box 34 6 (PV.agg [PV.t (i64 0), PV.t (i64 0), PV.own 8, PV.t (i64 0), PV.t (i64 0), PV.t (i64 0)]), AObj.box 54 6 (PV.t (T.agg [i64 0, i64 0, i64 0, i64 0, i64 0, i64 0])), AObj.box 3 1 (PV.t (i64 0)), AObj.vec 31 [PV.fn 33 [] [PV.ptr 0 0, PV.ptr 1 0, PV.ptr 2 0, PV.ptr 3 0], PV.fn 36 [] [PV.ptr 3 0, PV.ptr 0 0, PV.ptr 1 0], PV.fn 37 [] [PV.ptr 3 0, PV.ptr 0 0], PV.fn 39 [] [PV.ptr 0 0, PV.ptr 1 0, PV.ptr 3 0, PV.ptr 6 0], PV.fn 40 [] [PV.ptr 0 0, PV.ptr 1 0, PV.ptr 2 0, PV.ptr 3 0, PV.ptr 5 0]], AObj.row 3 1 []] }) else Res.ok (Ex.norm, { tmps := slots 15 [(5, PV.own 7), (6, PV.t (i64 5)), (7, PV.t (i64 3))], heap := [AObj.box 25 6 (PV.t c.t), AObj.box 3 1 (PV.t (i64 k)), AObj.box 27 2 (PV.t x.t), AObj.box 30 4 (PV.t p.t), AObj.box 34 6 (PV.agg [PV.t (i64 0), PV.t (i64 0), PV.own 8, PV.t (i64 0), PV.t (i64 0), PV.t (i64 0)]), AObj.box 54 6 (PV.t (T.agg [i64 0, i64 0, i64 0, i64 0, i64 0, i64 0])), AObj.box 3 1 (PV.t (i64 0)), AObj.vec 31 [PV.fn 33 [] [PV.ptr 0 0, PV.ptr 1 0, PV.ptr 2 0, PV.ptr 3 0], PV.fn 36 [] [PV.ptr 3 0, PV.ptr 0 0, PV.ptr 1 0], PV.fn 37 [] [PV.ptr 3 0, PV.ptr 0 0], PV.fn 39 [] [PV.ptr 0 0, PV.ptr 1 0, PV.ptr 3 0, PV.ptr 6 0], PV.fn 40 [] [PV.ptr 0 0, PV.ptr 1 0, PV.ptr 2 0, PV.ptr 3 0, PV.ptr 5 0]], AObj.row 3 1 []] })) := by kernel_rfl
theorem pkt32_2_ret_3 (N : Nat) (c : Cf) (k : Int) (x : Px) (p : Pa) (b : Bool) (H : List AObj) {β : Type} (K : PV → List AObj → Res β) : tailR env (recP env N [pnI1 c k x p true, pnI2 c k x p true, pnI3 c k x p b]) N 32 8 2 K (.ret) (⟨slots 15 [(2, .t (.bool false))], H⟩) = K (PV.t (T.bool false)) H := by kernel_rfl
theorem pk32_4 (N : Nat) (c : Cf) (k : Int) (x : Px) (p : Pa) (b : Bool) (o : Int) {β : Type} (K : PV → List AObj → Res β) : funK env (recP env N [pnI1 c k x p true, pnI2 c k x p true, pnI3 c k x p true, pnI4 c k x p b o]) N 32 [.own 7] [.box 25 6 (.t c.t), .box 3 1 (.t (i64 k)), .box 27 2 (.t x.t), .box 30 4 (.t p.t), .box 34 6 (.agg [.t (i64 0), .t (i64 0), .nil 3 1, .t (i64 0), .t (i64 0), .t (i64 0)]), .box 54 6 (.t (T.agg [i64 0, i64 0, i64 0, i64 0, i64 0, i64 0])), .box 3 1 (.t (i64 0)), .vec 31 inV] K = loopR env (recP env N [pnI1 c k x p true, pnI2 c k x p true, pnI3 c k x p true, pnI4 c k x p b o]) N 32 8 2 K { tmps := slots 15 [(5, PV.own 7), (6, PV.t (i64 5)), (7, PV.t (i64 0))], heap := [AObj.box 25 6 (PV.t c.t), AObj.box 3 1 (PV.t (i64 k)), AObj.box 27 2 (PV.t x.t), AObj.box 30 4 (PV.t p.t), AObj.box 34 6 (PV.agg [PV.t (i64 0), PV.t (i64 0), PV.own 8, PV.t (i64 0), PV.t (i64 0), PV.t (i64 0)]), AObj.box 54 6 (PV.t (T.agg [i64 0, i64 0, i64 0, i64 0, i64 0, i64 0])), AObj.box 3 1 (PV.t (i64 0)), AObj.vec 31 [PV.fn 33 [] [PV.ptr 0 0, PV.ptr 1 0, PV.ptr 2 0, PV.ptr 3 0], PV.fn 36 [] [PV.ptr 3 0, PV.ptr 0 0, PV.ptr 1 0], PV.fn 37 [] [PV.ptr 3 0, PV.ptr 0 0], PV.fn 39 [] [PV.ptr 0 0, PV.ptr 1 0, PV.ptr 3 0, PV.ptr 6 0], PV.fn 40 [] [PV.ptr 0 0, PV.ptr 1 0, PV.ptr 2 0, PV.ptr 3 0, PV.ptr 5 0]], AObj.row 3 1 []] } := by kernel_rfl
theorem pkb32_2_7 (N : Nat) (c : Cf) (k : Int) (x : Px) (p : Pa) (b : Bool) (o : Int) : bodyR env (recP env N [pnI1 c k x p true, pnI2 c k x p true, pnI3 c k x p true, pnI4 c k x p b o]) N 32 8 2 (sAl0 c k x p (T.agg [i64 0, i64 0, i64 0, i64 0, i64 0, i64 0]) 0) = chkP ([PV.ptr 0 0, PV.ptr 1 0, PV.ptr 2 0, PV.ptr 3 0] = [PV.ptr 0 0, PV.ptr 1 0, PV.ptr 2 0, PV.ptr 3 0] ∧ [AObj.box 25 6 (PV.t c.t), AObj.box 3 1 (PV.t (i64 k)), AObj.box 27 2 (PV.t x.t), AObj.box 30 4 (PV.t p.t), AObj.box 34 6 (PV.agg [PV.t (i64 0), PV.t (i64 0), PV.own 8, PV.t (i64 0), PV.t (i64 0), PV.t (i64 0)]), AObj.box 54 6 (PV.t (T.agg [i64 0, i64 0, i64 0, i64 0, i64 0, i64 0])), AObj.box 3 1 (PV.t (i64 0)), AObj.vec 31 [PV.fn 33 [] [PV.ptr 0 0, PV.ptr 1 0, PV.ptr 2 0, PV.ptr 3 0], PV.fn 36 [] [PV.ptr 3 0, PV.ptr 0 0, PV.ptr 1 0], PV.fn 37 [] [PV.ptr 3 0, PV.ptr 0 0], PV.fn 39 [] [PV.ptr 0 0, PV.ptr 1 0, PV.ptr 3 0, PV.ptr 6 0], PV.fn 40 [] [PV.ptr 0 0, PV.ptr 1 0, PV.ptr 2 0, PV.ptr 3 0, PV.ptr 5 0]], AObj.row 3 1 []] = [AObj.box 25 6 (PV.t c.t), AObj.box 3 1 (PV.t (i64 k)), AObj.box 27 2 (PV.t x.t), AObj.box 30 4 (PV.t p.t), AObj.box 34 6 (PV.agg [PV.t (i64 0), PV.t (i64 0), PV.own 8, PV.t (i64 0), PV.t (i64 0), PV.t (i64 0)]), AObj.box 54 6 (PV.t (T.agg [i64 0, i64 0, i64 0, i64 0, i64 0, i64 0])), AObj.box 3 1 (PV.t (i64 0)), AObj.vec 31 [PV.fn 33 [] [PV.ptr 0 0, PV.ptr 1 0, PV.ptr 2 0, PV.ptr 3 0], PV.fn 36 [] [PV.ptr 3 0, PV.ptr 0 0, PV.ptr 1 0], PV.fn 37 [] [PV.ptr 3 0, PV.ptr 0 0], PV.fn 39 [] [PV.ptr 0 0, PV.ptr 1 0, PV.ptr 3 0, PV.ptr 6 0], PV.fn 40 [] [PV.ptr 0 0, PV.ptr 1 0, PV.ptr 2 0, PV.ptr 3 0, PV.ptr 5 0]], AObj.row 3 1 []]) (Res.ok (Ex.norm, { tmps := slots 15 [(5, PV.own 7), (6, PV.t (i64 5)), (7, PV.t (i64 1))], heap := [AObj.box 25 6 (PV.t c.t), AObj.box 3 1 (PV.t (i64 k)), AObj.box 27 2 (PV.t x.t), AObj.box 30 4 (PV.t p.t), AObj.box 34 6 (PV.agg [PV.t (i64 0), PV.t (i64 0), PV.own 8, PV.t (i64 0), PV.t (i64 0), PV.t (i64 0)]), AObj.box 54 6 (PV.t (T.agg [i64 0, i64 0, i64 0, i64 0, i64 0, i64 0])), AObj.box 3 1 (PV.t (i64 0)), AObj.vec 31 [PV.fn 33 [] [PV.ptr 0 0, PV.ptr 1 0, PV.ptr 2 0, PV.ptr 3 0], PV.fn 36 [] [PV.ptr 3 0, PV.ptr 0 0, PV.ptr 1 0], PV.fn 37 [] [PV.ptr 3 0, PV.ptr 0 0], PV.fn 39 [] [PV.ptr 0 0, PV.ptr 1 0, PV.ptr 3 0, PV.ptr 6 0], PV.fn 40 [] [PV.ptr 0 0, PV.ptr 1 0, PV.ptr 2 0, PV.ptr 3 0, PV.ptr 5 0]], AObj.row 3 1 []] })) := by kernel_rfl
theorem pkb32_2_8 (N : Nat) (c : Cf) (k : Int) (x : Px) (p : Pa) (b : Bool) (o : Int) : bodyR env (recP env N [pnI1 c k x p true, pnI2 c k x p true, pnI3 c k x p true, pnI4 c k x p b o]) N 32 8 2 (sAl1 c k x p (T.agg [i64 0, i64 0, i64 0, i64 0, i64 0, i64 0]) 0) = chkP ([PV.ptr 3 0, PV.ptr 0 0, PV.ptr 1 0] = [PV.ptr 3 0, PV.ptr 0 0, PV.ptr 1 0] ∧ [AObj.box 25 6 (PV.t c.t), AObj.box 3 1 (PV.t (i64 k)), AObj.box 27 2 (PV.t x.t), AObj.box 30 4 (PV.t p.t), AObj.box 34 6 (PV.agg [PV.t (i64 0), PV.t (i64 0), PV.own 8, PV.t (i64 0), PV.t (i64 0), PV.t (i64 0)]), AObj.box 54 6 (PV.t (T.agg [i64 0, i64 0, i64 0, i64 0, i64 0, i64 0])), AObj.box 3 1 (PV.t (i64 0)), AObj.vec 31 [PV.fn 33 [] [PV.ptr 0 0, PV.ptr 1 0, PV.ptr 2 0, PV.ptr 3 0], PV.fn 36 [] [PV.ptr 3 0, PV.ptr 0 0, PV.ptr 1 0], PV.fn 37 [] [PV.ptr 3 0, PV.ptr 0 0], PV.fn 39 [] [PV.ptr 0 0, PV.ptr 1 0, PV.ptr 3 0, PV.ptr 6 0], PV.fn 40 [] [PV.ptr 0 0, PV.ptr 1 0, PV.ptr 2 0, PV.ptr 3 0, PV.ptr 5 0]], AObj.row 3 1 []] = [AObj.box 25 6 (PV.t c.t), AObj.box 3 1 (PV.t (i64 k)), AObj.box 27 2 (PV.t x.t), AObj.box 30 4 (PV.t p.t), AObj.box 34 6 (PV.agg [PV.t (i64 0), PV.t (i64 0), PV.own 8, PV.t (i64 0), PV.t (i64 0), PV.t (i64 0)]), AObj.box 54 6 (PV.t (T.agg [i64 0, i64 0, i64 0, i64 0, i64 0, i64 0])), AObj.box 3 1 (PV.t (i64 0)), AObj.vec 31 [PV.fn 33 [] [PV.ptr 0 0, PV.ptr 1 0, PV.ptr 2 0, PV.ptr 3 0], PV.fn 36 [] [PV.ptr 3 0, PV.ptr 0 0, PV.ptr 1 0], PV.fn 37 [] [PV.ptr 3 0, PV.ptr 0 0], PV.fn 39 [] [PV.ptr 0 0, PV.ptr 1 0, PV.ptr 3 0, PV.ptr 6 0], PV.fn 40 [] [PV.ptr 0 0, PV.ptr 1 0, PV.ptr 2 0, PV.ptr 3 0, PV.ptr 5 0]], AObj.row 3 1 []]) (Res.ok (Ex.norm, { tmps := slots 15 [(5, PV.own 7), (6, PV.t (i64 5)), (7, PV.t (i64 2))], heap := [AObj.box 25 6 (PV.t c.t), AObj.box 3 1 (PV.t (i64 k)), AObj.box 27 2 (PV.t x.t), AObj.box 30 4 (PV.t p.t), AObj.box 34 6 (PV.agg [PV.t (i64 0), PV.t (i64 0), PV.own 8, PV.t (i64 0), PV.t (i64 0), PV.t (i64 0)]), AObj.box 54 6 (PV.t (T.agg [i64 0, i64 0, i64 0, i64 0, i64 0, i64 0])), AObj.box 3 1 (PV.t (i64 0)), AObj.vec 31 [PV.fn 33 [] [PV.ptr 0 0, PV.ptr 1 0, PV.ptr 2 0, PV.ptr 3 0], PV.fn 36 [] [PV.ptr 3 0, PV.ptr 0 0, PV.ptr 1 0], PV.fn 37 [] [PV.ptr 3 0, PV.ptr 0 0], PV.fn 39 [] [PV.ptr 0 0, PV.ptr 1 0, PV.ptr 3 0, PV.ptr 6 0], PV.fn 40 [] [PV.ptr 0 0, PV.ptr 1 0, PV.ptr 2 0, PV.ptr 3 0, PV.ptr 5 0]], AObj.row 3 1 []] })) := by kernel_rfl
theorem pkb32_2_9 (N : Nat) (c : Cf) (k : Int) (x : Px) (p : Pa) (b : Bool) (o : Int) : bodyR env (recP env N [pnI1 c k x p true, pnI2 c k x p true, pnI3 c k x p true, pnI4 c k x p b o]) N 32 8 2 (sAl2 c k x p (T.agg [i64 0, i64 0, i64 0, i64 0, i64 0, i64 0]) 0) = chkP ([PV.ptr 3 0, PV.ptr 0 0] = [PV.ptr 3 0, PV.ptr 0 0] ∧ [AObj.box 25 6 (PV.t c.t), AObj.box 3 1 (PV.t (i64 k)), AObj.box 27 2 (PV.t x.t), AObj.box 30 4 (PV.t p.t), AObj.box 34 6 (PV.agg [PV.t (i64 0), PV.t (i64 0), PV.own 8, PV.t (i64 0), PV.t (i64 0), PV.t (i64 0)]), AObj.box 54 6 (PV.t (T.agg [i64 0, i64 0, i64 0, i64 0, i64 0, i64 0])), AObj.box 3 1 (PV.t (i64 0)), AObj.vec 31 [PV.fn 33 [] [PV.ptr 0 0, PV.ptr 1 0, PV.ptr 2 0, PV.ptr 3 0], PV.fn 36 [] [PV.ptr 3 0, PV.ptr 0 0, PV.ptr 1 0], PV.fn 37 [] [PV.ptr 3 0, PV.ptr 0 0], PV.fn 39 [] [PV.ptr 0 0, PV.ptr 1 0, PV.ptr 3 0, PV.ptr 6 0], PV.fn 40 [] [PV.ptr 0 0, PV.ptr 1 0, PV.ptr 2 0, PV.ptr 3 0, PV.ptr 5 0]], AObj.row 3 1 []] = [AObj.box 25 6 (PV.t c.t), AObj.box 3 1 (PV.t (i64 k)), AObj.box 27 2 (PV.t x.t), AObj.box 30 4 (PV.t p.t), AObj.box 34 6 (PV.agg [PV.t (i64 0), PV.t (i64 0), PV.own 8, PV.t (i64 0), PV.t (i64 0), PV.t (i64 0)]), AObj.box 54 6 (PV.t (T.agg [i64 0, i64 0, i64 0, i64 0, i64 0, i64 0])), AObj.box 3 1 (PV.t (i64 0)), AObj.vec 31 [PV.fn 33 [] [PV.ptr 0 0, PV.ptr 1 0, PV.ptr 2 0, PV.ptr 3 0], PV.fn 36 [] [PV.ptr 3 0, PV.ptr 0 0, PV.ptr 1 0], PV.fn 37 [] [PV.ptr 3 0, PV.ptr 0 0], PV.fn 39 [] [PV.ptr 0 0, PV.ptr 1 0, PV.ptr 3 0, PV.ptr 6 0], PV.fn 40 [] [PV.ptr 0 0, PV.ptr 1 0, PV.ptr 2 0, PV.ptr 3 0, PV.ptr 5 0]], AObj.row 3 1 []]) (Res.ok (Ex.norm, { tmps := slots 15 [(5, PV.own 7), (6, PV.t (i64 5)), (7, PV.t (i64 3))], heap := [AObj.box 25 6 (PV.t c.t), AObj.box 3 1 (PV.t (i64 k)), AObj.box 27 2 (PV.t x.t), AObj.box 30 4 (PV.t p.t), AObj.box 34 6 (PV.agg [PV.t (i64 0), PV.t (i64 0), PV.own 8, PV.t (i64 0), PV.t (i64 0), PV.t (i64 0)]), AObj.box 54 6 (PV.t (T.agg [i64 0, i64 0, i64 0, i64 0, i64 0, i64 0])), AObj.box 3 1 (PV.t (i64 0)), AObj.vec 31 [PV.fn 33 [] [PV.ptr 0 0, PV.ptr 1 0, PV.ptr 2 0, PV.ptr 3 0], PV.fn 36 [] [PV.ptr 3 0, PV.ptr 0 0, PV.ptr 1 0], PV.fn 37 [] [PV.ptr 3 0, PV.ptr 0 0], PV.fn 39 [] [PV.ptr 0 0, PV.ptr 1 0, PV.ptr 3 0, PV.ptr 6 0], PV.fn 40 [] [PV.ptr 0 0, PV.ptr 1 0, PV.ptr 2 0, PV.ptr 3 0, PV.ptr 5 0]], AObj.row 3 1 []] })) := by kernel_rfl
theorem pkb32_2_10 (N : Nat) (c : Cf) (k : Int) (x : Px) (p : Pa) (b : Bool) (o : Int) : bodyR env (recP env N [pnI1 c k x p true, pnI2 c k x p true, pnI3 c k x p true, pnI4 c k x p b o]) N 32 8 2 (sAl3 c k x p (T.agg [i64 0, i64 0, i64 0, i64 0, i64 0, i64 0]) 0) = chkP ([PV.ptr 0 0, PV.ptr 1 0, PV.ptr 3 0, PV.ptr 6 0] = [PV.ptr 0 0, PV.ptr 1 0, PV.ptr 3 0, PV.ptr 6 0] ∧ [AObj.box 25 6 (PV.t c.t), AObj.box 3 1 (PV.t (i64 k)), AObj.box 27 2 (PV.t x.t), AObj.box 30 4 (PV.t p.t), AObj.box 34 6 (PV.agg [PV.t (i64 0), PV.t (i64 0), PV.own 8, PV.t (i64 0), PV.t (i64 0), PV.t (i64 0)]), AObj.box 54 6 (PV.t (T.agg [i64 0, i64 0, i64 0, i64 0, i64 0, i64 0])), AObj.box 3 1 (PV.t (i64 0)), AObj.vec 31 [PV.fn 33 [] [PV.ptr 0 0, PV.ptr 1 0, PV.ptr 2 0, PV.ptr 3 0], PV.fn 36 [] [PV.ptr 3 0, PV.ptr 0 0, PV.ptr 1 0], PV.fn 37 [] [PV.ptr 3 0, PV.ptr 0 0], PV.fn 39 [] [PV.ptr 0 0, PV.ptr 1 0, PV.ptr 3 0, PV.ptr 6 0], PV.fn 40 [] [PV.ptr 0 0, PV.ptr 1 0, PV.ptr 2 0, PV.ptr 3 0, PV.ptr 5 0]], AObj.row 3 1 []] = [AObj.box 25 6 (PV.t c.t), AObj.box 3 1 (PV.t (i64 k)), AObj.box 27 2 (PV.t x.t), AObj.box 30 4 (PV.t p.t), AObj.box 34 6 (PV.agg [PV.t (i64 0), PV.t (i64 0), PV.own 8, PV.t (i64 0), PV.t (i64 0), PV.t (i64 0)]), AObj.box 54 6 (PV.t (T.agg [i64 0, i64 0, i64 0, i64 0, i64 0, i64 0])), AObj.box 3 1 (PV.t (i64 0)), AObj.vec 31 [PV.fn 33 [] [PV.ptr 0 0, PV.ptr 1 0, PV.ptr 2 0, PV.ptr 3 0], PV.fn 36 [] [PV.ptr 3 0, PV.ptr 0 0, PV.ptr 1 0], PV.fn 37 [] [PV.ptr 3 0, PV.ptr 0 0], PV.fn 39 [] [PV.ptr 0 0, PV.ptr 1 0, PV.ptr 3 0, PV.ptr 6 0], PV.fn 40 [] [PV.ptr 0 0, PV.ptr 1 0, PV.ptr 2 0, PV.ptr 3 0, PV.ptr 5 0]], AObj.row 3 1 []]) (bif !b then Res.ok (Ex.ret, { tmps := slots 15 [(2, PV.t (T.bool false))], heap := [AObj.box 25 6 (PV.t c.t), AObj.box 3 1 (PV.t (i64 k)), AObj.box 27 2 (PV.t x.t), AObj.box 30 4 (PV.t p.t), AObj.box 34 6 (PV.agg [PV.t (i64 0), PV.t (i64 0), PV.own 8, PV.t (i64 0), PV.t (i64 0), PV.t (i64 0)]), AObj.box 54 6 (PV.t (T.agg [i64 0, i64 0, i64 0, i64 0, i64 0, i64 0])), AObj.box 3 1 (PV.t (i64 o)), AObj.vec 31 [PV.fn 33 [] [PV.ptr 0 0, PV.ptr 1 0, PV.ptr 2 0, PV.ptr 3 0], PV.fn 36 [] [PV.ptr 3 0, PV.ptr 0 0, PV.ptr 1 0], PV.fn 37 [] [PV.ptr 3 0, PV.ptr 0 0], PV.fn 39 [] [PV.ptr 0 0, PV.ptr 1 0, PV.ptr 3 0, PV.ptr 6 0], PV.fn 40 [] [PV.ptr 0 0, PV.ptr 1 0, PV.ptr 2 0, PV.ptr 3 0, PV.ptr 5 0]], AObj.row 3 1 []] }) else Res.ok (Ex.norm, { tmps := slots 15 [(5, PV.own 7), (6, PV.t (i64 5)), (7, PV.t (i64 4))], heap := [AObj.box 25 6 (PV.t c.t), AObj.box 3 1 (PV.t (i64 k)), AObj.box 27 2 (PV.t x.t), AObj.box 30 4 (PV.t p.t), AObj.box 34 6 (PV.agg [PV.t (i64 0), PV.t (i64 0), PV.own 8, PV.t (i64 0), PV.t (i64 0), PV.t (i64 0)]), AObj.box 54 6 (PV.t (T.agg [i64 0, i64 0, i64 0, i64 0, i64 0, i64 0])), AObj.box 3 1 (PV.t (i64 o)), AObj.vec 31 [PV.fn 33 [] [PV.ptr 0 0, PV.ptr 1 0, PV.ptr 2 0, PV.ptr 3 0], PV.fn 36 [] [PV.ptr 3 0, PV.ptr 0 0, PV.ptr 1 0], PV.fn 37 [] [PV.ptr 3 0, PV.ptr 0 0], PV.fn 39 [] [PV.ptr 0 0, PV.ptr 1 0, PV.ptr 3 0, PV.ptr 6 0], PV.fn 40 [] [PV.ptr 0 0, PV.ptr 1 0, PV.ptr 2 0, PV.ptr 3 0, PV.ptr 5 0]], AObj.row 3 1 []] })) := by kernel_rfl
theorem pkt32_2_ret_4 (N : Nat) (c : Cf) (k : Int) (x : Px) (p : Pa) (b : Bool) (o : Int) (H : List AObj) {β : Type} (K : PV → List AObj → Res β) : tailR env (recP env N [pnI1 c k x p true, pnI2 c k x p true, pnI3 c k x p true, pnI4 c k x p b o]) N 32 8 2 K (.ret) (⟨slots 15 [(2, .t (.bool false))], H⟩) = K (PV.t (T.bool false)) H := by kernel_rfl
theorem pk32_5 (N : Nat) (c : Cf) (k : Int) (x : Px) (p : Pa) (b : Bool) (o : Int) (r : T) {β : Type} (K : PV → List AObj → Res β) : funK env (recP env N [pnI1 c k x p true, pnI2 c k x p true, pnI3 c k x p true, pnI4 c k x p true o, pnI5 c k x p b o r]) N 32 [.own 7] [.box 25 6 (.t c.t), .box 3 1 (.t (i64 k)), .box 27 2 (.t x.t), .box 30 4 (.t p.t), .box 34 6 (.agg [.t (i64 0), .t (i64 0), .nil 3 1, .t (i64 0), .t (i64 0), .t (i64 0)]), .box 54 6 (.t (T.agg [i64 0, i64 0, i64 0, i64 0, i64 0, i64 0])), .box 3 1 (.t (i64 0)), .vec 31 inV] K = loopR env (recP env N [pnI1 c k x p true, pnI2 c k x p true, pnI3 c k x p true, pnI4 c k x p true o, pnI5 c k x p b o r]) N 32 8 2 K { tmps := slots 15 [(5, PV.own 7), (6, PV.t (i64 5)), (7, PV.t (i64 0))], heap := [AObj.box 25 6 (PV.t c.t), AObj.box 3 1 (PV.t (i64 k)), AObj.box 27 2 (PV.t x.t), AObj.box 30 4 (PV.t p.t), AObj.box 34 6 (PV.agg [PV.t (i64 0), PV.t (i64 0), PV.own 8, PV.t (i64 0), PV.t (i64 0), PV.t (i64 0)]), AObj.box 54 6 (PV.t (T.agg [i64 0, i64 0, i64 0, i64 0, i64 0, i64 0])), AObj.box 3 1 (PV.t (i64 0)), AObj.vec 31 [PV.fn 33 [] [PV.ptr 0 0, PV.ptr 1 0, PV.ptr 2 0, PV.ptr 3 0], PV.fn 36 [] [PV.ptr 3 0, PV.ptr 0 0, PV.ptr 1 0], PV.fn 37 [] [PV.ptr 3 0, PV.ptr 0 0], PV.fn 39 [] [PV.ptr 0 0, PV.ptr 1 0, PV.ptr 3 0, PV.ptr 6 0], PV.fn 40 [] [PV.ptr 0 0, PV.ptr 1 0, PV.ptr 2 0, PV.ptr 3 0, PV.ptr 5 0]], AObj.row 3 1 []] } := by kernel_rfl
theorem pkb32_2_11 (N : Nat) (c : Cf) (k : Int) (x : Px) (p : Pa) (b : Bool) (o : Int) (r : T) : bodyR env (recP env N [pnI1 c k x p true, pnI2 c k x p true, pnI3 c k x p true, pnI4 c k x p true o, pnI5 c k x p b o r]) N 32 8 2 (sAl0 c k x p (T.agg [i64 0, i64 0, i64 0, i64 0, i64 0, i64 0]) 0) = chkP ([PV.ptr 0 0, PV.ptr 1 0, PV.ptr 2 0, PV.ptr 3 0] = [PV.ptr 0 0, PV.ptr 1 0, PV.ptr 2 0, PV.ptr 3 0] ∧ [AObj.box 25 6 (PV.t c.t), AObj.box 3 1 (PV.t (i64 k)), AObj.box 27 2 (PV.t x.t), AObj.box 30 4 (PV.t p.t), AObj.box 34 6 (PV.agg [PV.t (i64 0), PV.t (i64 0), PV.own 8, PV.t (i64 0), PV.t (i64 0), PV.t (i64 0)]), AObj.box 54 6 (PV.t (T.agg [i64 0, i64 0, i64 0, i64 0, i64 0, i64 0])), AObj.box 3 1 (PV.t (i64 0)), AObj.vec 31 [PV.fn 33 [] [PV.ptr 0 0, PV.ptr 1 0, PV.ptr 2 0, PV.ptr 3 0], PV.fn 36 [] [PV.ptr 3 0, PV.ptr 0 0, PV.ptr 1 0], PV.fn 37 [] [PV.ptr 3 0, PV.ptr 0 0], PV.fn 39 [] [PV.ptr 0 0, PV.ptr 1 0, PV.ptr 3 0, PV.ptr 6 0], PV.fn 40 [] [PV.ptr 0 0, PV.ptr 1 0, PV.ptr 2 0, PV.ptr 3 0, PV.ptr 5 0]], AObj.row 3 1 []] = [AObj.box 25 6 (PV.t c.t), AObj.box 3 1 (PV.t (i64 k)), AObj.box 27 2 (PV.t x.t), AObj.box 30 4 (PV.t p.t), AObj.box 34 6 (PV.agg [PV.t (i64 0), PV.t (i64 0), PV.own 8, PV.t (i64 0), PV.t (i64 0), PV.t (i64 0)]), AObj.box 54 6 (PV.t (T.agg [i64 0, i64 0, i64 0, i64 0, i64 0, i64 0])), AObj.box 3 1 (PV.t (i64 0)), AObj.vec 31 [PV.fn 33 [] [PV.ptr 0 0, PV.ptr 1 0, PV.ptr 2 0, PV.ptr 3 0], PV.fn 36 [] [PV.ptr 3 0, PV.ptr 0 0, PV.ptr 1 0], PV.fn 37 [] [PV.ptr 3 0, PV.ptr 0 0], PV.fn 39 [] [PV.ptr 0 0, PV.ptr 1 0, PV.ptr 3 0, PV.ptr 6 0], PV.fn 40 [] [PV.ptr 0 0, PV.ptr 1 0, PV.ptr 2 0, PV.ptr 3 0, PV.ptr 5 0]], AObj.row 3 1 []]) (Res.ok (Ex.norm, { tmps := slots 15 [(5, PV.own 7), (6, PV.t (i64 5)), (7, PV.t (i64 1))], heap := [AObj.box 25 6 (PV.t c.t), AObj.box 3 1 (PV.t (i64 k)), AObj.box 27 2 (PV.t x.t), AObj.box 30 4 (PV.t p.t), AObj.box 34 6 (PV.agg [PV.t (i64 0), PV.t (i64 0), PV.own 8, PV.t (i64 0), PV.t (i64 0), PV.t (i64 0)]), AObj.box 54 6 (PV.t (T.agg [i64 0, i64 0, i64 0, i64 0, i64 0, i64 0])), AObj.box 3 1 (PV.t (i64 0)), AObj.vec 31 [PV.fn 33 [] [PV.ptr 0 0, PV.ptr 1 0, PV.ptr 2 0, PV.ptr 3 0], PV.fn 36 [] [PV.ptr 3 0, PV.ptr 0 0, PV.ptr 1 0], PV.fn 37 [] [PV.ptr 3 0, PV.ptr 0 0], PV.fn 39 [] [PV.ptr 0 0, PV.ptr 1 0, PV.ptr 3 0, PV.ptr 6 0], PV.fn 40 [] [PV.ptr 0 0, PV.ptr 1 0, PV.ptr 2 0, PV.ptr 3 0, PV.ptr 5 0]], AObj.row 3 1 []] })) := by kernel_rfl
theorem pkb32_2_12 (N : Nat) (c : Cf) (k : Int) (x : Px) (p : Pa) (b : Bool) (o : Int) (r : T) : bodyR env (recP env N [pnI1 c k x p true, pnI2 c k x p true, pnI3 c k x p true, pnI4 c k x p true o, pnI5 c k x p b o r]) N 32 8 2 (sAl1 c k x p (T.agg [i64 0, i64 0, i64 0, i64 0, i64 0, i64 0]) 0) = chkP ([PV.ptr 3 0, PV.ptr 0 0, PV.ptr 1 0] = [PV.ptr 3 0, PV.ptr 0 0, PV.ptr 1 0] ∧ [AObj.box 25 6 (PV.t c.t), AObj.box 3 1 (PV.t (i64 k)), AObj.box 27 2 (PV.t x.t), AObj.box 30 4 (PV.t p.t), AObj.box 34 6 (PV.agg [PV.t (i64 0), PV.t (i64 0), PV.own 8, PV.t (i64 0), PV.t (i64 0), PV.t (i64 0)]), AObj.box 54 6 (PV.t (T.agg [i64 0, i64 0, i64 0, i64 0, i64 0, i64 0])), AObj.box 3 1 (PV.t (i64 0)), AObj.vec 31 [PV.fn 33 [] [PV.ptr 0 0, PV.ptr 1 0, PV.ptr 2 0, PV.ptr 3 0], PV.fn 36 [] [PV.ptr 3 0, PV.ptr 0 0, PV.ptr 1 0], PV.fn 37 [] [PV.ptr 3 0, PV.ptr 0 0], PV.fn 39 [] [PV.ptr 0 0, PV.ptr 1 0, PV.ptr 3 0, PV.ptr 6 0], PV.fn 40 [] [PV.ptr 0 0, PV.ptr 1 0, PV.ptr 2 0, PV.ptr 3 0, PV.ptr 5 0]], AObj.row 3 1 []] = [AObj.box 25 6 (PV.t c.t), AObj.box 3 1 (PV.t (i64 k)), AObj.box 27 2 (PV.t x.t), AObj.box 30 4 (PV.t p.t), AObj.box 34 6 (PV.agg [PV.t (i64 0), PV.t (i64 0), PV.own 8, PV.t (i64 0), PV.t (i64 0), PV.t (i64 0)]), AObj.box 54 6 (PV.t (T.agg [i64 0, i64 0, i64 0, i64 0, i64 0, i64 0])), AObj.box 3 1 (PV.t (i64 0)), AObj.vec 31 [PV.fn 33 [] [PV.ptr 0 0, PV.ptr 1 0, PV.ptr 2 0, PV.ptr 3 0], PV.fn 36 [] [PV.ptr 3 0, PV.ptr 0 0, PV.ptr 1 0], PV.fn 37 [] [PV.ptr 3 0, PV.ptr 0 0], PV.fn 39 [] [PV.ptr 0 0, PV.ptr 1 0, PV.ptr 3 0, PV.ptr 6 0], PV.fn 40 [] [PV.ptr 0 0, PV.ptr 1 0, PV.ptr 2 0, PV.ptr 3 0, PV.ptr 5 0]], AObj.row 3 1 []]) (Res.ok (Ex.norm, { tmps := slots 15 [(5, PV.own 7), (6, PV.t (i64 5)), (7, PV.t (i64 2))], heap := [AObj.box 25 6 (PV.t c.t), AObj.box 3 1 (PV.t (i64 k)), AObj.box 27 2 (PV.t x.t), AObj.box 30 4 (PV.t p.t), AObj.box 34 6 (PV.agg [PV.t (i64 0), PV.t (i64 0), PV.own 8, PV.t (i64 0), PV.t (i64 0), PV.t (i64 0)]), AObj.box 54 6 (PV.t (T.agg [i64 0, i64 0, i64 0, i64 0, i64 0, i64 0])), AObj.box 3 1 (PV.t (i64 0)), AObj.vec 31 [PV.fn 33 [] [PV.ptr 0 0, PV.ptr 1 0, PV.ptr 2 0, PV.ptr 3 0], PV.fn 36 [] [PV.ptr 3 0, PV.ptr 0 0, PV.ptr 1 0], PV.fn 37 [] [PV.ptr 3 0, PV.ptr 0 0], PV.fn 39 [] [PV.ptr 0 0, PV.ptr 1 0, PV.ptr 3 0, PV.ptr 6 0], PV.fn 40 [] [PV.ptr 0 0, PV.ptr 1 0, PV.ptr 2 0, PV.ptr 3 0, PV.ptr 5 0]], AObj.row 3 1 []] })) := by kernel_rfl
theorem pkb32_2_13 (N : Nat) (c : Cf) (k : Int) (x : Px) (p : Pa) (b : Bool) (o : Int) (r : T) : bodyR env (recP env N [pnI1 c k x p true, pnI2 c k x p true, pnI3 c k x p true, pnI4 c k x p true o, pnI5 c k x p b o r]) N 32 8 2 (sAl2 c k x p (T.agg [i64 0, i64 0, i64 0, i64 0, i64 0, i64 0]) 0) = chkP ([PV.ptr 3 0, PV.ptr 0 0] = [PV.ptr 3 0, PV.ptr 0 0] ∧ [AObj.box 25 6 (PV.t c.t), AObj.box 3 1 (PV.t (i64 k)), AObj.box 27 2 (PV.t x.t), AObj.box 30 4 (PV.t p.t), AObj.box 34 6 (PV.agg [PV.t (i64 0), PV.t (i64 0), PV.own 8, PV.t (i64 0), PV.t (i64 0), PV.t (i64 0)]), AObj.box 54 6 (PV.t (T.agg [i64 0, i64 0, i64 0, i64 0, i64 0, i64 0])), AObj.box 3 1 (PV.t (i64 0)), AObj.vec 31 [PV.fn 33 [] [PV.ptr 0 0, PV.ptr 1 0, PV.ptr 2 0, PV.ptr 3 0], PV.fn 36 [] [PV.ptr 3 0, PV.ptr 0 0, PV.ptr 1 0], PV.fn 37 [] [PV.ptr 3 0, PV.ptr 0 0], PV.fn 39 [] [PV.ptr 0 0, PV.ptr 1 0, PV.ptr 3 0, PV.ptr 6 0], PV.fn 40 [] [PV.ptr 0 0, PV.ptr 1 0, PV.ptr 2 0, PV.ptr 3 0, PV.ptr 5 0]], AObj.row 3 1 []] = [AObj.box 25 6 (PV.t c.t), AObj.box 3 1 (PV.t (i64 k)), AObj.box 27 2 (PV.t x.t), AObj.box 30 4 (PV.t p.t), AObj.box 34 6 (PV.agg [PV.t (i64 0), PV.t (i64 0), PV.own 8, PV.t (i64 0), PV.t (i64 0), PV.t (i64 0)]), AObj.box 54 6 (PV.t (T.agg [i64 0, i64 0, i64 0, i64 0, i64 0, i64 0])), AObj.box 3 1 (PV.t (i64 0)), AObj.vec 31 [PV.fn 33 [] [PV.ptr 0 0, PV.ptr 1 0, PV.ptr 2 0, PV.ptr 3 0], PV.fn 36 [] [PV.ptr 3 0, PV.ptr 0 0, PV.ptr 1 0], PV.fn 37 [] [PV.ptr 3 0, PV.ptr 0 0], PV.fn 39 [] [PV.ptr 0 0, PV.ptr 1 0, PV.ptr 3 0, PV.ptr 6 0], PV.fn 40 [] [PV.ptr 0 0, PV.ptr 1 0, PV.ptr 2 0, PV.ptr 3 0, PV.ptr 5 0]], AObj.row 3 1 []]) (Res.ok (Ex.norm, { tmps := slots 15 [(5, PV.own 7), (6, PV.t (i64 5)), (7, PV.t (i64 3))], heap := [AObj.box 25 6 (PV.t c.t), AObj.box 3 1 (PV.t (i64 k)), AObj.box 27 2 (PV.t x.t), AObj.box 30 4 (PV.t p.t), AObj.box 34 6 (PV.agg [PV.t (i64 0), PV.t (i64 0), PV.own 8, PV.t (i64 0), PV.t (i64 0), PV.t (i64 0)]), AObj.box 54 6 (PV.t (T.agg [i64 0, i64 0, i64 0, i64 0, i64 0, i64 0])), AObj.box 3 1 (PV.t (i64 0)), AObj.vec 31 [PV.fn 33 [] [PV.ptr 0 0, PV.ptr 1 0, PV.ptr 2 0, PV.ptr 3 0], PV.fn 36 [] [PV.ptr 3 0, PV.ptr 0 0, PV.ptr 1 0], PV.fn 37 [] [PV.ptr 3 0, PV.ptr 0 0], PV.fn 39 [] [PV.ptr 0 0, PV.ptr 1 0, PV.ptr 3 0, PV.ptr 6 0], PV.fn 40 [] [PV.ptr 0 0, PV.ptr 1 0, PV.ptr 2 0, PV.ptr 3 0, PV.ptr 5 0]], AObj.row 3 1 []] })) := by kernel_rfl
theorem pkb32_2_14 (N : Nat) (c : Cf) (k : Int) (x : Px) (p : Pa) (b : Bool) (o : Int) (r : T) : bodyR env (recP env N [pnI1 c k x p true, pnI2 c k x p true, pnI3 c k x p true, pnI4 c k x p true o, pnI5 c k x p b o r]) N 32 8 2 (sAl3 c k x p (T.agg [i64 0, i64 0, i64 0, i64 0, i64 0, i64 0]) 0) = chkP ([PV.ptr 0 0, PV.ptr 1 0, PV.ptr 3 0, PV.ptr 6 0] = [PV.ptr 0 0, PV.ptr 1 0, PV.ptr 3 0, PV.ptr 6 0] ∧ [AObj.box 25 6 (PV.t c.t), AObj.box 3 1 (PV.t (i64 k)), AObj.box 27 2 (PV.t x.t), AObj.box 30 4 (PV.t p.t), AObj.box 34 6 (PV.agg [PV.t (i64 0), PV.t (i64 0), PV.own 8, PV.t (i64 0), PV.t (i64 0), PV.t (i64 0)]), AObj.box 54 6 (PV.t (T.agg [i64 0, i64 0, i64 0, i64 0, i64 0, i64 0])), AObj.box 3 1 (PV.t (i64 0)), AObj.vec 31 [PV.fn 33 [] [PV.ptr 0 0, PV.ptr 1 0, PV.ptr 2 0, PV.ptr 3 0], PV.fn 36 [] [PV.ptr 3 0, PV.ptr 0 0, PV.ptr 1 0], PV.fn 37 [] [PV.ptr 3 0, PV.ptr 0 0], PV.fn 39 [] [PV.ptr 0 0, PV.ptr 1 0, PV.ptr 3 0, PV.ptr 6 0], PV.fn 40 [] [PV.ptr 0 0, PV.ptr 1 0, PV.ptr 2 0, PV.ptr 3 0, PV.ptr 5 0]], AObj.row 3 1 []] = [AObj.box 25 6 (PV.t c.t), AObj.box 3 1 (PV.t (i64 k)), AObj.box 27 2 (PV.t x.t), AObj.box 30 4 (PV.t p.t), AObj.box 34 6 (PV.agg [PV.t (i64 0), PV.t (i64 0), PV.own 8, PV.t (i64 0), PV.t (i64 0), PV.t (i64 0)]), AObj.box 54 6 (PV.t (T.agg [i64 0, i64 0, i64 0, i64 0, i64 0, i64 0])), AObj.box 3 1 (PV.t (i64 0)), AObj.vec 31 [PV.fn 33 [] [PV.ptr 0 0, PV.ptr 1 0, PV.ptr 2 0, PV.ptr 3 0], PV.fn 36 [] [PV.ptr 3 0, PV.ptr 0 0, PV.ptr 1 0], PV.fn 37 [] [PV.ptr 3 0, PV.ptr 0 0], PV.fn 39 [] [PV.ptr 0 0, PV.ptr 1 0, PV.ptr 3 0, PV.ptr 6 0], PV.fn 40 [] [PV.ptr 0 0, PV.ptr 1 0, PV.ptr 2 0, PV.ptr 3 0, PV.ptr 5 0]], AObj.row 3 1 []]) (Res.ok (Ex.norm, { tmps := slots 15 [(5, PV.own 7), (6, PV.t (i64 5)), (7, PV.t (i64 4))], heap := [AObj.box 25 6 (PV.t c.t), AObj.box 3 1 (PV.t (i64 k)), AObj.box 27 2 (PV.t x.t), AObj.box 30 4 (PV.t p.t), AObj.box 34 6 (PV.agg [PV.t (i64 0), PV.t (i64 0), PV.own 8, PV.t (i64 0), PV.t (i64 0), PV.t (i64 0)]), AObj.box 54 6 (PV.t (T.agg [i64 0, i64 0, i64 0, i64 0, i64 0, i64 0])), AObj.box 3 1 (PV.t (i64 o)), AObj.vec 31 [PV.fn 33 [] [PV.ptr 0 0, PV.ptr 1 0, PV.ptr 2 0, PV.ptr 3 0], PV.fn 36 [] [PV.ptr 3 0, PV.ptr 0 0, PV.ptr 1 0], PV.fn 37 [] [PV.ptr 3 0, PV.ptr 0 0], PV.fn 39 [] [PV.ptr 0 0, PV.ptr 1 0, PV.ptr 3 0, PV.ptr 6 0], PV.fn 40 [] [PV.ptr 0 0, PV.ptr 1 0, PV.ptr 2 0, PV.ptr 3 0, PV.ptr 5 0]], AObj.row 3 1 []] })) := by kernel_rfl
theorem pkb32_2_15 (N : Nat) (c : Cf) (k : Int) (x : Px) (p : Pa) (b : Bool) (o : Int) (r : T) : bodyR env (recP env N [pnI1 c k x p true, pnI2 c k x p true, pnI3 c k x p true, pnI4 c k x p true o, pnI5 c k x p b o r]) N 32 8 2 (sAl4 c k x p (T.agg [i64 0, i64 0, i64 0, i64 0, i64 0, i64 0]) o) = chkP ([PV.ptr 0 0, PV.ptr 1 0, PV.ptr 2 0, PV.ptr 3 0, PV.ptr 5 0] = [PV.ptr 0 0, PV.ptr 1 0, PV.ptr 2 0, PV.ptr 3 0, PV.ptr 5 0] ∧ [AObj.box 25 6 (PV.t c.t), AObj.box 3 1 (PV.t (i64 k)), AObj.box 27 2 (PV.t x.t), AObj.box 30 4 (PV.t p.t), AObj.box 34 6 (PV.agg [PV.t (i64 0), PV.t (i64 0), PV.own 8, PV.t (i64 0), PV.t (i64 0), PV.t (i64 0)]), AObj.box 54 6 (PV.t (T.agg [i64 0, i64 0, i64 0, i64 0, i64 0, i64 0])), AObj.box 3 1 (PV.t (i64 o)), AObj.vec 31 [PV.fn 33 [] [PV.ptr 0 0, PV.ptr 1 0, PV.ptr 2 0, PV.ptr 3 0], PV.fn 36 [] [PV.ptr 3 0, PV.ptr 0 0, PV.ptr 1 0], PV.fn 37 [] [PV.ptr 3 0, PV.ptr 0 0], PV.fn 39 [] [PV.ptr 0 0, PV.ptr 1 0, PV.ptr 3 0, PV.ptr 6 0], PV.fn 40 [] [PV.ptr 0 0, PV.ptr 1 0, PV.ptr 2 0, PV.ptr 3 0, PV.ptr 5 0]], AObj.row 3 1 []] = [AObj.box 25 6 (PV.t c.t), AObj.box 3 1 (PV.t (i64 k)), AObj.box 27 2 (PV.t x.t), AObj.box 30 4 (PV.t p.t), AObj.box 34 6 (PV.agg [PV.t (i64 0), PV.t (i64 0), PV.own 8, PV.t (i64 0), PV.t (i64 0), PV.t (i64 0)]), AObj.box 54 6 (PV.t (T.agg [i64 0, i64 0, i64 0, i64 0, i64 0, i64 0])), AObj.box 3 1 (PV.t (i64 o)), AObj.vec 31 [PV.fn 33 [] [PV.ptr 0 0, PV.ptr 1 0, PV.ptr 2 0, PV.ptr 3 0], PV.fn 36 [] [PV.ptr 3 0, PV.ptr 0 0, PV.ptr 1 0], PV.fn 37 [] [PV.ptr 3 0, PV.ptr 0 0], PV.fn 39 [] [PV.ptr 0 0, PV.ptr 1 0, PV.ptr 3 0, PV.ptr 6 0], PV.fn 40 [] [PV.ptr 0 0, PV.ptr 1 0, PV.ptr 2 0, PV.ptr 3 0, PV.ptr 5 0]], AObj.row 3 1 []]) (bif !b then Res.ok (Ex.ret, { tmps := slots 15 [(2, PV.t (T.bool false))], heap := [AObj.box 25 6 (PV.t c.t), AObj.box 3 1 (PV.t (i64 k)), AObj.box 27 2 (PV.t x.t), AObj.box 30 4 (PV.t p.t), AObj.box 34 6 (PV.agg [PV.t (i64 0), PV.t (i64 0), PV.own 8, PV.t (i64 0), PV.t (i64 0), PV.t (i64 0)]), AObj.box 54 6 (PV.t r), AObj.box 3 1 (PV.t (i64 o)), AObj.vec 31 [PV.fn 33 [] [PV.ptr 0 0, PV.ptr 1 0, PV.ptr 2 0, PV.ptr 3 0], PV.fn 36 [] [PV.ptr 3 0, PV.ptr 0 0, PV.ptr 1 0], PV.fn 37 [] [PV.ptr 3 0, PV.ptr 0 0], PV.fn 39 [] [PV.ptr 0 0, PV.ptr 1 0, PV.ptr 3 0, PV.ptr 6 0], PV.fn 40 [] [PV.ptr 0 0, PV.ptr 1 0, PV.ptr 2 0, PV.ptr 3 0, PV.ptr 5 0]], AObj.row 3 1 []] }) else Res.ok (Ex.norm, { tmps := slots 15 [(5, PV.own 7), (6, PV.t (i64 5)), (7, PV.t (i64 5))], heap := [AObj.box 25 6 (PV.t c.t), AObj.box 3 1 (PV.t (i64 k)), AObj.box 27 2 (PV.t x.t), AObj.box 30 4 (PV.t p.t), AObj.box 34 6 (PV.agg [PV.t (i64 0), PV.t (i64 0), PV.own 8, PV.t (i64 0), PV.t (i64 0), PV.t (i64 0)]), AObj.box 54 6 (PV.t r), AObj.box 3 1 (PV.t (i64 o)), AObj.vec 31 [PV.fn 33 [] [PV.ptr 0 0, PV.ptr 1 0, PV.ptr 2 0, PV.ptr 3 0], PV.fn 36 [] [PV.ptr 3 0, PV.ptr 0 0, PV.ptr 1 0], PV.fn 37 [] [PV.ptr 3 0, PV.ptr 0 0], PV.fn 39 [] [PV.ptr 0 0, PV.ptr 1 0, PV.ptr 3 0, PV.ptr 6 0], PV.fn 40 [] [PV.ptr 0 0, PV.ptr 1 0, PV.ptr 2 0, PV.ptr 3 0, PV.ptr 5 0]], AObj.row 3 1 []] })) := by kernel_rfl
theorem pkb32_2_16 (N : Nat) (c : Cf) (k : Int) (x : Px) (p : Pa) (b : Bool) (o : Int) (r : T) : bodyR env (recP env N [pnI1 c k x p true, pnI2 c k x p true, pnI3 c k x p true, pnI4 c k x p true o, pnI5 c k x p b o r]) N 32 8 2 (sAl5 c k x p r o) = Res.ok (Ex.exit 0, { tmps := slots 15 [], heap := [AObj.box 25 6 (PV.t c.t), AObj.box 3 1 (PV.t (i64 k)), AObj.box 27 2 (PV.t x.t), AObj.box 30 4 (PV.t p.t), AObj.box 34 6 (PV.agg [PV.t (i64 0), PV.t (i64 0), PV.own 8, PV.t (i64 0), PV.t (i64 0), PV.t (i64 0)]), AObj.box 54 6 (PV.t r), AObj.box 3 1 (PV.t (i64 o)), AObj.vec 31 [PV.fn 33 [] [PV.ptr 0 0, PV.ptr 1 0, PV.ptr 2 0, PV.ptr 3 0], PV.fn 36 [] [PV.ptr 3 0, PV.ptr 0 0, PV.ptr 1 0], PV.fn 37 [] [PV.ptr 3 0, PV.ptr 0 0], PV.fn 39 [] [PV.ptr 0 0, PV.ptr 1 0, PV.ptr 3 0, PV.ptr 6 0], PV.fn 40 [] [PV.ptr 0 0, PV.ptr 1 0, PV.ptr 2 0, PV.ptr 3 0, PV.ptr 5 0]], AObj.row 3 1 []] }) := by kernel_rfl
theorem pkt32_2_ret_5 (N : Nat) (c : Cf) (k : Int) (x : Px) (p : Pa) (b : Bool) (o : Int) (r : T) (H : List AObj) {β : Type} (K : PV → List AObj → Res β) : tailR env (recP env N [pnI1 c k x p true, pnI2 c k x p true, pnI3 c k x p true, pnI4 c k x p true o, pnI5 c k x p b o r]) N 32 8 2 K (.ret) (⟨slots 15 [(2, .t (.bool false))], H⟩) = K (PV.t (T.bool false)) H := by kernel_rfl
theorem pkt32_2_exit0 (N : Nat) (c : Cf) (k : Int) (x : Px) (p : Pa) (b : Bool) (o : Int) (r : T) (H : List AObj) {β : Type} (K : PV → List AObj → Res β) : tailR env (recP env N [pnI1 c k x p true, pnI2 c k x p true, pnI3 c k x p true, pnI4 c k x p true o, pnI5 c k x p b o r]) N 32 8 2 K (.exit 0) (⟨slots 15 [], H⟩) = K (PV.t (T.bool true)) H := by kernel_rfl
theorem pq12 (N : Nat) (c : Cf) (k : Int) (x : Px) (p : Pa) (b : Bool) (o : Int) (r : T) : funK env (recP env N [pnAll c k x p b o r]) N 12 [.t (c.t), .t (i64 k), .t (x.t), .t (p.t)] [] (outK env 12) = chkAll (fun p => ((match p with | PV.t x => x.cells.length == 1 && !x.isTup | PV.agg cs => cs.length == 1 | PV.tup xs => false | PV.junk => false | x => true) && !match p with | PV.agg cs => true | x => false) && !match p with | PV.t x => x.isAgg | x => false) [PV.fn 33 [] [PV.ptr 0 0, PV.ptr 1 0, PV.ptr 2 0, PV.ptr 3 0], PV.fn 36 [] [PV.ptr 3 0, PV.ptr 0 0, PV.ptr 1 0], PV.fn 37 [] [PV.ptr 3 0, PV.ptr 0 0], PV.fn 39 [] [PV.ptr 0 0, PV.ptr 1 0, PV.ptr 3 0, PV.ptr 6 0], PV.fn 40 [] [PV.ptr 0 0, PV.ptr 1 0, PV.ptr 2 0, PV.ptr 3 0, PV.ptr 5 0]] (chkP ([PV.own 7] = [PV.own 7] ∧ [AObj.box 25 6 (PV.t c.t), AObj.box 3 1 (PV.t (i64 k)), AObj.box 27 2 (PV.t x.t), AObj.box 30 4 (PV.t p.t), AObj.box 34 6 (PV.agg [PV.t (i64 0), PV.t (i64 0), PV.nil 3 1, PV.t (i64 0), PV.t (i64 0), PV.t (i64 0)]), AObj.box 54 6 (PV.t (T.agg [i64 0, i64 0, i64 0, i64 0, i64 0, i64 0])), AObj.box 3 1 (PV.t (i64 0)), AObj.vec 31 [PV.fn 33 [] [PV.ptr 0 0, PV.ptr 1 0, PV.ptr 2 0, PV.ptr 3 0], PV.fn 36 [] [PV.ptr 3 0, PV.ptr 0 0, PV.ptr 1 0], PV.fn 37 [] [PV.ptr 3 0, PV.ptr 0 0], PV.fn 39 [] [PV.ptr 0 0, PV.ptr 1 0, PV.ptr 3 0, PV.ptr 6 0], PV.fn 40 [] [PV.ptr 0 0, PV.ptr 1 0, PV.ptr 2 0, PV.ptr 3 0, PV.ptr 5 0]]] = [AObj.box 25 6 (PV.t c.t), AObj.box 3 1 (PV.t (i64 k)), AObj.box 27 2 (PV.t x.t), AObj.box 30 4 (PV.t p.t), AObj.box 34 6 (PV.agg [PV.t (i64 0), PV.t (i64 0), PV.nil 3 1, PV.t (i64 0), PV.t (i64 0), PV.t (i64 0)]), AObj.box 54 6 (PV.t (T.agg [i64 0, i64 0, i64 0, i64 0, i64 0, i64 0])), AObj.box 3 1 (PV.t (i64 0)), AObj.vec 31 [PV.fn 33 [] [PV.ptr 0 0, PV.ptr 1 0, PV.ptr 2 0, PV.ptr 3 0], PV.fn 36 [] [PV.ptr 3 0, PV.ptr 0 0, PV.ptr 1 0], PV.fn 37 [] [PV.ptr 3 0, PV.ptr 0 0], PV.fn 39 [] [PV.ptr 0 0, PV.ptr 1 0, PV.ptr 3 0, PV.ptr 6 0], PV.fn 40 [] [PV.ptr 0 0, PV.ptr 1 0, PV.ptr 2 0, PV.ptr 3 0, PV.ptr 5 0]]]) (bif !b then Res.ok (T.tup [T.agg [i64 0, i64 0, T.sl 1 [], i64 0, i64 0, i64 0], T.bool false]) else chk ((r.partD 5 1 false).cells.length == 1 && !(r.partD 5 1 false).isTup) (Res.ok (T.tup [T.agg [(r.partD 5 1 false).cell 0, i64 p.o, T.sl 1 (ints p.s), i64 p.h, i64 o, i64 k], T.bool true])))) := by kernel_rfl
end Go.Sim

/- What layers 13 and 14 answer: marks, classes, what a path is to a node. -/
namespace Go.Sim
open Go.RowKit Go.Proofs
set_option linter.unusedVariables false
set_option linter.unusedSimpArgs false
set_option linter.unusedSectionVars false
set_option maxRecDepth 100000
variable [Lv]

theorem f20_ok {M : Nat} {a b c : Int} (hM : 1 ≤ M) (ha : ok64 a = true) (hb : ok64 b = true) (hc : ok64 c = true) : callP env (M + 1) 20 [i64 a, i64 b, i64 c] = .ok (.tup [i64 ((roleIn a b c).getD 0), .bool (roleIn a b c).isSome]) := by
  obtain ⟨m, rfl⟩ := exM hM
  have ho := f54_ok (M := m) hc hb
  rw [q20, W_ok (wfs3 (wf_int ha) (wf_int hb) (wf_int hc))]
  unfold roleIn
  by_cases h3 : a = 3
  · rw [beq_iff_eq.2 h3, if_pos h3]; simp only [cond_true]; rw [cl_ok ho]; rfl
  rw [beq_eq_false_iff_ne.2 h3, if_neg h3]; simp only [cond_false]
  by_cases h2 : a = 2
  · have h1 : a ≠ 1 := by omega
    rw [beq_iff_eq.2 h2, if_pos h2, beq_eq_false_iff_ne.2 h1]; simp only [cond_true, cond_false]
    rw [clI_ok ho]
    by_cases he : orI c b = b
    · rw [beq_iff_eq.2 he, if_pos he]; simp only [cond_true]; rw [cl_ok ho]; rfl
    · rw [beq_eq_false_iff_ne.2 he, if_neg he]; rfl
  rw [beq_eq_false_iff_ne.2 h2, if_neg h2]; simp only [cond_false]
  by_cases h1 : a = 1
  · rw [beq_iff_eq.2 h1, if_pos h1]; simp only [cond_true]
    by_cases he : c = 0
    · rw [beq_iff_eq.2 he, if_pos he]; rfl
    · rw [beq_eq_false_iff_ne.2 he, if_neg he]; rfl
  · rw [beq_eq_false_iff_ne.2 h1, if_neg h1]; rfl
def hasB (c : Cf) (k : Int) : Bool := decide (k ≥ 0) && decide (k < (c.s.length : Int))
def classI (c : Cf) (k : Int) : Int := if 0 ≤ k then (match c.s[k.toNat]? with | some s => s.r | none => 0) else 0
theorem f34_ok {M : Nat} {c : Cf} {k : Int} (h : c.ok) (hk : ok64 k = true) : callP env (M + 1) 34 [c.t, i64 k] = .ok (.bool (hasB c k)) := by
  rw [q34, W_ok (wfs2 h.wf (wf_int hk)), and_rB, List.length_map]; rfl
theorem has_nat {c : Cf} {k : Int} (h : hasB c k = true) : ∃ (i : Nat) (s : Sd), k = i ∧ i < c.s.length ∧ c.s[i]? = some s := by
  unfold hasB at h
  simp only [Bool.and_eq_true, decide_eq_true_eq] at h
  exact ⟨k.toNat, c.s[k.toNat]'(by omega), by omega, by omega, List.getElem?_eq_getElem _⟩
theorem f19_ok {M : Nat} {c : Cf} {k : Int} (hM : 1 ≤ M) (h : c.ok) (hk : ok64 k = true) : callP env (M + 1) 19 [c.t, i64 k] = .ok (i64 (classI c k)) := by
  obtain ⟨m, rfl⟩ := exM hM
  rw [q19, W_ok (wfs2 h.wf (wf_int hk)), clB_ok (f34_ok h hk)]
  cases hh : hasB c k with
  | false =>
    have : classI c k = 0 := by
      unfold classI
      unfold hasB at hh
      split
      · rw [List.getElem?_eq_none (by simp at hh; omega)]
      · rfl
    rw [this]; rfl
  | true =>
    obtain ⟨i, s, rfl, hi, hx⟩ := has_nat hh
    simp only [Bool.not_true, cond_false]
    rw [atT_get (map_get hx)]
    unfold classI
    rw [if_pos (by omega), Int.toNat_natCast, hx]
    rfl
end Go.Sim

/- What the five questions of edge.In come to. -/
namespace Go.Sim
open Go.RowKit Go.Proofs
set_option linter.unusedVariables false
set_option linter.unusedSimpArgs false
set_option linter.unusedSectionVars false
set_option maxRecDepth 100000
variable [Lv]

def in1B (c : Cf) (k : Int) (x : Px) (p : Pa) : Bool := csane c && (hasB c k && (psane x && asane7 p))
theorem pin1 {M : Nat} {c : Cf} {k : Int} {x : Px} {p : Pa} (hM : big + 15 ≤ M) (h : c.ok) (hk : ok64 k = true) (hx : x.ok) (hp : p.ok) : PinOk env (M + 1) (pnI1 c k x p (in1B c k x p)) := fun β K => by
  obtain ⟨m, rfl⟩ := exM (show 1 ≤ M by omega)
  refine (k33 (m + 1) c k x p _ 0 K).trans ?_
  rw [clB_ok (f14_ok (by omega) h)]
  unfold pnI1 in1B
  cases csane c with
  | false => rfl
  | true =>
  rw [cond_true, clB_ok (f34_ok h hk)]
  cases hasB c k with
  | false => rfl
  | true =>
  rw [cond_true, clB_ok (f35_ok hx (by omega))]
  cases psane x with
  | false => rfl
  | true =>
  rw [cond_true, cl_ok (f18_ok (by omega) hp)]
  rfl
theorem pin3 {M : Nat} {c : Cf} {k : Int} {x : Px} {p : Pa} (hM : big + 15 ≤ M) (h : c.ok) (hp : p.ok) : PinOk env (M + 1) (pnI3 c k x p (!(p.s.contains c.a))) := fun β K => by
  obtain ⟨m, rfl⟩ := exM (show 1 ≤ M by omega)
  refine (k37 (m + 1) c k x p _ 0 K).trans ?_
  rw [clB_ok (f38_ok (by omega) (pa_ints hp) h.a)]
  rfl
theorem pin2 {M : Nat} {c : Cf} {k : Nat} {x : Px} {p : Pa} {s : Sd} (hs : c.s[k]? = some s) : PinOk env (M + 1) (pnI2 c k x p (decide (0 < p.s.length) && (decide (p.s.length ≤ 32) && decide (p.s[0]? = some s.a)))) := fun β K => by
  refine (k36 M c k x p _ 0 K).trans ?_
  have hl : ((ints p.s).length : Int) = (p.s.length : Int) := by rw [ints_map, List.length_map]
  rw [hl]
  unfold pnI2
  by_cases h0 : p.s.length > 0
  case neg => rw [decide_eq_false (show ¬ (p.s.length : Int) > 0 by omega), decide_eq_false (show ¬ 0 < p.s.length by omega)]; rfl
  rw [decide_eq_true (show (p.s.length : Int) > 0 by omega), decide_eq_true (show 0 < p.s.length by omega)]
  by_cases h1 : p.s.length ≤ 32
  case neg => rw [decide_eq_false (show ¬ (p.s.length : Int) ≤ 32 by omega), decide_eq_false h1]; rfl
  rw [decide_eq_true (show (p.s.length : Int) ≤ 32 by omega), decide_eq_true h1]
  have hg : p.s[0]? = some p.s[0] := List.getElem?_eq_getElem h0
  have ha := atT_get (K := fun e => atT (List.map Sd.t c.s) k fun e_1 => iT IntKind.i64 e fun a => iT IntKind.i64 (e_1.partD 0 1 false) fun b => K (PV.t (T.bool (a == b))) (inH c k x p (T.agg [i64 0, i64 0, i64 0, i64 0, i64 0, i64 0]) 0)) (ints_get hg)
  simp only [cond_true]
  refine ha.trans ?_
  rw [atT_get (map_get hs), hg]
  have e : s.t.partD 0 1 false = i64 s.a := rfl
  simp only [e, iT_int]
  have : (p.s[0] == s.a) = decide (some p.s[0] = some s.a) := by rw [Bool.eq_iff_iff]; simp
  rw [this]
  rfl
theorem pin4 {M : Nat} {c : Cf} {k : Nat} {x : Px} {p : Pa} {s : Sd} (hM : 2 ≤ M) (hs : c.s[k]? = some s) (h : c.ok) (hp : p.ok) : PinOk env (M + 1) (pnI4 c k x p (roleIn s.r s.a p.c).isSome ((roleIn s.r s.a p.c).getD 0)) := fun β K => by
  obtain ⟨m, rfl⟩ := exM (show 1 ≤ M by omega)
  have ho := h.s.2 _ (List.mem_of_getElem? hs)
  refine (k39 (m + 1) c k x p _ 0 K).trans ?_
  rw [atT_get (map_get hs), atT_get (map_get hs)]
  refine (cl_ok (f20_ok (M := m) (by omega) ho.r ho.a hp.c)).trans ?_
  rfl
def vwI (x : Px) (p : Pa) (r : Int) : Vw := ⟨x, p.s, r⟩
theorem pin5 {M : Nat} {c : Cf} {k : Nat} {x : Px} {p : Pa} {s : Sd} {o : Int} (hM : big + 10 ≤ M) (hs : c.s[k]? = some s) (h : c.ok) (hx : x.ok) (hp : p.ok) :
    PinOk env (M + 1) (pnI5 c k x p (match pickR s.i (vwI x p s.r) with | some r => r.a == 2 | none => false) o (match pickR s.i (vwI x p s.r) with | some r => r.t | none => T.agg [i64 0, i64 0, i64 0, i64 0, i64 0, i64 0])) := fun β K => by
  obtain ⟨m, rfl⟩ := exM (show 1 ≤ M by omega)
  have ho := h.s.2 _ (List.mem_of_getElem? hs)
  refine (k40 (m + 1) c k x p _ o K).trans ?_
  rw [atT_get (map_get hs), atT_get (map_get hs)]
  have hv : (vwI x p s.r).ok := ⟨hx, pa_ints hp, ho.r⟩
  have hc := f21_ok (M := m) (by omega) ho.i hv
  refine (cl_ok hc).trans ?_
  cases pickR s.i (vwI x p s.r) <;> rfl
end Go.Sim

/- What edge.all comes to over the five questions of edge.In: printed by wip/tools/gens14d.py. -/
namespace Go.Sim
open Go.RowKit Go.Proofs
set_option linter.unusedVariables false
set_option linter.unusedSimpArgs false
set_option linter.unusedSectionVars false
set_option maxRecDepth 100000
variable [Lv]

theorem all1 {M : Nat} {c : Cf} {k : Int} {x : Px} {p : Pa} (hM : 6 ≤ M) (h : PinsOk env M [pnI1 c k x p false]) : PinOk env (M + 1) (pnAll c k x p false 0 (T.agg [i64 0, i64 0, i64 0, i64 0, i64 0, i64 0])) := by
  refine runK_pin h ?_
  refine (pk32 M c k x p false _).trans ?_
  have it : ∀ n, iterR (bodyR env (recP env M [pnI1 c k x p false]) M 32 8 2) (n + 1) (sAl0 c k x p (T.agg [i64 0, i64 0, i64 0, i64 0, i64 0, i64 0]) 0) = .ok (.ret, ⟨slots 15 [(2, .t (.bool false))], inH c k x p (T.agg [i64 0, i64 0, i64 0, i64 0, i64 0, i64 0]) 0⟩) := fun n => by
    exact iterR_ret (n := n) ((pkb32_2 M c k x p false).trans chkP_same)
  obtain ⟨n, hn⟩ : ∃ n, M = n + 1 := ⟨M - 1, by omega⟩
  have it' : iterR (bodyR env (recP env M [pnI1 c k x p false]) M 32 8 2) M (sAl0 c k x p (T.agg [i64 0, i64 0, i64 0, i64 0, i64 0, i64 0]) 0) = _ := (congrArg (fun z => iterR (bodyR env (recP env M [pnI1 c k x p false]) M 32 8 2) z (sAl0 c k x p (T.agg [i64 0, i64 0, i64 0, i64 0, i64 0, i64 0]) 0)) hn).trans (it n)
  exact (loopR_end it').trans (pkt32_2_ret M c k x p false _ _)
theorem all2 {M : Nat} {c : Cf} {k : Int} {x : Px} {p : Pa} (hM : 6 ≤ M) (h : PinsOk env M [pnI1 c k x p true, pnI2 c k x p false]) : PinOk env (M + 1) (pnAll c k x p false 0 (T.agg [i64 0, i64 0, i64 0, i64 0, i64 0, i64 0])) := by
  refine runK_pin h ?_
  refine (pk32_2 M c k x p false _).trans ?_
  have it : ∀ n, iterR (bodyR env (recP env M [pnI1 c k x p true, pnI2 c k x p false]) M 32 8 2) (n + 2) (sAl0 c k x p (T.agg [i64 0, i64 0, i64 0, i64 0, i64 0, i64 0]) 0) = .ok (.ret, ⟨slots 15 [(2, .t (.bool false))], inH c k x p (T.agg [i64 0, i64 0, i64 0, i64 0, i64 0, i64 0]) 0⟩) := fun n => by
    refine (iterR_step (n := n + 1) (s' := sAl1 c k x p (T.agg [i64 0, i64 0, i64 0, i64 0, i64 0, i64 0]) 0) ((pkb32_2_2 M c k x p false).trans chkP_same)).trans ?_
    exact iterR_ret (n := n) ((pkb32_2_3 M c k x p false).trans chkP_same)
  obtain ⟨n, hn⟩ : ∃ n, M = n + 2 := ⟨M - 2, by omega⟩
  have it' : iterR (bodyR env (recP env M [pnI1 c k x p true, pnI2 c k x p false]) M 32 8 2) M (sAl0 c k x p (T.agg [i64 0, i64 0, i64 0, i64 0, i64 0, i64 0]) 0) = _ := (congrArg (fun z => iterR (bodyR env (recP env M [pnI1 c k x p true, pnI2 c k x p false]) M 32 8 2) z (sAl0 c k x p (T.agg [i64 0, i64 0, i64 0, i64 0, i64 0, i64 0]) 0)) hn).trans (it n)
  exact (loopR_end it').trans (pkt32_2_ret_2 M c k x p false _ _)
theorem all3 {M : Nat} {c : Cf} {k : Int} {x : Px} {p : Pa} (hM : 6 ≤ M) (h : PinsOk env M [pnI1 c k x p true, pnI2 c k x p true, pnI3 c k x p false]) : PinOk env (M + 1) (pnAll c k x p false 0 (T.agg [i64 0, i64 0, i64 0, i64 0, i64 0, i64 0])) := by
  refine runK_pin h ?_
  refine (pk32_3 M c k x p false _).trans ?_
  have it : ∀ n, iterR (bodyR env (recP env M [pnI1 c k x p true, pnI2 c k x p true, pnI3 c k x p false]) M 32 8 2) (n + 3) (sAl0 c k x p (T.agg [i64 0, i64 0, i64 0, i64 0, i64 0, i64 0]) 0) = .ok (.ret, ⟨slots 15 [(2, .t (.bool false))], inH c k x p (T.agg [i64 0, i64 0, i64 0, i64 0, i64 0, i64 0]) 0⟩) := fun n => by
    refine (iterR_step (n := n + 2) (s' := sAl1 c k x p (T.agg [i64 0, i64 0, i64 0, i64 0, i64 0, i64 0]) 0) ((pkb32_2_4 M c k x p false).trans chkP_same)).trans ?_
    refine (iterR_step (n := n + 1) (s' := sAl2 c k x p (T.agg [i64 0, i64 0, i64 0, i64 0, i64 0, i64 0]) 0) ((pkb32_2_5 M c k x p false).trans chkP_same)).trans ?_
    exact iterR_ret (n := n) ((pkb32_2_6 M c k x p false).trans chkP_same)
  obtain ⟨n, hn⟩ : ∃ n, M = n + 3 := ⟨M - 3, by omega⟩
  have it' : iterR (bodyR env (recP env M [pnI1 c k x p true, pnI2 c k x p true, pnI3 c k x p false]) M 32 8 2) M (sAl0 c k x p (T.agg [i64 0, i64 0, i64 0, i64 0, i64 0, i64 0]) 0) = _ := (congrArg (fun z => iterR (bodyR env (recP env M [pnI1 c k x p true, pnI2 c k x p true, pnI3 c k x p false]) M 32 8 2) z (sAl0 c k x p (T.agg [i64 0, i64 0, i64 0, i64 0, i64 0, i64 0]) 0)) hn).trans (it n)
  exact (loopR_end it').trans (pkt32_2_ret_3 M c k x p false _ _)
theorem all4 {M : Nat} {c : Cf} {k : Int} {x : Px} {p : Pa} {o : Int} (hM : 6 ≤ M) (h : PinsOk env M [pnI1 c k x p true, pnI2 c k x p true, pnI3 c k x p true, pnI4 c k x p false o]) : PinOk env (M + 1) (pnAll c k x p false o (T.agg [i64 0, i64 0, i64 0, i64 0, i64 0, i64 0])) := by
  refine runK_pin h ?_
  refine (pk32_4 M c k x p false o _).trans ?_
  have it : ∀ n, iterR (bodyR env (recP env M [pnI1 c k x p true, pnI2 c k x p true, pnI3 c k x p true, pnI4 c k x p false o]) M 32 8 2) (n + 4) (sAl0 c k x p (T.agg [i64 0, i64 0, i64 0, i64 0, i64 0, i64 0]) 0) = .ok (.ret, ⟨slots 15 [(2, .t (.bool false))], inH c k x p (T.agg [i64 0, i64 0, i64 0, i64 0, i64 0, i64 0]) o⟩) := fun n => by
    refine (iterR_step (n := n + 3) (s' := sAl1 c k x p (T.agg [i64 0, i64 0, i64 0, i64 0, i64 0, i64 0]) 0) ((pkb32_2_7 M c k x p false o).trans chkP_same)).trans ?_
    refine (iterR_step (n := n + 2) (s' := sAl2 c k x p (T.agg [i64 0, i64 0, i64 0, i64 0, i64 0, i64 0]) 0) ((pkb32_2_8 M c k x p false o).trans chkP_same)).trans ?_
    refine (iterR_step (n := n + 1) (s' := sAl3 c k x p (T.agg [i64 0, i64 0, i64 0, i64 0, i64 0, i64 0]) 0) ((pkb32_2_9 M c k x p false o).trans chkP_same)).trans ?_
    exact iterR_ret (n := n) ((pkb32_2_10 M c k x p false o).trans chkP_same)
  obtain ⟨n, hn⟩ : ∃ n, M = n + 4 := ⟨M - 4, by omega⟩
  have it' : iterR (bodyR env (recP env M [pnI1 c k x p true, pnI2 c k x p true, pnI3 c k x p true, pnI4 c k x p false o]) M 32 8 2) M (sAl0 c k x p (T.agg [i64 0, i64 0, i64 0, i64 0, i64 0, i64 0]) 0) = _ := (congrArg (fun z => iterR (bodyR env (recP env M [pnI1 c k x p true, pnI2 c k x p true, pnI3 c k x p true, pnI4 c k x p false o]) M 32 8 2) z (sAl0 c k x p (T.agg [i64 0, i64 0, i64 0, i64 0, i64 0, i64 0]) 0)) hn).trans (it n)
  exact (loopR_end it').trans (pkt32_2_ret_4 M c k x p false o _ _)
theorem all5 {M : Nat} {c : Cf} {k : Int} {x : Px} {p : Pa} {o : Int} {r : T} (hM : 6 ≤ M) (h : PinsOk env M [pnI1 c k x p true, pnI2 c k x p true, pnI3 c k x p true, pnI4 c k x p true o, pnI5 c k x p false o r]) : PinOk env (M + 1) (pnAll c k x p false o r) := by
  refine runK_pin h ?_
  refine (pk32_5 M c k x p false o r _).trans ?_
  have it : ∀ n, iterR (bodyR env (recP env M [pnI1 c k x p true, pnI2 c k x p true, pnI3 c k x p true, pnI4 c k x p true o, pnI5 c k x p false o r]) M 32 8 2) (n + 5) (sAl0 c k x p (T.agg [i64 0, i64 0, i64 0, i64 0, i64 0, i64 0]) 0) = .ok (.ret, ⟨slots 15 [(2, .t (.bool false))], inH c k x p r o⟩) := fun n => by
    refine (iterR_step (n := n + 4) (s' := sAl1 c k x p (T.agg [i64 0, i64 0, i64 0, i64 0, i64 0, i64 0]) 0) ((pkb32_2_11 M c k x p false o r).trans chkP_same)).trans ?_
    refine (iterR_step (n := n + 3) (s' := sAl2 c k x p (T.agg [i64 0, i64 0, i64 0, i64 0, i64 0, i64 0]) 0) ((pkb32_2_12 M c k x p false o r).trans chkP_same)).trans ?_
    refine (iterR_step (n := n + 2) (s' := sAl3 c k x p (T.agg [i64 0, i64 0, i64 0, i64 0, i64 0, i64 0]) 0) ((pkb32_2_13 M c k x p false o r).trans chkP_same)).trans ?_
    refine (iterR_step (n := n + 1) (s' := sAl4 c k x p (T.agg [i64 0, i64 0, i64 0, i64 0, i64 0, i64 0]) o) ((pkb32_2_14 M c k x p false o r).trans chkP_same)).trans ?_
    exact iterR_ret (n := n) ((pkb32_2_15 M c k x p false o r).trans chkP_same)
  obtain ⟨n, hn⟩ : ∃ n, M = n + 5 := ⟨M - 5, by omega⟩
  have it' : iterR (bodyR env (recP env M [pnI1 c k x p true, pnI2 c k x p true, pnI3 c k x p true, pnI4 c k x p true o, pnI5 c k x p false o r]) M 32 8 2) M (sAl0 c k x p (T.agg [i64 0, i64 0, i64 0, i64 0, i64 0, i64 0]) 0) = _ := (congrArg (fun z => iterR (bodyR env (recP env M [pnI1 c k x p true, pnI2 c k x p true, pnI3 c k x p true, pnI4 c k x p true o, pnI5 c k x p false o r]) M 32 8 2) z (sAl0 c k x p (T.agg [i64 0, i64 0, i64 0, i64 0, i64 0, i64 0]) 0)) hn).trans (it n)
  exact (loopR_end it').trans (pkt32_2_ret_5 M c k x p false o r _ _)
theorem all6 {M : Nat} {c : Cf} {k : Int} {x : Px} {p : Pa} {o : Int} {r : T} (hM : 6 ≤ M) (h : PinsOk env M [pnI1 c k x p true, pnI2 c k x p true, pnI3 c k x p true, pnI4 c k x p true o, pnI5 c k x p true o r]) : PinOk env (M + 1) (pnAll c k x p true o r) := by
  refine runK_pin h ?_
  refine (pk32_5 M c k x p true o r _).trans ?_
  have it : ∀ n, iterR (bodyR env (recP env M [pnI1 c k x p true, pnI2 c k x p true, pnI3 c k x p true, pnI4 c k x p true o, pnI5 c k x p true o r]) M 32 8 2) (n + 6) (sAl0 c k x p (T.agg [i64 0, i64 0, i64 0, i64 0, i64 0, i64 0]) 0) = .ok (.exit 0, ⟨slots 15 [], inH c k x p r o⟩) := fun n => by
    refine (iterR_step (n := n + 5) (s' := sAl1 c k x p (T.agg [i64 0, i64 0, i64 0, i64 0, i64 0, i64 0]) 0) ((pkb32_2_11 M c k x p true o r).trans chkP_same)).trans ?_
    refine (iterR_step (n := n + 4) (s' := sAl2 c k x p (T.agg [i64 0, i64 0, i64 0, i64 0, i64 0, i64 0]) 0) ((pkb32_2_12 M c k x p true o r).trans chkP_same)).trans ?_
    refine (iterR_step (n := n + 3) (s' := sAl3 c k x p (T.agg [i64 0, i64 0, i64 0, i64 0, i64 0, i64 0]) 0) ((pkb32_2_13 M c k x p true o r).trans chkP_same)).trans ?_
    refine (iterR_step (n := n + 2) (s' := sAl4 c k x p (T.agg [i64 0, i64 0, i64 0, i64 0, i64 0, i64 0]) o) ((pkb32_2_14 M c k x p true o r).trans chkP_same)).trans ?_
    refine (iterR_step (n := n + 1) (s' := sAl5 c k x p r o) ((pkb32_2_15 M c k x p true o r).trans chkP_same)).trans ?_
    exact iterR_exit (n := n) (pkb32_2_16 M c k x p true o r)
  obtain ⟨n, hn⟩ : ∃ n, M = n + 6 := ⟨M - 6, by omega⟩
  have it' : iterR (bodyR env (recP env M [pnI1 c k x p true, pnI2 c k x p true, pnI3 c k x p true, pnI4 c k x p true o, pnI5 c k x p true o r]) M 32 8 2) M (sAl0 c k x p (T.agg [i64 0, i64 0, i64 0, i64 0, i64 0, i64 0]) 0) = _ := (congrArg (fun z => iterR (bodyR env (recP env M [pnI1 c k x p true, pnI2 c k x p true, pnI3 c k x p true, pnI4 c k x p true o, pnI5 c k x p true o r]) M 32 8 2) z (sAl0 c k x p (T.agg [i64 0, i64 0, i64 0, i64 0, i64 0, i64 0]) 0)) hn).trans (it n)
  exact (loopR_end it').trans (pkt32_2_exit0 M c k x p true o r _ _)
end Go.Sim

/- What edge.In answers. -/
namespace Go.Sim
open Go.RowKit Go.Proofs
set_option linter.unusedVariables false
set_option linter.unusedSimpArgs false
set_option linter.unusedSectionVars false
set_option maxRecDepth 100000
variable [Lv]

def zR : T := T.agg [i64 0, i64 0, T.sl 1 [], i64 0, i64 0, i64 0]
/-- What a path is to a node that is told it. -/
def inR (c : Cf) (k : Int) (x : Px) (p : Pa) : Option Rt :=
  if in1B c k x p then match c.s[k.toNat]? with
    | some s => if (p.s[0]? = some s.a ∧ p.s.length ≤ 32) ∧ p.s.contains c.a = false then match roleIn s.r s.a p.c with
      | some m => match pickR s.i (vwI x p s.r) with
        | some r => if r.a = 2 then some ⟨r.n, ⟨p.o, p.s, p.h, m⟩, k⟩ else none
        | none => none
      | none => none
      else none
    | none => none
  else none
def optR : Option Rt → T
  | some r => .tup [r.t, .bool true]
  | none => .tup [zR, .bool false]
theorem in_F {M : Nat} {c : Cf} {k : Int} {x : Px} {p : Pa} {o : Int} {r : T} (hw : T.wfs [c.t, i64 k, x.t, p.t] = true) (h : PinOk env M (pnAll c k x p false o r)) : callP env (M + 1) 12 [c.t, i64 k, x.t, p.t] = .ok (.tup [zR, .bool false]) :=
  callP_pin (ps := [pnAll c k x p false o r]) ⟨h, trivial⟩ hw rfl ((pq12 M c k x p false o r).trans (chkP_ok ⟨rfl, rfl⟩))
theorem in_T {M : Nat} {c : Cf} {k : Int} {x : Px} {p : Pa} {o : Int} {r : Ru} (hw : T.wfs [c.t, i64 k, x.t, p.t] = true) (h : PinOk env M (pnAll c k x p true o r.t)) : callP env (M + 1) 12 [c.t, i64 k, x.t, p.t] = .ok (.tup [(Rt.mk r.n ⟨p.o, p.s, p.h, o⟩ k).t, .bool true]) :=
  callP_pin (ps := [pnAll c k x p true o r.t]) ⟨h, trivial⟩ hw rfl ((pq12 M c k x p true o r.t).trans (chkP_ok ⟨rfl, rfl⟩))
theorem f12_ok {M : Nat} {c : Cf} {k : Int} {x : Px} {p : Pa} (hM : big + 18 ≤ M) (h : c.ok) (hk : ok64 k = true) (hx : x.ok) (hp : p.ok) : callP env (M + 1) 12 [c.t, i64 k, x.t, p.t] = .ok (optR (inR c k x p)) := by
  obtain ⟨m, rfl⟩ := exM (show 1 ≤ M by omega)
  obtain ⟨m, rfl⟩ := exM (show 1 ≤ m by omega)
  have hw : T.wfs [c.t, i64 k, x.t, p.t] = true := by
    have h1 := h.wf; have h2 := wf_int hk; have h3 := hx.wf; have h4 := hp.wf
    simp only [T.wfs, h1, h2, h3, h4, Bool.and_self]
  have g1 := pin1 (M := m) (c := c) (k := k) (x := x) (p := p) (by omega) h hk hx hp
  unfold inR
  cases e1 : in1B c k x p with
  | false =>
    rw [e1] at g1
    exact in_F hw (all1 (M := m + 1) (by omega) ⟨g1, trivial⟩)
  | true =>
  rw [e1] at g1
  simp only [if_true]
  have hh : hasB c k = true := by unfold in1B at e1; simp only [Bool.and_eq_true] at e1; exact e1.2.1
  obtain ⟨i, s, rfl, hi, hs⟩ := has_nat hh
  rw [Int.toNat_natCast, hs]
  have g2 := pin2 (M := m) (x := x) (p := p) hs
  by_cases e2 : p.s[0]? = some s.a ∧ p.s.length ≤ 32
  case neg =>
    have : (decide (0 < p.s.length) && (decide (p.s.length ≤ 32) && decide (p.s[0]? = some s.a))) = false := by
      rw [Bool.eq_false_iff]; intro ht
      simp only [Bool.and_eq_true, decide_eq_true_eq] at ht
      exact e2 ⟨ht.2.2, ht.2.1⟩
    rw [this] at g2
    simp only [e2, false_and, if_false]
    exact in_F hw (all2 (M := m + 1) (by omega) ⟨g1, g2, trivial⟩)
  have : (decide (0 < p.s.length) && (decide (p.s.length ≤ 32) && decide (p.s[0]? = some s.a))) = true := by
    simp only [Bool.and_eq_true, decide_eq_true_eq]
    exact ⟨(List.getElem?_eq_some_iff.1 e2.1).1, e2.2, e2.1⟩
  rw [this] at g2
  have g3 := pin3 (M := m) (c := c) (k := (i : Int)) (x := x) (p := p) (by omega) h hp
  simp only [e2, true_and, and_self]
  cases e3 : p.s.contains c.a with
  | true =>
    rw [e3] at g3
    exact in_F hw (all3 (M := m + 1) (by omega) ⟨g1, g2, g3, trivial⟩)
  | false =>
  rw [e3] at g3
  simp only [if_true]
  have g4 := pin4 (M := m) (c := c) (x := x) (p := p) (by omega) hs h hp
  cases e4 : roleIn s.r s.a p.c with
  | none =>
    rw [e4] at g4
    exact in_F hw (all4 (M := m + 1) (by omega) ⟨g1, g2, g3, g4, trivial⟩)
  | some o =>
  rw [e4] at g4
  have g5 := pin5 (M := m) (c := c) (x := x) (p := p) (o := o) (by omega) hs h hx hp
  cases e5 : pickR s.i (vwI x p s.r) with
  | none =>
    rw [e5] at g5
    exact in_F hw (all5 (M := m + 1) (by omega) ⟨g1, g2, g3, g4, g5, trivial⟩)
  | some r =>
  rw [e5] at g5
  by_cases e6 : r.a = 2
  · simp only [e6, beq_self_eq_true] at g5
    simp only [e6, if_true]
    exact in_T hw (all6 (M := m + 1) (by omega) ⟨g1, g2, g3, g4, g5, trivial⟩)
  · simp only [beq_eq_false_iff_ne.2 e6] at g5
    simp only [e6, if_false]
    exact in_F hw (all5 (M := m + 1) (by omega) ⟨g1, g2, g3, g4, g5, trivial⟩)
end Go.Sim

/- Laws of layer 15, on plain data. -/
namespace Go.Sim
open Go.RowKit Go.Proofs
set_option linter.unusedVariables false
set_option linter.unusedSimpArgs false
set_option maxRecDepth 100000

/-- A configuration with one side put into another's place. -/
def putS (c : Cf) (k : Nat) (s : Sd) : Cf := { c with s := c.s.set k s }
theorem fresh_set {α κ : Type} [DecidableEq κ] {kf : α → κ} {q : α → Bool} {x x' : α} (hk : kf x' = kf x) (hq : q x' = true) : ∀ {l : List α} {s : List κ} {k : Nat}, freshB kf q s l = true → l[k]? = some x → freshB kf q s (l.set k x') = true
  | [], _, _, _, hx => by simp at hx
  | y :: l, s, 0, h, hx => by
    simp only [List.getElem?_cons_zero, Option.some.injEq] at hx
    subst hx
    rw [List.set_cons_zero]
    unfold freshB at h ⊢
    simp only [Bool.and_eq_true] at h ⊢
    rw [hk]
    exact ⟨h.1, hq, h.2.2⟩
  | y :: l, s, k + 1, h, hx => by
    rw [List.set_cons_succ]
    unfold freshB at h ⊢
    simp only [Bool.and_eq_true] at h ⊢
    exact ⟨h.1, h.2.1, fresh_set hk hq h.2.2 (by simpa using hx)⟩
theorem csane_put {c : Cf} {k : Nat} {s s' : Sd} (h : csane c = true) (hx : c.s[k]? = some s) (ha : s'.a = s.a) (hs : sideB s' = true) : csane (putS c k s') = true := by
  unfold csane at h ⊢
  simp only [Bool.and_eq_true, putS, List.length_set] at h ⊢
  exact ⟨h.1, h.2.1, h.2.2.1, h.2.2.2.1, h.2.2.2.2.1, h.2.2.2.2.2.1, h.2.2.2.2.2.2.1, h.2.2.2.2.2.2.2.1, fresh_set ha hs h.2.2.2.2.2.2.2.2 hx⟩
theorem findIdx_set {α κ : Type} {kf : α → κ} {p : κ → Bool} {x x' : α} (hk : kf x' = kf x) : ∀ {l : List α} {k : Nat}, l[k]? = some x → (l.set k x').findIdx? (fun y => p (kf y)) = l.findIdx? fun y => p (kf y)
  | [], _, hx => by simp at hx
  | y :: l, 0, hx => by
    simp only [List.getElem?_cons_zero, Option.some.injEq] at hx
    subst hx
    rw [List.set_cons_zero, List.findIdx?_cons, List.findIdx?_cons, hk]
  | y :: l, k + 1, hx => by
    rw [List.set_cons_succ, List.findIdx?_cons, List.findIdx?_cons, findIdx_set hk (by simpa using hx)]
theorem idxOf_put {c : Cf} {k : Nat} {s s' : Sd} (hx : c.s[k]? = some s) (ha : s'.a = s.a) (n : Int) : idxOf (putS c k s') n = idxOf c n := findIdx_set (p := fun a => a == n) ha hx
theorem sideI_put {c : Cf} {k : Nat} {s s' : Sd} (hx : c.s[k]? = some s) (ha : s'.a = s.a) (n : Int) : sideI (putS c k s') n = sideI c n := by unfold sideI; rw [idxOf_put hx ha]
theorem put_get {c : Cf} {k : Nat} {s : Sd} (hk : k < c.s.length) : (putS c k s).s[k]? = some s := by simp [putS, hk]
theorem high_put {c : Cf} {k : Nat} {s : Sd} (hk : k < c.s.length) : highI (putS c k s) (k : Int) = (seekR false none (reachR s.i s.r)).map (·.n) := by
  unfold highI; rw [if_pos (by omega), Int.toNat_natCast, put_get hk]
theorem tells_put {c : Cf} {k : Nat} {s : Sd} (hk : k < c.s.length) (n : Int) : tellsB (putS c k s) (k : Int) n = (reachR s.o n).any (fun r => r.a != 0) := by
  unfold tellsB; rw [if_pos (by omega), Int.toNat_natCast, put_get hk]
theorem reach_nil (n : Int) : reachR [] n = [] := rfl
/-- Takes all, with the least preference. -/
def leastR : Ru := ⟨0, ⟨0, 0⟩, 0, 2, 1⟩
theorem reach_least (n : Int) : reachR [leastR] n = [leastR] := rfl
theorem seek_mem {b : Bool} : ∀ {l : List Ru} {w : Option Ru} {r : Ru}, l.foldl (seekS b) w = some r → w = some r ∨ (r ∈ l ∧ r.a = 2)
  | [], w, r, h => .inl h
  | x :: l, w, r, h => by
    rw [List.foldl_cons] at h
    rcases seek_mem h with h | h
    · unfold seekS at h
      split at h
      · rename_i hx
        have : some x = some r → (r ∈ x :: l ∧ r.a = 2) := fun e => by injection e with e; subst e; exact ⟨List.mem_cons_self, hx⟩
        cases w with
        | none => exact .inr (this h)
        | some v =>
          simp only at h
          split at h
          · exact .inr (this h)
          · exact .inl h
      · exact .inl h
    · exact .inr ⟨List.mem_cons_of_mem _ h.1, h.2⟩
theorem mem_reach {l : List Ru} {k : Int} {r : Ru} (h : r ∈ reachR l k) : r ∈ l := by
  unfold reachR at h
  have h1 := (List.mem_filter.1 h).1
  revert h1
  cases l.findIdx? (totalB k) with
  | none => exact id
  | some i => exact fun h => List.mem_of_mem_take h
theorem low_mem {k : Int} : ∀ {l : List Sd} {w : Option Ru} {r : Ru}, l.foldl (lowS k) w = some r → w = some r ∨ (∃ s ∈ l, r ∈ s.i ∧ r.a = 2)
  | [], w, r, h => .inl h
  | x :: l, w, r, h => by
    rw [List.foldl_cons] at h
    rcases low_mem h with h | ⟨s, hs, h⟩
    · unfold lowS at h
      split at h
      · rcases seek_mem (b := true) h with h | h
        · exact .inl h
        · exact .inr ⟨x, List.mem_cons_self, mem_reach h.1, h.2⟩
      · exact .inl h
    · exact .inr ⟨s, List.mem_cons_of_mem _ hs, h⟩
theorem low_pos {c : Cf} (h : csane c = true) {k n : Int} (hl : lowI c k = some n) : 0 < n := by
  unfold lowI at hl
  split at hl
  · injection hl; omega
  rw [Option.map_eq_some_iff] at hl
  obtain ⟨r, hr, rfl⟩ := hl
  replace hr : c.s.foldl (lowS k) none = some r := hr
  rcases low_mem hr with h1 | ⟨s, hs, hm, ha⟩
  · cases h1
  have := csane_side h hs
  unfold sideB at this
  simp only [Bool.and_eq_true] at this
  have h2 := this.2.2.2.1
  unfold rulesB at h2
  simp only [Bool.and_eq_true, Bool.not_eq_true', List.any_eq_false, Bool.not_eq_true] at h2
  have h3 := h2.2 r hm
  simp only [Bool.not_eq_true', Bool.eq_false_iff, ne_eq, Bool.not_eq_false] at h3
  have h4 : rsane r true = true := by simpa using h3
  unfold rsane actB at h4
  rw [ha] at h4
  simp at h4
  omega
theorem falls_least {c : Cf} (h : csane c = true) (k n : Int) : fallsB c (some 1) k n = false := by
  unfold fallsB
  cases hl : lowI c n with
  | none => rfl
  | some v =>
    have := low_pos h hl
    simp only [Option.isSome_some, Option.getD_some, Bool.true_and]
    rw [decide_eq_false (by omega)]; rfl
/-- What the parts of Rises are. -/
theorem rises_iff {a b : Cf} : risesB a b = true ↔ csane a = true ∧ csane b = true ∧ (idxOf a b.a).isSome = true ∧ (idxOf b a.a).isSome = true ∧ ∀ n ∈ ([0, 1, 2, 3] : List Int), fallsB a (highI b (sideI b a.a)) (sideI a b.a) n = false := by
  unfold risesB
  simp only [Bool.and_eq_true, Bool.not_eq_true', List.any_eq_false, Bool.not_eq_true]
theorem idx_nat {c : Cf} {n : Int} (h : (idxOf c n).isSome = true) : ∃ (k : Nat) (s : Sd), sideI c n = k ∧ k < c.s.length ∧ c.s[k]? = some s := by
  obtain ⟨h1, h2⟩ := sideI_lt h
  refine ⟨(sideI c n).toNat, c.s[(sideI c n).toNat]'(by omega), by omega, by omega, List.getElem?_eq_getElem _⟩
/-- Less is no worse. -/
theorem less_law {a b : Cf} (h : risesB a b = true) {k j : Nat} {s t : Sd} (hk : sideI a b.a = k) (hj : sideI b a.a = j) (hs : a.s[k]? = some s) (ht : b.s[j]? = some t) :
    risesB (putS a k { s with o := [] }) b = true ∧ risesB a (putS b j { t with i := [leastR] }) = true ∧ risesB (putS a k { s with o := [] }) (putS b j { t with i := [leastR] }) = true := by
  obtain ⟨h1, h2, h3, h4, h5⟩ := rises_iff.1 h
  have hkl := (List.getElem?_eq_some_iff.1 hs).1
  have hjl := (List.getElem?_eq_some_iff.1 ht).1
  have hss := csane_side h1 (List.mem_of_getElem? hs)
  have hts := csane_side h2 (List.mem_of_getElem? ht)
  have c1 : csane (putS a k { s with o := [] }) = true := csane_put h1 hs rfl (by
    unfold sideB at hss ⊢
    simp only [Bool.and_eq_true] at hss ⊢
    exact ⟨hss.1, hss.2.1, hss.2.2.1, hss.2.2.2.1, rfl⟩)
  have c2 : csane (putS b j { t with i := [leastR] }) = true := csane_put h2 ht rfl (by
    unfold sideB at hts ⊢
    simp only [Bool.and_eq_true] at hts ⊢
    exact ⟨hts.1, hts.2.1, hts.2.2.1, by decide, hts.2.2.2.2⟩)
  have f1 : ∀ hh n, fallsB (putS a k { s with o := [] }) hh (k : Int) n = false := fun hh n => by
    unfold fallsB
    rw [tells_put hkl]
    show (_ && (_ && (_ && (reachR [] n).any _))) = false
    rw [reach_nil]
    simp
  have hh : highI (putS b j { t with i := [leastR] }) (j : Int) = some 1 := by
    rw [high_put hjl]
    show (seekR false none (reachR [leastR] t.r)).map (·.n) = _
    rw [reach_least]; rfl
  have i1 : ∀ n, idxOf (putS a k { s with o := [] }) n = idxOf a n := idxOf_put hs rfl
  have i2 : ∀ n, idxOf (putS b j { t with i := [leastR] }) n = idxOf b n := idxOf_put ht rfl
  have s1 : ∀ n, sideI (putS a k { s with o := [] }) n = sideI a n := sideI_put hs rfl
  have s2 : ∀ n, sideI (putS b j { t with i := [leastR] }) n = sideI b n := sideI_put ht rfl
  have a1 : (putS a k { s with o := [] }).a = a.a := rfl
  have a2 : (putS b j { t with i := [leastR] }).a = b.a := rfl
  refine ⟨rises_iff.2 ⟨c1, h2, ?_, ?_, ?_⟩, rises_iff.2 ⟨h1, c2, ?_, ?_, ?_⟩, rises_iff.2 ⟨c1, c2, ?_, ?_, ?_⟩⟩
  · rw [i1]; exact h3
  · rw [a1]; exact h4
  · intro n _; rw [s1, hk]; exact f1 _ n
  · rw [a2]; exact h3
  · rw [i2]; exact h4
  · intro n _; rw [s2, hj, hh]; exact falls_least h1 _ n
  · rw [i1, a2]; exact h3
  · rw [i2, a1]; exact h4
  · intro n _; rw [a2, s1, hk]; exact f1 _ n
end Go.Sim

/- Laws of layer 14, and of 14 and 15 together, on plain data. -/
namespace Go.Sim
open Go.RowKit Go.Proofs
set_option linter.unusedVariables false
set_option linter.unusedSimpArgs false
set_option linter.unusedSectionVars false
set_option maxRecDepth 100000

/-- A node's own route. -/
def ownR (h : Int) : Rt := ⟨400, ⟨0, [], h, 0⟩, -1⟩
def cmpI (a b : Int) : Int := if a < b then -1 else if b < a then 1 else 0
def cmpL : List Int → List Int → Int
  | [], [] => 0
  | [], _ :: _ => -1
  | _ :: _, [] => 1
  | a :: l, b :: m => if a = b then cmpL l m else cmpI a b
def fnz : List Int → Int
  | [] => 0
  | x :: l => if x = 0 then fnz l else x
def cmpR (a b : Rt) : Int := fnz [cmpI b.n a.n, cmpI a.p.s.length b.p.s.length, cmpI a.p.o b.p.o, cmpL a.p.s b.p.s, cmpI a.p.h b.p.h, cmpI a.p.c b.p.c, cmpI a.f b.f]
def rtsane (r : Rt) : Bool := asane7 r.p && (decide (r.p.s.length ≤ 32) && (if r.f = -1 then cmpR r (ownR r.p.h) == 0 else decide (r.f ≥ 0) && (decide (r.f ≤ 7) && (decide (r.n > 0) && decide (r.n < 400)))))
def preR (c : Cf) (u : Ru) (r : Rt) : List Int := List.replicate (1 + u.n).toNat c.a ++ r.p.s
/-- The path by which a node tells a route. -/
def outR (c : Cf) (k : Int) (x : Px) (r : Rt) : Option Pa :=
  if (csane c && (hasB c k && (psane x && rtsane r))) && (decide (r.f ≠ k) && decide (r.f < (c.s.length : Int))) then match c.s[k.toNat]? with
    | some s => match pickR s.o (vwI x r.p (classI c r.f)) with
      | some u => if u.a = 0 then none else match roleOut s.r c.a r.p.c with
        | some m => if (preR c u r).length ≤ 32 then some ⟨r.p.o, preR c u r, c.d, m⟩ else none
        | none => none
      | none => none
    | none => none
  else none

theorem cmpI_zero {a b : Int} : cmpI a b = 0 ↔ a = b := by
  unfold cmpI
  split
  · omega
  · split <;> omega
theorem cmpL_zero : ∀ {l m : List Int}, cmpL l m = 0 ↔ l = m
  | [], [] => by simp [cmpL]
  | [], _ :: _ => by simp [cmpL]
  | _ :: _, [] => by simp [cmpL]
  | a :: l, b :: m => by
    simp only [cmpL]
    split
    · rename_i h; subst h; rw [cmpL_zero]; simp
    · rename_i h
      rw [cmpI_zero]
      constructor
      · intro e; exact absurd e h
      · intro e; injection e with e1 e2
theorem fnz_zero : ∀ {l : List Int}, fnz l = 0 ↔ ∀ x ∈ l, x = 0
  | [] => by simp [fnz]
  | x :: l => by
    simp only [fnz]
    split
    · rename_i h; rw [fnz_zero]; simp [h]
    · rename_i h; simp [h]
theorem cmpR_zero {a b : Rt} : cmpR a b = 0 ↔ a = b := by
  unfold cmpR
  rw [fnz_zero]
  simp only [List.mem_cons, List.not_mem_nil, or_false, forall_eq_or_imp, forall_eq, cmpI_zero, cmpL_zero]
  obtain ⟨n, ⟨o, s, h, c⟩, f⟩ := a
  obtain ⟨n', ⟨o', s', h', c'⟩, f'⟩ := b
  simp only [Rt.mk.injEq, Pa.mk.injEq]
  constructor
  · rintro ⟨h1, h2, h3, h4, h5, h6, h7⟩; exact ⟨h1.symm, ⟨h3, h4, h5, h6⟩, h7⟩
  · rintro ⟨h1, ⟨h3, h4, h5, h6⟩, h7⟩; exact ⟨h1.symm, by rw [h4], h3, h4, h5, h6, h7⟩

variable [Lv]
theorem inR_spec {c : Cf} {k : Int} {x : Px} {p : Pa} {r : Rt} (h : inR c k x p = some r) : csane c = true ∧ psane x = true ∧ asane7 p = true ∧ ∃ (i : Nat) (s : Sd) (m : Int) (u : Ru), k = i ∧ i < c.s.length ∧ c.s[i]? = some s ∧ p.s[0]? = some s.a ∧ p.s.length ≤ 32 ∧
    p.s.contains c.a = false ∧ roleIn s.r s.a p.c = some m ∧ pickR s.i (vwI x p s.r) = some u ∧ u.a = 2 ∧ r = ⟨u.n, ⟨p.o, p.s, p.h, m⟩, k⟩ := by
  unfold inR at h
  split at h
  case isFalse => cases h
  rename_i h1
  unfold in1B at h1
  simp only [Bool.and_eq_true] at h1
  obtain ⟨i, s, rfl, hi, hs⟩ := has_nat h1.2.1
  rw [Int.toNat_natCast, hs] at h
  simp only [] at h
  split at h
  case isFalse => cases h
  rename_i h2
  split at h
  case h_2 => cases h
  rename_i m h3
  split at h
  case h_2 => cases h
  rename_i u h4
  split at h
  case isFalse => cases h
  rename_i h5
  injection h with h
  exact ⟨h1.1, h1.2.2.1, h1.2.2.2, i, s, m, u, rfl, hi, hs, h2.1.1, h2.1.2, h2.2, h3, h4, h5, h.symm⟩
theorem outR_spec {c : Cf} {k : Int} {x : Px} {r : Rt} {q : Pa} (h : outR c k x r = some q) : csane c = true ∧ psane x = true ∧ rtsane r = true ∧ r.f ≠ k ∧ r.f < c.s.length ∧ ∃ (i : Nat) (s : Sd) (m : Int) (u : Ru), k = i ∧ i < c.s.length ∧ c.s[i]? = some s ∧
    pickR s.o (vwI x r.p (classI c r.f)) = some u ∧ u.a ≠ 0 ∧ roleOut s.r c.a r.p.c = some m ∧ (preR c u r).length ≤ 32 ∧ q = ⟨r.p.o, preR c u r, c.d, m⟩ := by
  unfold outR at h
  split at h
  case isFalse => cases h
  rename_i h1
  simp only [Bool.and_eq_true, decide_eq_true_eq] at h1
  obtain ⟨i, s, rfl, hi, hs⟩ := has_nat h1.1.2.1
  rw [Int.toNat_natCast, hs] at h
  simp only [] at h
  split at h
  case h_2 => cases h
  rename_i u h3
  split at h
  case isTrue => cases h
  rename_i h4
  split at h
  case h_2 => cases h
  rename_i m h5
  split at h
  case isFalse => cases h
  rename_i h6
  injection h with h
  exact ⟨h1.1.1, h1.1.2.2.1, h1.1.2.2.2, h1.2.1, h1.2.2, i, s, m, u, rfl, hi, hs, h3, h4, h5, h6, h.symm⟩

theorem pick_mem {l : List Ru} {v : Vw} {r : Ru} (h : pickR l v = some r) : r ∈ l ∧ fitsB v r = true := ⟨List.mem_of_find?_eq_some h, by have := List.find?_some h; exact this⟩
theorem total_fits {v : Vw} {r : Ru} (h : totalB v.c r = true) : fitsB v r = true := by
  unfold totalB at h
  unfold fitsB
  simp only [Bool.or_eq_true, Bool.and_eq_true, beq_iff_eq] at h
  rcases h with h | ⟨h, h2⟩
  · rw [if_pos h]
  · rw [h, if_neg (by decide), if_neg (by decide), if_neg (by decide), if_neg (by decide), if_pos rfl, h2]; simp
theorem fits_other {v : Vw} {r : Ru} (h : fitsB v r = true) : otherB v.c r = false := by
  unfold otherB
  by_cases hm : r.m = 4
  · unfold fitsB at h
    rw [hm, if_neg (by decide), if_neg (by decide), if_neg (by decide), if_neg (by decide), if_pos rfl, beq_iff_eq] at h
    rw [h]; simp
  · rw [beq_eq_false_iff_ne.2 hm]; rfl
/-- The rule that decides is one that a route of its class can come to. -/
theorem pick_reach {l : List Ru} {v : Vw} {r : Ru} (h : pickR l v = some r) : r ∈ reachR l v.c := by
  have hf := (pick_mem h).2
  unfold reachR
  rw [List.mem_filter]
  refine ⟨?_, by rw [fits_other hf]; rfl⟩
  unfold pickR at h
  obtain ⟨_, i, hi, hr, hj⟩ := List.find?_eq_some_iff_getElem.1 h
  cases hk : l.findIdx? (totalB v.c) with
  | none => rw [← hr]; exact List.getElem_mem _
  | some k =>
    obtain ⟨hkl, hkt, _⟩ := List.findIdx?_eq_some_iff_getElem.1 hk
    have hle : i ≤ k := by
      rcases Nat.lt_or_ge k i with h1 | h1
      · have := hj k h1
        rw [total_fits hkt] at this
        simp at this
      · exact h1
    simp only []
    rw [← hr]
    exact List.mem_iff_getElem.2 ⟨i, by simp; omega, by simp⟩

theorem seek_some {b : Bool} : ∀ {l : List Ru} {w : Option Ru}, w.isSome = true ∨ (∃ r ∈ l, r.a = 2) → (l.foldl (seekS b) w).isSome = true
  | [], w, h => h.elim id (fun ⟨r, h, _⟩ => by cases h)
  | x :: l, w, h => by
    rw [List.foldl_cons]
    refine seek_some ?_
    by_cases hx : x.a = 2
    · left
      unfold seekS
      rw [if_pos hx]
      cases w with
      | none => rfl
      | some v => simp only []; split <;> rfl
    · rcases h with h | ⟨r, h, h2⟩
      · left; unfold seekS; rw [if_neg hx]; exact h
      · rcases List.mem_cons.1 h with rfl | h
        · exact absurd h2 hx
        · exact .inr ⟨r, h, h2⟩
theorem seek_low : ∀ {l : List Ru} {w : Option Ru} {v : Ru}, l.foldl (seekS true) w = some v → (∀ r ∈ l, r.a = 2 → v.n ≤ r.n) ∧ ∀ w', w = some w' → v.n ≤ w'.n
  | [], w, v, h => ⟨by simp, fun w' e => by simp only [List.foldl_nil] at h; rw [h] at e; injection e with e; subst e; exact Int.le_refl _⟩
  | x :: l, w, v, h => by
    rw [List.foldl_cons] at h
    obtain ⟨h1, h2⟩ := seek_low h
    by_cases hx : x.a = 2
    · cases w with
      | none =>
        have h3 := h2 x (by unfold seekS; rw [if_pos hx])
        exact ⟨fun r hr ha => (List.mem_cons.1 hr).elim (fun e => e ▸ h3) (fun hr => h1 r hr ha), fun w' e => by cases e⟩
      | some u =>
        by_cases hlt : x.n < u.n
        · have h3 := h2 x (by unfold seekS; rw [if_pos hx]; simp [hlt])
          exact ⟨fun r hr ha => (List.mem_cons.1 hr).elim (fun e => e ▸ h3) (fun hr => h1 r hr ha), fun w' e => by injection e with e; subst e; omega⟩
        · have h3 := h2 u (by unfold seekS; rw [if_pos hx]; simp [hlt])
          exact ⟨fun r hr ha => (List.mem_cons.1 hr).elim (fun e => by subst e; omega) (fun hr => h1 r hr ha), fun w' e => by injection e with e; subst e; exact h3⟩
    · have e : seekS true w x = w := by unfold seekS; rw [if_neg hx]
      exact ⟨fun r hr ha => (List.mem_cons.1 hr).elim (fun e => by subst e; exact absurd ha hx) (fun hr => h1 r hr ha), fun w' e2 => h2 w' (by rw [e]; exact e2)⟩
theorem seek_high : ∀ {l : List Ru} {w : Option Ru} {v : Ru}, l.foldl (seekS false) w = some v → (∀ r ∈ l, r.a = 2 → r.n ≤ v.n) ∧ ∀ w', w = some w' → w'.n ≤ v.n
  | [], w, v, h => ⟨by simp, fun w' e => by simp only [List.foldl_nil] at h; rw [h] at e; injection e with e; subst e; exact Int.le_refl _⟩
  | x :: l, w, v, h => by
    rw [List.foldl_cons] at h
    obtain ⟨h1, h2⟩ := seek_high h
    by_cases hx : x.a = 2
    · cases w with
      | none =>
        have h3 := h2 x (by unfold seekS; rw [if_pos hx])
        exact ⟨fun r hr ha => (List.mem_cons.1 hr).elim (fun e => e ▸ h3) (fun hr => h1 r hr ha), fun w' e => by cases e⟩
      | some u =>
        by_cases hlt : x.n < u.n
        · have h3 := h2 u (by unfold seekS; rw [if_pos hx]; simp [hlt])
          exact ⟨fun r hr ha => (List.mem_cons.1 hr).elim (fun e => by subst e; omega) (fun hr => h1 r hr ha), fun w' e => by injection e with e; subst e; exact h3⟩
        · have h3 := h2 x (by unfold seekS; rw [if_pos hx]; simp [hlt])
          exact ⟨fun r hr ha => (List.mem_cons.1 hr).elim (fun e => e ▸ h3) (fun hr => h1 r hr ha), fun w' e => by injection e with e; subst e; omega⟩
    · have e : seekS false w x = w := by unfold seekS; rw [if_neg hx]
      exact ⟨fun r hr ha => (List.mem_cons.1 hr).elim (fun e => by subst e; exact absurd ha hx) (fun hr => h1 r hr ha), fun w' e2 => h2 w' (by rw [e]; exact e2)⟩
theorem low_low {k : Int} : ∀ {l : List Sd} {w : Option Ru}, (∀ w', w = some w' → ∃ v, l.foldl (lowS k) w = some v ∧ v.n ≤ w'.n) ∧ ∀ s ∈ l, s.r = k → ∀ r ∈ reachR s.i k, r.a = 2 → ∃ v, l.foldl (lowS k) w = some v ∧ v.n ≤ r.n
  | [], w => ⟨fun w' e => ⟨w', e, Int.le_refl _⟩, by simp⟩
  | x :: l, w => by
    have key : ∀ w', (lowS k w x) = some w' → ∃ v, (x :: l).foldl (lowS k) w = some v ∧ v.n ≤ w'.n := fun w' e => (low_low (l := l) (w := lowS k w x)).1 w' e
    refine ⟨fun w' e => ?_, fun s hs hr r hm ha => ?_⟩
    · by_cases hx : x.r = k
      · have e2 : lowS k w x = (reachR x.i k).foldl (seekS true) w := by unfold lowS; rw [if_pos hx]; rfl
        obtain ⟨v, hv⟩ := Option.isSome_iff_exists.1 (seek_some (b := true) (l := reachR x.i k) (w := w) (.inl (by rw [e]; rfl)))
        have h3 := (seek_low hv).2 w' e
        obtain ⟨u, h4, h5⟩ := key v (by rw [e2]; exact hv)
        exact ⟨u, h4, Int.le_trans h5 h3⟩
      · exact key w' (by unfold lowS; rw [if_neg hx]; exact e)
    · rcases List.mem_cons.1 hs with rfl | hs
      · have e2 : lowS k w s = (reachR s.i k).foldl (seekS true) w := by unfold lowS; rw [if_pos hr]; rfl
        obtain ⟨v, hv⟩ := Option.isSome_iff_exists.1 (seek_some (b := true) (l := reachR s.i k) (w := w) (.inr ⟨r, hm, ha⟩))
        have h3 := (seek_low hv).1 r hm ha
        obtain ⟨u, h4, h5⟩ := key v (by rw [e2]; exact hv)
        exact ⟨u, h4, Int.le_trans h5 h3⟩
      · exact (low_low (l := l) (w := lowS k w x)).2 s hs hr r hm ha

theorem side_parts {c : Cf} (h : csane c = true) {i : Nat} {s : Sd} (hs : c.s[i]? = some s) : 0 < s.a ∧ s.a ≤ 4294967295 ∧ 1 ≤ s.r ∧ s.r ≤ 3 ∧ (∀ r ∈ s.i, rsane r true = true) ∧ ∀ r ∈ s.o, rsane r false = true := by
  have := csane_side h (List.mem_of_getElem? hs)
  unfold sideB withinB rulesB at this
  simp only [Bool.and_eq_true, decide_eq_true_eq, Bool.not_eq_true', List.any_eq_false, Bool.not_eq_true] at this
  obtain ⟨⟨h1, h2⟩, h3, h4, ⟨_, h5⟩, _, h6⟩ := this
  refine ⟨h1, h2, h3, h4, fun r hr => ?_, fun r hr => ?_⟩
  · have := h5 r hr; simpa using this
  · have := h6 r hr; simpa using this
theorem csane_parts {c : Cf} (h : csane c = true) : 0 < c.a ∧ c.a ≤ 4294967295 ∧ 0 < c.d ∧ c.d ≤ 4294967295 ∧ c.s.length ≤ 8 := by
  unfold csane withinB at h
  simp only [Bool.and_eq_true, decide_eq_true_eq] at h
  exact ⟨h.1.1, h.1.2, h.2.1.1, h.2.1.2, h.2.2.2.2.2.2.1⟩
theorem class_nat {c : Cf} {i : Nat} {s : Sd} (hs : c.s[i]? = some s) : classI c (i : Int) = s.r := by
  unfold classI; rw [if_pos (by omega), Int.toNat_natCast, hs]
theorem pref_in {u : Ru} (h : rsane u true = true) (ha : u.a = 2) : 0 < u.n ∧ u.n < 400 := by
  unfold rsane actB at h
  rw [ha] at h
  simp at h
  omega
theorem more_out {u : Ru} (h : rsane u false = true) (ha : u.a ≠ 0) : 0 ≤ u.n ∧ u.n ≤ 8 := by
  unfold rsane actB at h
  simp only [Bool.and_eq_true] at h
  have h2 := h.2.2
  rw [if_neg ha] at h2
  split at h2
  · simp at h2; omega
  split at h2
  · simp at h2
  split at h2
  · simp at h2; omega
  · cases h2
theorem asane_parts {p : Pa} (h : asane7 p = true) : (∀ n ∈ p.s, 1 ≤ n ∧ n ≤ 4294967295) ∧ p.s.length ≤ 255 ∧ 0 ≤ p.o ∧ p.o ≤ 2 ∧ 0 < p.h ∧ p.h ≤ 4294967295 ∧ 0 ≤ p.c ∧ p.c ≤ 4294967295 := by
  unfold asane7 at h
  simp only [Bool.and_eq_true, Bool.not_eq_true', List.any_eq_false, decide_eq_true_eq] at h
  refine ⟨fun n hn => ?_, h.2.1, h.2.2.1, h.2.2.2.1, h.2.2.2.2.1, h.2.2.2.2.2.1, h.2.2.2.2.2.2.1, h.2.2.2.2.2.2.2⟩
  have := h.1 n hn
  unfold asnB at this
  simp only [Bool.or_eq_true, decide_eq_true_eq] at this
  omega
theorem asane_of {p : Pa} (h1 : ∀ n ∈ p.s, 1 ≤ n ∧ n ≤ 4294967295) (h2 : p.s.length ≤ 255) (h3 : 0 ≤ p.o) (h4 : p.o ≤ 2) (h5 : 0 < p.h) (h6 : p.h ≤ 4294967295) (h7 : 0 ≤ p.c) (h8 : p.c ≤ 4294967295) : asane7 p = true := by
  unfold asane7
  simp only [Bool.and_eq_true, Bool.not_eq_true', List.any_eq_false, decide_eq_true_eq]
  refine ⟨fun n hn => ?_, h2, h3, h4, h5, h6, h7, h8⟩
  have := h1 n hn
  unfold asnB
  simp only [Bool.or_eq_true, decide_eq_true_eq]
  omega
theorem orI_pos {a b : Int} (ha : 0 ≤ a) (hb : 0 < b) : 0 < orI a b := by unfold orI; split <;> omega
theorem orI_le {a b n : Int} (ha : a ≤ n) (hb : b ≤ n) : orI a b ≤ n := by unfold orI; split <;> omega

/-- EdgeTakes. -/
theorem takes_law {c : Cf} {k : Int} {x : Px} {p : Pa} {r : Rt} (h : inR c k x p = some r) : csane c = true ∧ rtsane r = true ∧ r.f = k ∧ (∃ (i : Nat) (s : Sd), k = i ∧ c.s[i]? = some s ∧ r.p.s[0]? = some s.a) ∧ r.p.s = p.s ∧ p.s.contains c.a = false ∧ r.p.o = p.o ∧ r.p.h = p.h := by
  obtain ⟨h1, h2, h3, i, s, m, u, rfl, hi, hs, h4, h5, h6, h7, h8, h9, rfl⟩ := inR_spec h
  obtain ⟨s1, s2, s3, s4, s5, s6⟩ := side_parts h1 hs
  obtain ⟨c1, c2, c3, c4, c5⟩ := csane_parts h1
  obtain ⟨p1, p2, p3, p4, p5, p6, p7, p8⟩ := asane_parts h3
  obtain ⟨u1, u2⟩ := pref_in (s5 u (pick_mem h8).1) h9
  refine ⟨h1, ?_, rfl, ⟨i, s, rfl, hs, h4⟩, rfl, h6, rfl, rfl⟩
  unfold rtsane
  simp only [Bool.and_eq_true, decide_eq_true_eq]
  have hm : 0 ≤ m ∧ m ≤ 4294967295 := by
    have := orI_pos p7 s1
    have := orI_le p8 s2
    unfold roleIn at h7
    repeat' split at h7
    all_goals first | (injection h7 with h7; omega) | cases h7
  refine ⟨asane_of p1 p2 p3 p4 p5 p6 hm.1 hm.2, h5, ?_⟩
  rw [if_neg (by omega)]
  simp only [Bool.and_eq_true, decide_eq_true_eq]
  omega
/-- EdgeTells. -/
theorem tells_law {c : Cf} {k : Int} {x : Px} {r : Rt} {q : Pa} (h : outR c k x r = some q) : csane c = true ∧ rtsane r = true ∧ asane7 q = true ∧ r.f ≠ k ∧ q.h = c.d ∧ q.o = r.p.o ∧ q.s.length ≤ 32 ∧ ∃ n : Nat, 1 ≤ n ∧ n ≤ 9 ∧ q.s = List.replicate n c.a ++ r.p.s := by
  obtain ⟨h1, h2, h3, h4, h5, i, s, m, u, rfl, hi, hs, h6, h7, h8, h9, rfl⟩ := outR_spec h
  obtain ⟨s1, s2, s3, s4, s5, s6⟩ := side_parts h1 hs
  obtain ⟨c1, c2, c3, c4, c5⟩ := csane_parts h1
  obtain ⟨u1, u2⟩ := more_out (s6 u (pick_mem h6).1) h7
  have h3' := h3
  unfold rtsane at h3'
  simp only [Bool.and_eq_true] at h3'
  obtain ⟨p1, p2, p3, p4, p5, p6, p7, p8⟩ := asane_parts h3'.1
  refine ⟨h1, h3, ?_, h4, rfl, rfl, h9, (1 + u.n).toNat, by omega, by omega, rfl⟩
  have hm : 0 ≤ m ∧ m ≤ 4294967295 := by
    have := orI_pos p7 c1
    have := orI_le p8 c2
    unfold roleOut at h8
    repeat' split at h8
    all_goals first | (injection h8 with h8; omega) | cases h8
  refine asane_of (fun n hn => ?_) (show (preR c u r).length ≤ 255 by omega) p3 p4 c3 c4 hm.1 hm.2
  simp only [preR, List.mem_append, List.mem_replicate] at hn
  rcases hn with ⟨_, rfl⟩ | hn
  · omega
  · exact p1 n hn
/-- EdgeMarks. -/
theorem marks_law {c : Cf} {k j : Int} {x : Px} {p : Pa} {r : Rt} {q : Pa} (h : inR c k x p = some r) (h' : outR c j x r = some q) : (∃ (i : Nat) (s : Sd), k = i ∧ c.s[i]? = some s ∧ classI c k = s.r ∧ roleIn s.r s.a p.c = some r.p.c) ∧ (classI c k = 1 ∨ classI c j = 1) ∧ (r.p.c = 0 ∨ classI c j = 1) ∧ (classI c j = 3 ↔ q.c = 0) := by
  obtain ⟨h1, h2, h3, i, s, m, u, rfl, hi, hs, h4, h5, h6, h7, h8, h9, rfl⟩ := inR_spec h
  obtain ⟨g1, g2, g3, g4, g5, i', t, m', u', rfl, gi, gs, g6, g7, g8, g9, rfl⟩ := outR_spec h'
  obtain ⟨s1, s2, s3, s4, s5, s6⟩ := side_parts h1 hs
  obtain ⟨t1, t2, t3, t4, t5, t6⟩ := side_parts h1 gs
  obtain ⟨c1, c2, c3, c4, c5⟩ := csane_parts h1
  obtain ⟨p1, p2, p3, p4, p5, p6, p7, p8⟩ := asane_parts h3
  rw [class_nat hs, class_nat gs]
  refine ⟨⟨i, s, rfl, hs, rfl, h7⟩, ?_⟩
  simp only [] at g8 ⊢
  have o1 := orI_pos p7 s1
  have hm : 0 ≤ m ∧ (s.r ≠ 1 → 0 < m) := by
    unfold roleIn at h7
    repeat' split at h7
    all_goals first | (injection h7 with h7; omega) | cases h7
  have o2 := orI_pos hm.1 c1
  unfold roleOut at g8
  repeat' split at g8
  all_goals first | (injection g8 with g8; omega) | cases g8
/-- EdgeRules: what is taken. -/
theorem rule_law {c : Cf} {k : Int} {x : Px} {p : Pa} {r : Rt} (h : inR c k x p = some r) : ∃ (i : Nat) (s : Sd) (u : Ru), k = i ∧ c.s[i]? = some s ∧ pickR s.i (vwI x p s.r) = some u ∧ u.a = 2 ∧ u.n = r.n := by
  obtain ⟨h1, h2, h3, i, s, m, u, rfl, hi, hs, h4, h5, h6, h7, h8, h9, rfl⟩ := inR_spec h
  exact ⟨i, s, u, rfl, hs, h8, h9, rfl⟩
/-- EdgeRules: rules that reject all. -/
def noneR : Ru := ⟨0, ⟨0, 0⟩, 0, 0, 0⟩
theorem none_law {c : Cf} {k : Nat} {s : Sd} (hk : k < c.s.length) (x : Px) (p : Pa) : inR (putS c k { s with i := [noneR], o := [] }) k x p = none := by
  cases h : inR (putS c k { s with i := [noneR], o := [] }) k x p with
  | none => rfl
  | some r =>
    obtain ⟨i, t, u, e, hs, hp, ha, _⟩ := rule_law h
    obtain rfl : k = i := by omega
    rw [put_get hk] at hs
    injection hs with hs
    subst hs
    have := (pick_mem hp).1
    simp only [List.mem_singleton] at this
    subst this
    cases ha
theorem none_law2 {c : Cf} {k : Nat} {s : Sd} (hk : k < c.s.length) (x : Px) (r : Rt) : outR (putS c k { s with i := [noneR], o := [] }) k x r = none := by
  cases h : outR (putS c k { s with i := [noneR], o := [] }) k x r with
  | none => rfl
  | some r =>
    obtain ⟨g1, g2, g3, g4, g5, i', t, m', u', e, gi, gs, g6, g7, g8, g9, rfl⟩ := outR_spec h
    obtain rfl : k = i' := by omega
    rw [put_get hk] at gs
    injection gs with gs
    subst gs
    have := (pick_mem g6).1
    cases this
/-- EdgeLoops. -/
theorem loop_law {c : Cf} {k : Int} {x : Px} {p : Pa} (h : c.a ∈ p.s) : inR c k x p = none := by
  cases hh : inR c k x p with
  | none => rfl
  | some r =>
    obtain ⟨h1, h2, h3, i, s, m, u, rfl, hi, hs, h4, h5, h6, h7, h8, h9, rfl⟩ := inR_spec hh
    rw [List.contains_iff_mem.2 h] at h6
    cases h6
theorem loop_law2 {c : Cf} {k : Int} {x : Px} {r : Rt} {q : Pa} (h : outR c k x r = some q) : c.a ∈ q.s ∧ rtsane r = true := by
  obtain ⟨_, h2, _, _, _, _, _, n, n1, _, h3⟩ := tells_law h
  exact ⟨by rw [h3, List.mem_append]; exact .inl (List.mem_replicate.2 ⟨by omega, rfl⟩), h2⟩
/-- RiseBounds. -/
theorem bounds_law {c : Cf} {k : Int} {x : Px} {p : Pa} {r : Rt} (h : inR c k x p = some r) : ∃ l u : Int, lowI c (classI c k) = some l ∧ highI c k = some u ∧ l ≤ r.n ∧ r.n ≤ u := by
  obtain ⟨h1, h2, h3, i, s, m, u, rfl, hi, hs, h4, h5, h6, h7, h8, h9, rfl⟩ := inR_spec h
  obtain ⟨s1, s2, s3, s4, s5, s6⟩ := side_parts h1 hs
  have hm : u ∈ reachR s.i s.r := pick_reach h8
  rw [class_nat hs]
  obtain ⟨v, hv, hle⟩ := (low_low (k := s.r) (l := c.s) (w := none)).2 s (List.mem_of_getElem? hs) rfl u hm h9
  obtain ⟨w, hw⟩ := Option.isSome_iff_exists.1 (seek_some (b := false) (l := reachR s.i s.r) (w := none) (.inr ⟨u, hm, h9⟩))
  have hge := (seek_high hw).1 u hm h9
  refine ⟨v.n, w.n, ?_, ?_, hle, hge⟩
  · unfold lowI
    rw [if_neg (by omega)]
    have : lowR c s.r = some v := hv
    rw [this]; rfl
  · unfold highI
    rw [if_pos (by omega), Int.toNat_natCast, hs]
    have : seekR false none (reachR s.i s.r) = some w := hw
    simp only [this]; rfl
theorem goes_law {c : Cf} {j : Int} {x : Px} {r : Rt} {q : Pa} (h : outR c j x r = some q) : tellsB c j (classI c r.f) = true := by
  obtain ⟨g1, g2, g3, g4, g5, i', t, m', u', rfl, gi, gs, g6, g7, g8, g9, rfl⟩ := outR_spec h
  have hm : u' ∈ reachR t.o (classI c r.f) := pick_reach g6
  unfold tellsB
  rw [if_pos (by omega), Int.toNat_natCast, gs]
  simp only [List.any_eq_true, bne_iff_ne]
  exact ⟨u', hm, g7⟩
theorem class_range {c : Cf} {k : Int} {x : Px} {p : Pa} {r : Rt} (h : inR c k x p = some r) : classI c k ∈ ([0, 1, 2, 3] : List Int) := by
  obtain ⟨h1, h2, h3, i, s, m, u, rfl, hi, hs, h4, h5, h6, h7, h8, h9, rfl⟩ := inR_spec h
  obtain ⟨s1, s2, s3, s4, s5, s6⟩ := side_parts h1 hs
  rw [class_nat hs]
  simp only [List.mem_cons, List.not_mem_nil, or_false]
  omega
/-- RiseWorse. -/
theorem worse_law {a b : Cf} (hr : risesB a b = true) {x : Px} {r s : Rt} {q : Pa} (h : (∃ k p, inR a k x p = some r) ∨ r = ownR a.d) (hq : outR a (sideI a b.a) x r = some q) (hs : inR b (sideI b a.a) x q = some s) : cmpR r s < 0 := by
  obtain ⟨g1, g2, g3, g4, g5⟩ := rises_iff.1 hr
  have ht := goes_law hq
  obtain ⟨l', u, _, hu, _, hsu⟩ := bounds_law hs
  have key : ∃ l, lowI a (classI a r.f) = some l ∧ l ≤ r.n ∧ classI a r.f ∈ ([0, 1, 2, 3] : List Int) := by
    rcases h with ⟨k, p, h⟩ | rfl
    · have hk : r.f = k := (takes_law h).2.2.1
      obtain ⟨l, _, hl, _, hle, _⟩ := bounds_law h
      rw [hk]
      exact ⟨l, hl, hle, class_range h⟩
    · have e : classI a (ownR a.d).f = 0 := by show classI a (-1) = 0; unfold classI; rw [if_neg (by decide)]
      rw [e]
      exact ⟨400, rfl, Int.le_refl _, by decide⟩
  obtain ⟨l, hl, hle, hmem⟩ := key
  have hf := g5 _ hmem
  unfold fallsB at hf
  rw [hl, hu, ht] at hf
  simp only [Option.isSome_some, Option.getD_some, Bool.true_and, Bool.and_true, decide_eq_false_iff_not] at hf
  obtain ⟨_, _, _, _, _, _, _, n, n1, _, hqs⟩ := tells_law hq
  have hss : s.p.s = q.s := (takes_law hs).2.2.2.2.1
  unfold cmpR
  simp only [fnz]
  by_cases hlt : s.n < r.n
  · have : cmpI s.n r.n = -1 := by unfold cmpI; rw [if_pos hlt]
    rw [this, if_neg (by decide)]; decide
  · have h1 : cmpI s.n r.n = 0 := cmpI_zero.2 (by omega)
    have h2 : cmpI (r.p.s.length : Int) (s.p.s.length : Int) = -1 := by
      unfold cmpI
      rw [if_pos]
      rw [hss, hqs, List.length_append, List.length_replicate]; omega
    rw [h1, h2, if_pos rfl, if_neg (by decide)]; decide
end Go.Sim

/- What calls come to: printed by wip/tools/eq2.py: layer 14 Out. -/
namespace Go.Sim
open Go.RowKit Go.Proofs
set_option linter.unusedVariables false
set_option maxRecDepth 100000
variable [Lv]

def sRp (l : List T) (j : Int) : St := ⟨slots 48 [(7, .own 0), (8, .t (i64 j))], [.row 3 1 l]⟩
def sCc (l : List (List Int)) (n i : Int) : St := ⟨slots 36 [(0, .t (.sl 1 (l.map fun a => .sl 1 (ints a)))), (3, .t (i64 n)), (9, .t (.sl 1 (l.map fun a => .sl 1 (ints a)))), (10, .t (i64 l.length)), (11, .t (i64 i))], []⟩
def sCc2 (l : List (List Int)) (r : List Int) (i : Int) : St := ⟨slots 36 [(6, .own 0), (25, .t (.sl 1 (l.map fun a => .sl 1 (ints a)))), (26, .t (i64 l.length)), (27, .t (i64 i))], [.row 3 1 (ints r)]⟩
def sCm (l m : List Int) (i : Int) : St := ⟨slots 36 [(0, .t (.sl 1 (ints l))), (1, .t (.sl 1 (ints m))), (9, .t (.sl 1 (ints l))), (10, .t (i64 l.length)), (11, .t (i64 i))], []⟩
theorem q51 (N : Nat) (a n : Int) : callP env (N + 1) 51 [.sl 1 [i64 a], i64 n] = W [.sl 1 [i64 a], i64 n] (bif decide (n < 0) then Res.stuck else cl N 77 [T.int IntKind.u64 (IntKind.u64.wrap (↑1 : Int)), T.int IntKind.u64 (IntKind.u64.wrap n)] fun x => compT x 0 fun y => compT x 1 fun y_1 => iT IntKind.u64 y fun a_1 => bif decide (a_1 > 0) then Res.stuck else iT IntKind.u64 y_1 fun a_2 => bif decide (a_2 > 9223372036854775807) then Res.stuck else iT IntKind.u64 y_1 fun n => chk (decide (0 ≤ IntKind.i64.wrap n) && decide (IntKind.i64.wrap n ≤ IntKind.i64.wrap n) && decide ((IntKind.i64.wrap n).toNat * 8 ≤ 140737488355328)) (chk (decide ((List.replicate (IntKind.i64.wrap n).toNat (i64 0)).length ≤ (List.replicate (IntKind.i64.wrap n).toNat (i64 0)).length)) (loopL env N 51 8 (sRp (spliceT (List.replicate (IntKind.i64.wrap n).toNat (i64 0)) 0 (List.take (List.replicate (IntKind.i64.wrap n).toNat (i64 0)).length [i64 a])) (↑(min 1 (List.replicate (IntKind.i64.wrap n).toNat (i64 0)).length) : Int))))) := by kernel_rfl
theorem b51_8 (N : Nat) (l : List T) (j : Int) : bodyL env N 51 0 8 (sRp l j) = bif decide (j < (↑l.length : Int)) then chk (decide (0 ≤ j) && decide (j ≤ (↑l.length : Int))) (chk (decide (0 ≤ j) && decide (j ≤ (↑l.length : Int))) (bif decide (0 + j.toNat ≤ l.length) then chk (decide (0 + j.toNat ≤ 0 + l.length) && decide (0 + l.length ≤ l.length)) (Res.ok (Ex.norm, sRp (spliceT l (0 + j.toNat) (List.take (0 + l.length - (0 + j.toNat)) (List.drop 0 (List.take (0 + j.toNat) l)))) (IntKind.i64.wrap (j + (↑(min (List.drop 0 (List.take (0 + j.toNat) l)).length (0 + l.length - (0 + j.toNat))) : Int))))) else Res.stuck)) else Res.ok (Ex.exit 0, { tmps := slots 48 [(7, PV.own 0)], heap := [AObj.row 3 1 l] }) := by kernel_rfl
theorem t51_8_exit0 (N : Nat) (l : List T) (j : Int) : tailL env N 51 0 8 (outK env 51) (.exit 0) (⟨slots 48 [(7, .own 0)], [.row 3 1 l]⟩) = Res.ok (T.sl 1 l) := by kernel_rfl
theorem q77 (N : Nat) (a b : Int) : callP env (N + 1) 77 [.int .u64 a, .int .u64 b] = W [.int .u64 a, .int .u64 b] (cl N 90 [T.int IntKind.u64 a, T.int IntKind.u64 b] fun x => compT x 0 fun y => compT x 1 fun y_1 => Res.ok (T.tup [y, y_1])) := by kernel_rfl
theorem q90 (N : Nat) (a b : Int) : callP env (N + 1) 90 [.int .u64 a, .int .u64 b] = W [.int .u64 a, .int .u64 b] (Res.ok (T.tup [T.int IntKind.u64 (IntKind.u64.wrap (IntKind.u64.wrap (IntKind.u64.wrap (a.fdiv 4294967296 * b.fdiv 4294967296) + (IntKind.u64.wrap (IntKind.u64.wrap (a.fdiv 4294967296 * IntKind.u64.wrap (↑(BitVec.ofInt 64 b &&& BitVec.ofInt 64 4294967295).toNat : Int)) + (IntKind.u64.wrap (IntKind.u64.wrap (↑(BitVec.ofInt 64 a &&& BitVec.ofInt 64 4294967295).toNat : Int) * IntKind.u64.wrap (↑(BitVec.ofInt 64 b &&& BitVec.ofInt 64 4294967295).toNat : Int))).fdiv 4294967296)).fdiv 4294967296) + (IntKind.u64.wrap (IntKind.u64.wrap (↑(BitVec.ofInt 64 (IntKind.u64.wrap (IntKind.u64.wrap (a.fdiv 4294967296 * IntKind.u64.wrap (↑(BitVec.ofInt 64 b &&& BitVec.ofInt 64 4294967295).toNat : Int)) + (IntKind.u64.wrap (IntKind.u64.wrap (↑(BitVec.ofInt 64 a &&& BitVec.ofInt 64 4294967295).toNat : Int) * IntKind.u64.wrap (↑(BitVec.ofInt 64 b &&& BitVec.ofInt 64 4294967295).toNat : Int))).fdiv 4294967296)) &&& BitVec.ofInt 64 4294967295).toNat : Int) + IntKind.u64.wrap (IntKind.u64.wrap (↑(BitVec.ofInt 64 a &&& BitVec.ofInt 64 4294967295).toNat : Int) * b.fdiv 4294967296))).fdiv 4294967296)), T.int IntKind.u64 (IntKind.u64.wrap (a * b))])) := by kernel_rfl
theorem q50 (N : Nat) (l : List (List Int)) : callP env (N + 1) 50 [.sl 1 (l.map fun a => .sl 1 (ints a))] = W [.sl 1 (l.map fun a => .sl 1 (ints a))] (loopL env N 50 3 { tmps := slots 36 [(0, PV.t (T.sl 1 (List.map (fun a => T.sl 1 (ints a)) l))), (3, PV.t (i64 0)), (9, PV.t (T.sl 1 (List.map (fun a => T.sl 1 (ints a)) l))), (10, PV.t (i64 (↑(List.map (fun a => T.sl 1 (ints a)) l).length : Int))), (11, PV.t (i64 0))], heap := [] }) := by kernel_rfl
theorem b50_3 (N : Nat) (l : List (List Int)) (n i : Int) : bodyL env N 50 0 3 (sCc l n i) = bif decide (i < (↑l.length : Int)) then atT (List.map (fun a => T.sl 1 (ints a)) l) i fun e => sllT e fun n_1 => bif decide (IntKind.i64.wrap (n + n_1) < 0) then Res.stuck else Res.ok (Ex.norm, sCc l (IntKind.i64.wrap (n + n_1)) (IntKind.i64.wrap (i + 1))) else Res.ok (Ex.exit 0, { tmps := slots 36 [(0, PV.t (T.sl 1 (List.map (fun a => T.sl 1 (ints a)) l))), (3, PV.t (i64 n))], heap := [] }) := by kernel_rfl
theorem t50_3_exit0 (N : Nat) (l : List (List Int)) (n : Int) : tailL env N 50 0 3 (outK env 50) (.exit 0) (⟨slots 36 [(0, .t (.sl 1 (l.map fun a => .sl 1 (ints a)))), (3, .t (i64 n))], []⟩) = (bif decide (0 ≤ n) && decide ((0 + n.toNat) * 8 ≤ 140737488355328) then Res.ok [] else Res.stuck).bind fun ys => loopL env N 50 11 { tmps := slots 36 [(6, PV.own 0), (25, PV.t (T.sl 1 (List.map (fun a => T.sl 1 (ints a)) l))), (26, PV.t (i64 (↑(List.map (fun a => T.sl 1 (ints a)) l).length : Int))), (27, PV.t (i64 0))], heap := [AObj.row 3 1 ys] } := by kernel_rfl
theorem b50_11 (N : Nat) (l : List (List Int)) (r : List Int) (i : Int) : bodyL env N 50 0 11 (sCc2 l r i) = bif decide (i < (↑l.length : Int)) then atT (List.map (fun a => T.sl 1 (ints a)) l) i fun e => slT 1 e fun ys => chk (decide (((ints r).length + ys.length) * 8 ≤ 140737488355328)) (Res.ok (Ex.norm, { tmps := slots 36 [(6, PV.own 0), (25, PV.t (T.sl 1 (List.map (fun a => T.sl 1 (ints a)) l))), (26, PV.t (i64 (↑l.length : Int))), (27, PV.t (i64 (IntKind.i64.wrap (i + 1))))], heap := [AObj.row 3 1 (ints r ++ ys)] })) else Res.ok (Ex.exit 2, { tmps := slots 36 [(6, PV.own 0)], heap := [AObj.row 3 1 (ints r)] }) := by kernel_rfl
theorem t50_11_exit2 (N : Nat) (l : List (List Int)) (r : List Int) : tailL env N 50 0 11 (outK env 50) (.exit 2) (⟨slots 36 [(6, .own 0)], [.row 3 1 (ints r)]⟩) = Res.ok (T.sl 1 (ints r)) := by kernel_rfl
theorem q86 (N : Nat) (l m : List Int) : callP env (N + 1) 86 [.sl 1 (ints l), .sl 1 (ints m)] = W [.sl 1 (ints l), .sl 1 (ints m)] (loopL env N 86 2 { tmps := slots 36 [(0, PV.t (T.sl 1 (ints l))), (1, PV.t (T.sl 1 (ints m))), (9, PV.t (T.sl 1 (ints l))), (10, PV.t (i64 (↑(ints l).length : Int))), (11, PV.t (i64 0))], heap := [] }) := by kernel_rfl
theorem b86_2 (N : Nat) (l m : List Int) (i : Int) : bodyL env N 86 0 2 (sCm l m i) = bif decide (i < (↑l.length : Int)) then atT (ints l) i fun e => bif decide (i ≥ (↑(ints m).length : Int)) then Res.ok (Ex.ret, { tmps := slots 36 [(4, PV.t (i64 1))], heap := [] }) else atT (ints m) i fun e_1 => cl N 85 [e, e_1] fun x => iT IntKind.i64 x fun a => bif a != 0 then Res.ok (Ex.ret, { tmps := slots 36 [(4, PV.t x)], heap := [] }) else Res.ok (Ex.norm, sCm l m (IntKind.i64.wrap (i + 1))) else Res.ok (Ex.exit 0, { tmps := slots 36 [(0, PV.t (T.sl 1 (ints l))), (1, PV.t (T.sl 1 (ints m)))], heap := [] }) := by kernel_rfl
theorem t86_2_ret (N : Nat) (n : Int) : tailL env N 86 0 2 (outK env 86) (.ret) (⟨slots 36 [(4, .t (i64 n))], []⟩) = rI n := by kernel_rfl
theorem t86_2_exit0 (N : Nat) (l m : List Int) : tailL env N 86 0 2 (outK env 86) (.exit 0) (⟨slots 36 [(0, .t (.sl 1 (ints l))), (1, .t (.sl 1 (ints m)))], []⟩) = bif decide ((↑(ints l).length : Int) < (↑(ints m).length : Int)) then rI (-1) else rI 0 := by kernel_rfl
theorem q85 (N : Nat) (a b : Int) : callP env (N + 1) 85 [i64 a, i64 b] = W [i64 a, i64 b] (cl N 92 [i64 a] fun x => cl N 92 [i64 b] fun x_1 => bT x fun v => bif v then bT x_1 fun v => bif v then rI 0 else rI (-1) else bT x_1 fun v => bif v then rI 1 else bif decide (a < b) then rI (-1) else bif decide (a > b) then rI 1 else rI 0) := by kernel_rfl
theorem q92 (N : Nat) (a : Int) : callP env (N + 1) 92 [i64 a] = W [i64 a] (rB (a != a)) := by kernel_rfl
theorem q30 (N : Nat) (a b : Rt) : callP env (N + 1) 30 [a.t, b.t] = W [a.t, b.t] (chkAll (T.okE 1) [T.fn 66 [T.agg [i64 a.n, i64 a.p.o, T.sl 1 (ints a.p.s), i64 a.p.h, i64 a.p.c, i64 a.f, i64 b.n, i64 b.p.o, T.sl 1 (ints b.p.s), i64 b.p.h, i64 b.p.c, i64 b.f]] [], T.fn 67 [T.agg [i64 a.n, i64 a.p.o, T.sl 1 (ints a.p.s), i64 a.p.h, i64 a.p.c, i64 a.f, i64 b.n, i64 b.p.o, T.sl 1 (ints b.p.s), i64 b.p.h, i64 b.p.c, i64 b.f]] [], T.fn 68 [T.agg [i64 a.n, i64 a.p.o, T.sl 1 (ints a.p.s), i64 a.p.h, i64 a.p.c, i64 a.f, i64 b.n, i64 b.p.o, T.sl 1 (ints b.p.s), i64 b.p.h, i64 b.p.c, i64 b.f]] [], T.fn 69 [T.agg [i64 a.n, i64 a.p.o, T.sl 1 (ints a.p.s), i64 a.p.h, i64 a.p.c, i64 a.f, i64 b.n, i64 b.p.o, T.sl 1 (ints b.p.s), i64 b.p.h, i64 b.p.c, i64 b.f]] [], T.fn 70 [T.agg [i64 a.n, i64 a.p.o, T.sl 1 (ints a.p.s), i64 a.p.h, i64 a.p.c, i64 a.f, i64 b.n, i64 b.p.o, T.sl 1 (ints b.p.s), i64 b.p.h, i64 b.p.c, i64 b.f]] [], T.fn 71 [T.agg [i64 a.n, i64 a.p.o, T.sl 1 (ints a.p.s), i64 a.p.h, i64 a.p.c, i64 a.f, i64 b.n, i64 b.p.o, T.sl 1 (ints b.p.s), i64 b.p.h, i64 b.p.c, i64 b.f]] [], T.fn 72 [T.agg [i64 a.n, i64 a.p.o, T.sl 1 (ints a.p.s), i64 a.p.h, i64 a.p.c, i64 a.f, i64 b.n, i64 b.p.o, T.sl 1 (ints b.p.s), i64 b.p.h, i64 b.p.c, i64 b.f]] []] (loopL env N 30 3 { tmps := slots 38 [(26, PV.own 0), (27, PV.t (i64 (↑7 : Int))), (28, PV.t (i64 0))], heap := [AObj.row 92 1 [T.fn 66 [T.agg [i64 a.n, i64 a.p.o, T.sl 1 (ints a.p.s), i64 a.p.h, i64 a.p.c, i64 a.f, i64 b.n, i64 b.p.o, T.sl 1 (ints b.p.s), i64 b.p.h, i64 b.p.c, i64 b.f]] [], T.fn 67 [T.agg [i64 a.n, i64 a.p.o, T.sl 1 (ints a.p.s), i64 a.p.h, i64 a.p.c, i64 a.f, i64 b.n, i64 b.p.o, T.sl 1 (ints b.p.s), i64 b.p.h, i64 b.p.c, i64 b.f]] [], T.fn 68 [T.agg [i64 a.n, i64 a.p.o, T.sl 1 (ints a.p.s), i64 a.p.h, i64 a.p.c, i64 a.f, i64 b.n, i64 b.p.o, T.sl 1 (ints b.p.s), i64 b.p.h, i64 b.p.c, i64 b.f]] [], T.fn 69 [T.agg [i64 a.n, i64 a.p.o, T.sl 1 (ints a.p.s), i64 a.p.h, i64 a.p.c, i64 a.f, i64 b.n, i64 b.p.o, T.sl 1 (ints b.p.s), i64 b.p.h, i64 b.p.c, i64 b.f]] [], T.fn 70 [T.agg [i64 a.n, i64 a.p.o, T.sl 1 (ints a.p.s), i64 a.p.h, i64 a.p.c, i64 a.f, i64 b.n, i64 b.p.o, T.sl 1 (ints b.p.s), i64 b.p.h, i64 b.p.c, i64 b.f]] [], T.fn 71 [T.agg [i64 a.n, i64 a.p.o, T.sl 1 (ints a.p.s), i64 a.p.h, i64 a.p.c, i64 a.f, i64 b.n, i64 b.p.o, T.sl 1 (ints b.p.s), i64 b.p.h, i64 b.p.c, i64 b.f]] [], T.fn 72 [T.agg [i64 a.n, i64 a.p.o, T.sl 1 (ints a.p.s), i64 a.p.h, i64 a.p.c, i64 a.f, i64 b.n, i64 b.p.o, T.sl 1 (ints b.p.s), i64 b.p.h, i64 b.p.c, i64 b.f]] []]] })) := by kernel_rfl
end Go.Sim

/- What calls come to: printed by wip/tools/eq2.py: route.Compare. -/
namespace Go.Sim
open Go.RowKit Go.Proofs
set_option linter.unusedVariables false
set_option maxRecDepth 100000
variable [Lv]

def twT (a b : Rt) : T := T.agg [i64 a.n, i64 a.p.o, T.sl 1 (ints a.p.s), i64 a.p.h, i64 a.p.c, i64 a.f, i64 b.n, i64 b.p.o, T.sl 1 (ints b.p.s), i64 b.p.h, i64 b.p.c, i64 b.f]
def rowC (a b : Rt) : List T := [T.fn 66 [twT a b] [], T.fn 67 [twT a b] [], T.fn 68 [twT a b] [], T.fn 69 [twT a b] [], T.fn 70 [twT a b] [], T.fn 71 [twT a b] [], T.fn 72 [twT a b] []]
def sRc0 (a b : Rt) : St := ⟨slots 38 [(26, .own 0), (27, .t (i64 7)), (28, .t (i64 0))], [.row 92 1 (rowC a b)]⟩
def sRc1 (a b : Rt) : St := ⟨slots 38 [(26, .own 0), (27, .t (i64 7)), (28, .t (i64 1))], [.row 92 1 (rowC a b)]⟩
def sRc2 (a b : Rt) : St := ⟨slots 38 [(26, .own 0), (27, .t (i64 7)), (28, .t (i64 2))], [.row 92 1 (rowC a b)]⟩
def sRc3 (a b : Rt) : St := ⟨slots 38 [(26, .own 0), (27, .t (i64 7)), (28, .t (i64 3))], [.row 92 1 (rowC a b)]⟩
def sRc4 (a b : Rt) : St := ⟨slots 38 [(26, .own 0), (27, .t (i64 7)), (28, .t (i64 4))], [.row 92 1 (rowC a b)]⟩
def sRc5 (a b : Rt) : St := ⟨slots 38 [(26, .own 0), (27, .t (i64 7)), (28, .t (i64 5))], [.row 92 1 (rowC a b)]⟩
def sRc6 (a b : Rt) : St := ⟨slots 38 [(26, .own 0), (27, .t (i64 7)), (28, .t (i64 6))], [.row 92 1 (rowC a b)]⟩
def sRc7 (a b : Rt) : St := ⟨slots 38 [(26, .own 0), (27, .t (i64 7)), (28, .t (i64 7))], [.row 92 1 (rowC a b)]⟩
theorem b30_3 (N : Nat) (a b : Rt) : bodyL env N 30 0 3 (sRc0 a b) = cl N 66 [T.agg [i64 a.n, i64 a.p.o, T.sl 1 (ints a.p.s), i64 a.p.h, i64 a.p.c, i64 a.f, i64 b.n, i64 b.p.o, T.sl 1 (ints b.p.s), i64 b.p.h, i64 b.p.c, i64 b.f]] fun r => iT IntKind.i64 r fun a_1 => bif a_1 != 0 then Res.ok (Ex.ret, { tmps := slots 38 [(4, PV.t r)], heap := [] }) else Res.ok (Ex.norm, { tmps := slots 38 [(26, PV.own 0), (27, PV.t (i64 7)), (28, PV.t (i64 1))], heap := [AObj.row 92 1 [T.fn 66 [T.agg [i64 a.n, i64 a.p.o, T.sl 1 (ints a.p.s), i64 a.p.h, i64 a.p.c, i64 a.f, i64 b.n, i64 b.p.o, T.sl 1 (ints b.p.s), i64 b.p.h, i64 b.p.c, i64 b.f]] [], T.fn 67 [T.agg [i64 a.n, i64 a.p.o, T.sl 1 (ints a.p.s), i64 a.p.h, i64 a.p.c, i64 a.f, i64 b.n, i64 b.p.o, T.sl 1 (ints b.p.s), i64 b.p.h, i64 b.p.c, i64 b.f]] [], T.fn 68 [T.agg [i64 a.n, i64 a.p.o, T.sl 1 (ints a.p.s), i64 a.p.h, i64 a.p.c, i64 a.f, i64 b.n, i64 b.p.o, T.sl 1 (ints b.p.s), i64 b.p.h, i64 b.p.c, i64 b.f]] [], T.fn 69 [T.agg [i64 a.n, i64 a.p.o, T.sl 1 (ints a.p.s), i64 a.p.h, i64 a.p.c, i64 a.f, i64 b.n, i64 b.p.o, T.sl 1 (ints b.p.s), i64 b.p.h, i64 b.p.c, i64 b.f]] [], T.fn 70 [T.agg [i64 a.n, i64 a.p.o, T.sl 1 (ints a.p.s), i64 a.p.h, i64 a.p.c, i64 a.f, i64 b.n, i64 b.p.o, T.sl 1 (ints b.p.s), i64 b.p.h, i64 b.p.c, i64 b.f]] [], T.fn 71 [T.agg [i64 a.n, i64 a.p.o, T.sl 1 (ints a.p.s), i64 a.p.h, i64 a.p.c, i64 a.f, i64 b.n, i64 b.p.o, T.sl 1 (ints b.p.s), i64 b.p.h, i64 b.p.c, i64 b.f]] [], T.fn 72 [T.agg [i64 a.n, i64 a.p.o, T.sl 1 (ints a.p.s), i64 a.p.h, i64 a.p.c, i64 a.f, i64 b.n, i64 b.p.o, T.sl 1 (ints b.p.s), i64 b.p.h, i64 b.p.c, i64 b.f]] []]] }) := by kernel_rfl
theorem b30_3_2 (N : Nat) (a b : Rt) : bodyL env N 30 0 3 (sRc1 a b) = cl N 67 [T.agg [i64 a.n, i64 a.p.o, T.sl 1 (ints a.p.s), i64 a.p.h, i64 a.p.c, i64 a.f, i64 b.n, i64 b.p.o, T.sl 1 (ints b.p.s), i64 b.p.h, i64 b.p.c, i64 b.f]] fun r => iT IntKind.i64 r fun a_1 => bif a_1 != 0 then Res.ok (Ex.ret, { tmps := slots 38 [(4, PV.t r)], heap := [] }) else Res.ok (Ex.norm, { tmps := slots 38 [(26, PV.own 0), (27, PV.t (i64 7)), (28, PV.t (i64 2))], heap := [AObj.row 92 1 [T.fn 66 [T.agg [i64 a.n, i64 a.p.o, T.sl 1 (ints a.p.s), i64 a.p.h, i64 a.p.c, i64 a.f, i64 b.n, i64 b.p.o, T.sl 1 (ints b.p.s), i64 b.p.h, i64 b.p.c, i64 b.f]] [], T.fn 67 [T.agg [i64 a.n, i64 a.p.o, T.sl 1 (ints a.p.s), i64 a.p.h, i64 a.p.c, i64 a.f, i64 b.n, i64 b.p.o, T.sl 1 (ints b.p.s), i64 b.p.h, i64 b.p.c, i64 b.f]] [], T.fn 68 [T.agg [i64 a.n, i64 a.p.o, T.sl 1 (ints a.p.s), i64 a.p.h, i64 a.p.c, i64 a.f, i64 b.n, i64 b.p.o, T.sl 1 (ints b.p.s), i64 b.p.h, i64 b.p.c, i64 b.f]] [], T.fn 69 [T.agg [i64 a.n, i64 a.p.o, T.sl 1 (ints a.p.s), i64 a.p.h, i64 a.p.c, i64 a.f, i64 b.n, i64 b.p.o, T.sl 1 (ints b.p.s), i64 b.p.h, i64 b.p.c, i64 b.f]] [], T.fn 70 [T.agg [i64 a.n, i64 a.p.o, T.sl 1 (ints a.p.s), i64 a.p.h, i64 a.p.c, i64 a.f, i64 b.n, i64 b.p.o, T.sl 1 (ints b.p.s), i64 b.p.h, i64 b.p.c, i64 b.f]] [], T.fn 71 [T.agg [i64 a.n, i64 a.p.o, T.sl 1 (ints a.p.s), i64 a.p.h, i64 a.p.c, i64 a.f, i64 b.n, i64 b.p.o, T.sl 1 (ints b.p.s), i64 b.p.h, i64 b.p.c, i64 b.f]] [], T.fn 72 [T.agg [i64 a.n, i64 a.p.o, T.sl 1 (ints a.p.s), i64 a.p.h, i64 a.p.c, i64 a.f, i64 b.n, i64 b.p.o, T.sl 1 (ints b.p.s), i64 b.p.h, i64 b.p.c, i64 b.f]] []]] }) := by kernel_rfl
theorem b30_3_3 (N : Nat) (a b : Rt) : bodyL env N 30 0 3 (sRc2 a b) = cl N 68 [T.agg [i64 a.n, i64 a.p.o, T.sl 1 (ints a.p.s), i64 a.p.h, i64 a.p.c, i64 a.f, i64 b.n, i64 b.p.o, T.sl 1 (ints b.p.s), i64 b.p.h, i64 b.p.c, i64 b.f]] fun r => iT IntKind.i64 r fun a_1 => bif a_1 != 0 then Res.ok (Ex.ret, { tmps := slots 38 [(4, PV.t r)], heap := [] }) else Res.ok (Ex.norm, { tmps := slots 38 [(26, PV.own 0), (27, PV.t (i64 7)), (28, PV.t (i64 3))], heap := [AObj.row 92 1 [T.fn 66 [T.agg [i64 a.n, i64 a.p.o, T.sl 1 (ints a.p.s), i64 a.p.h, i64 a.p.c, i64 a.f, i64 b.n, i64 b.p.o, T.sl 1 (ints b.p.s), i64 b.p.h, i64 b.p.c, i64 b.f]] [], T.fn 67 [T.agg [i64 a.n, i64 a.p.o, T.sl 1 (ints a.p.s), i64 a.p.h, i64 a.p.c, i64 a.f, i64 b.n, i64 b.p.o, T.sl 1 (ints b.p.s), i64 b.p.h, i64 b.p.c, i64 b.f]] [], T.fn 68 [T.agg [i64 a.n, i64 a.p.o, T.sl 1 (ints a.p.s), i64 a.p.h, i64 a.p.c, i64 a.f, i64 b.n, i64 b.p.o, T.sl 1 (ints b.p.s), i64 b.p.h, i64 b.p.c, i64 b.f]] [], T.fn 69 [T.agg [i64 a.n, i64 a.p.o, T.sl 1 (ints a.p.s), i64 a.p.h, i64 a.p.c, i64 a.f, i64 b.n, i64 b.p.o, T.sl 1 (ints b.p.s), i64 b.p.h, i64 b.p.c, i64 b.f]] [], T.fn 70 [T.agg [i64 a.n, i64 a.p.o, T.sl 1 (ints a.p.s), i64 a.p.h, i64 a.p.c, i64 a.f, i64 b.n, i64 b.p.o, T.sl 1 (ints b.p.s), i64 b.p.h, i64 b.p.c, i64 b.f]] [], T.fn 71 [T.agg [i64 a.n, i64 a.p.o, T.sl 1 (ints a.p.s), i64 a.p.h, i64 a.p.c, i64 a.f, i64 b.n, i64 b.p.o, T.sl 1 (ints b.p.s), i64 b.p.h, i64 b.p.c, i64 b.f]] [], T.fn 72 [T.agg [i64 a.n, i64 a.p.o, T.sl 1 (ints a.p.s), i64 a.p.h, i64 a.p.c, i64 a.f, i64 b.n, i64 b.p.o, T.sl 1 (ints b.p.s), i64 b.p.h, i64 b.p.c, i64 b.f]] []]] }) := by kernel_rfl
theorem b30_3_4 (N : Nat) (a b : Rt) : bodyL env N 30 0 3 (sRc3 a b) = cl N 69 [T.agg [i64 a.n, i64 a.p.o, T.sl 1 (ints a.p.s), i64 a.p.h, i64 a.p.c, i64 a.f, i64 b.n, i64 b.p.o, T.sl 1 (ints b.p.s), i64 b.p.h, i64 b.p.c, i64 b.f]] fun r => iT IntKind.i64 r fun a_1 => bif a_1 != 0 then Res.ok (Ex.ret, { tmps := slots 38 [(4, PV.t r)], heap := [] }) else Res.ok (Ex.norm, { tmps := slots 38 [(26, PV.own 0), (27, PV.t (i64 7)), (28, PV.t (i64 4))], heap := [AObj.row 92 1 [T.fn 66 [T.agg [i64 a.n, i64 a.p.o, T.sl 1 (ints a.p.s), i64 a.p.h, i64 a.p.c, i64 a.f, i64 b.n, i64 b.p.o, T.sl 1 (ints b.p.s), i64 b.p.h, i64 b.p.c, i64 b.f]] [], T.fn 67 [T.agg [i64 a.n, i64 a.p.o, T.sl 1 (ints a.p.s), i64 a.p.h, i64 a.p.c, i64 a.f, i64 b.n, i64 b.p.o, T.sl 1 (ints b.p.s), i64 b.p.h, i64 b.p.c, i64 b.f]] [], T.fn 68 [T.agg [i64 a.n, i64 a.p.o, T.sl 1 (ints a.p.s), i64 a.p.h, i64 a.p.c, i64 a.f, i64 b.n, i64 b.p.o, T.sl 1 (ints b.p.s), i64 b.p.h, i64 b.p.c, i64 b.f]] [], T.fn 69 [T.agg [i64 a.n, i64 a.p.o, T.sl 1 (ints a.p.s), i64 a.p.h, i64 a.p.c, i64 a.f, i64 b.n, i64 b.p.o, T.sl 1 (ints b.p.s), i64 b.p.h, i64 b.p.c, i64 b.f]] [], T.fn 70 [T.agg [i64 a.n, i64 a.p.o, T.sl 1 (ints a.p.s), i64 a.p.h, i64 a.p.c, i64 a.f, i64 b.n, i64 b.p.o, T.sl 1 (ints b.p.s), i64 b.p.h, i64 b.p.c, i64 b.f]] [], T.fn 71 [T.agg [i64 a.n, i64 a.p.o, T.sl 1 (ints a.p.s), i64 a.p.h, i64 a.p.c, i64 a.f, i64 b.n, i64 b.p.o, T.sl 1 (ints b.p.s), i64 b.p.h, i64 b.p.c, i64 b.f]] [], T.fn 72 [T.agg [i64 a.n, i64 a.p.o, T.sl 1 (ints a.p.s), i64 a.p.h, i64 a.p.c, i64 a.f, i64 b.n, i64 b.p.o, T.sl 1 (ints b.p.s), i64 b.p.h, i64 b.p.c, i64 b.f]] []]] }) := by kernel_rfl
theorem b30_3_5 (N : Nat) (a b : Rt) : bodyL env N 30 0 3 (sRc4 a b) = cl N 70 [T.agg [i64 a.n, i64 a.p.o, T.sl 1 (ints a.p.s), i64 a.p.h, i64 a.p.c, i64 a.f, i64 b.n, i64 b.p.o, T.sl 1 (ints b.p.s), i64 b.p.h, i64 b.p.c, i64 b.f]] fun r => iT IntKind.i64 r fun a_1 => bif a_1 != 0 then Res.ok (Ex.ret, { tmps := slots 38 [(4, PV.t r)], heap := [] }) else Res.ok (Ex.norm, { tmps := slots 38 [(26, PV.own 0), (27, PV.t (i64 7)), (28, PV.t (i64 5))], heap := [AObj.row 92 1 [T.fn 66 [T.agg [i64 a.n, i64 a.p.o, T.sl 1 (ints a.p.s), i64 a.p.h, i64 a.p.c, i64 a.f, i64 b.n, i64 b.p.o, T.sl 1 (ints b.p.s), i64 b.p.h, i64 b.p.c, i64 b.f]] [], T.fn 67 [T.agg [i64 a.n, i64 a.p.o, T.sl 1 (ints a.p.s), i64 a.p.h, i64 a.p.c, i64 a.f, i64 b.n, i64 b.p.o, T.sl 1 (ints b.p.s), i64 b.p.h, i64 b.p.c, i64 b.f]] [], T.fn 68 [T.agg [i64 a.n, i64 a.p.o, T.sl 1 (ints a.p.s), i64 a.p.h, i64 a.p.c, i64 a.f, i64 b.n, i64 b.p.o, T.sl 1 (ints b.p.s), i64 b.p.h, i64 b.p.c, i64 b.f]] [], T.fn 69 [T.agg [i64 a.n, i64 a.p.o, T.sl 1 (ints a.p.s), i64 a.p.h, i64 a.p.c, i64 a.f, i64 b.n, i64 b.p.o, T.sl 1 (ints b.p.s), i64 b.p.h, i64 b.p.c, i64 b.f]] [], T.fn 70 [T.agg [i64 a.n, i64 a.p.o, T.sl 1 (ints a.p.s), i64 a.p.h, i64 a.p.c, i64 a.f, i64 b.n, i64 b.p.o, T.sl 1 (ints b.p.s), i64 b.p.h, i64 b.p.c, i64 b.f]] [], T.fn 71 [T.agg [i64 a.n, i64 a.p.o, T.sl 1 (ints a.p.s), i64 a.p.h, i64 a.p.c, i64 a.f, i64 b.n, i64 b.p.o, T.sl 1 (ints b.p.s), i64 b.p.h, i64 b.p.c, i64 b.f]] [], T.fn 72 [T.agg [i64 a.n, i64 a.p.o, T.sl 1 (ints a.p.s), i64 a.p.h, i64 a.p.c, i64 a.f, i64 b.n, i64 b.p.o, T.sl 1 (ints b.p.s), i64 b.p.h, i64 b.p.c, i64 b.f]] []]] }) := by kernel_rfl
theorem b30_3_6 (N : Nat) (a b : Rt) : bodyL env N 30 0 3 (sRc5 a b) = cl N 71 [T.agg [i64 a.n, i64 a.p.o, T.sl 1 (ints a.p.s), i64 a.p.h, i64 a.p.c, i64 a.f, i64 b.n, i64 b.p.o, T.sl 1 (ints b.p.s), i64 b.p.h, i64 b.p.c, i64 b.f]] fun r => iT IntKind.i64 r fun a_1 => bif a_1 != 0 then Res.ok (Ex.ret, { tmps := slots 38 [(4, PV.t r)], heap := [] }) else Res.ok (Ex.norm, { tmps := slots 38 [(26, PV.own 0), (27, PV.t (i64 7)), (28, PV.t (i64 6))], heap := [AObj.row 92 1 [T.fn 66 [T.agg [i64 a.n, i64 a.p.o, T.sl 1 (ints a.p.s), i64 a.p.h, i64 a.p.c, i64 a.f, i64 b.n, i64 b.p.o, T.sl 1 (ints b.p.s), i64 b.p.h, i64 b.p.c, i64 b.f]] [], T.fn 67 [T.agg [i64 a.n, i64 a.p.o, T.sl 1 (ints a.p.s), i64 a.p.h, i64 a.p.c, i64 a.f, i64 b.n, i64 b.p.o, T.sl 1 (ints b.p.s), i64 b.p.h, i64 b.p.c, i64 b.f]] [], T.fn 68 [T.agg [i64 a.n, i64 a.p.o, T.sl 1 (ints a.p.s), i64 a.p.h, i64 a.p.c, i64 a.f, i64 b.n, i64 b.p.o, T.sl 1 (ints b.p.s), i64 b.p.h, i64 b.p.c, i64 b.f]] [], T.fn 69 [T.agg [i64 a.n, i64 a.p.o, T.sl 1 (ints a.p.s), i64 a.p.h, i64 a.p.c, i64 a.f, i64 b.n, i64 b.p.o, T.sl 1 (ints b.p.s), i64 b.p.h, i64 b.p.c, i64 b.f]] [], T.fn 70 [T.agg [i64 a.n, i64 a.p.o, T.sl 1 (ints a.p.s), i64 a.p.h, i64 a.p.c, i64 a.f, i64 b.n, i64 b.p.o, T.sl 1 (ints b.p.s), i64 b.p.h, i64 b.p.c, i64 b.f]] [], T.fn 71 [T.agg [i64 a.n, i64 a.p.o, T.sl 1 (ints a.p.s), i64 a.p.h, i64 a.p.c, i64 a.f, i64 b.n, i64 b.p.o, T.sl 1 (ints b.p.s), i64 b.p.h, i64 b.p.c, i64 b.f]] [], T.fn 72 [T.agg [i64 a.n, i64 a.p.o, T.sl 1 (ints a.p.s), i64 a.p.h, i64 a.p.c, i64 a.f, i64 b.n, i64 b.p.o, T.sl 1 (ints b.p.s), i64 b.p.h, i64 b.p.c, i64 b.f]] []]] }) := by kernel_rfl
theorem b30_3_7 (N : Nat) (a b : Rt) : bodyL env N 30 0 3 (sRc6 a b) = cl N 72 [T.agg [i64 a.n, i64 a.p.o, T.sl 1 (ints a.p.s), i64 a.p.h, i64 a.p.c, i64 a.f, i64 b.n, i64 b.p.o, T.sl 1 (ints b.p.s), i64 b.p.h, i64 b.p.c, i64 b.f]] fun r => iT IntKind.i64 r fun a_1 => bif a_1 != 0 then Res.ok (Ex.ret, { tmps := slots 38 [(4, PV.t r)], heap := [] }) else Res.ok (Ex.norm, { tmps := slots 38 [(26, PV.own 0), (27, PV.t (i64 7)), (28, PV.t (i64 7))], heap := [AObj.row 92 1 [T.fn 66 [T.agg [i64 a.n, i64 a.p.o, T.sl 1 (ints a.p.s), i64 a.p.h, i64 a.p.c, i64 a.f, i64 b.n, i64 b.p.o, T.sl 1 (ints b.p.s), i64 b.p.h, i64 b.p.c, i64 b.f]] [], T.fn 67 [T.agg [i64 a.n, i64 a.p.o, T.sl 1 (ints a.p.s), i64 a.p.h, i64 a.p.c, i64 a.f, i64 b.n, i64 b.p.o, T.sl 1 (ints b.p.s), i64 b.p.h, i64 b.p.c, i64 b.f]] [], T.fn 68 [T.agg [i64 a.n, i64 a.p.o, T.sl 1 (ints a.p.s), i64 a.p.h, i64 a.p.c, i64 a.f, i64 b.n, i64 b.p.o, T.sl 1 (ints b.p.s), i64 b.p.h, i64 b.p.c, i64 b.f]] [], T.fn 69 [T.agg [i64 a.n, i64 a.p.o, T.sl 1 (ints a.p.s), i64 a.p.h, i64 a.p.c, i64 a.f, i64 b.n, i64 b.p.o, T.sl 1 (ints b.p.s), i64 b.p.h, i64 b.p.c, i64 b.f]] [], T.fn 70 [T.agg [i64 a.n, i64 a.p.o, T.sl 1 (ints a.p.s), i64 a.p.h, i64 a.p.c, i64 a.f, i64 b.n, i64 b.p.o, T.sl 1 (ints b.p.s), i64 b.p.h, i64 b.p.c, i64 b.f]] [], T.fn 71 [T.agg [i64 a.n, i64 a.p.o, T.sl 1 (ints a.p.s), i64 a.p.h, i64 a.p.c, i64 a.f, i64 b.n, i64 b.p.o, T.sl 1 (ints b.p.s), i64 b.p.h, i64 b.p.c, i64 b.f]] [], T.fn 72 [T.agg [i64 a.n, i64 a.p.o, T.sl 1 (ints a.p.s), i64 a.p.h, i64 a.p.c, i64 a.f, i64 b.n, i64 b.p.o, T.sl 1 (ints b.p.s), i64 b.p.h, i64 b.p.c, i64 b.f]] []]] }) := by kernel_rfl
theorem b30_3_8 (N : Nat) (a b : Rt) : bodyL env N 30 0 3 (sRc7 a b) = Res.ok (Ex.exit 0, { tmps := slots 38 [], heap := [] }) := by kernel_rfl
theorem t30_3_ret (N : Nat) (n : Int) : tailL env N 30 0 3 (outK env 30) (.ret) (⟨slots 38 [(4, .t (i64 n))], []⟩) = rI n := by kernel_rfl
theorem t30_3_exit0 (N : Nat)  : tailL env N 30 0 3 (outK env 30) (.exit 0) (⟨slots 38 [], []⟩) = rI 0 := by kernel_rfl
theorem q66 (N : Nat) (a b : Rt) : callP env (N + 1) 66 [twT a b] = W [twT a b] (cl N 85 [i64 b.n, i64 a.n] fun x => Res.ok x) := by kernel_rfl
theorem q67 (N : Nat) (a b : Rt) : callP env (N + 1) 67 [twT a b] = W [twT a b] (cl N 85 [i64 (↑(ints a.p.s).length : Int), i64 (↑(ints b.p.s).length : Int)] fun x => Res.ok x) := by kernel_rfl
theorem q68 (N : Nat) (a b : Rt) : callP env (N + 1) 68 [twT a b] = W [twT a b] (cl N 85 [i64 a.p.o, i64 b.p.o] fun x => Res.ok x) := by kernel_rfl
theorem q69 (N : Nat) (a b : Rt) : callP env (N + 1) 69 [twT a b] = W [twT a b] (cl N 86 [T.sl 1 (ints a.p.s), T.sl 1 (ints b.p.s)] fun x => Res.ok x) := by kernel_rfl
theorem q70 (N : Nat) (a b : Rt) : callP env (N + 1) 70 [twT a b] = W [twT a b] (cl N 85 [i64 a.p.h, i64 b.p.h] fun x => Res.ok x) := by kernel_rfl
theorem q71 (N : Nat) (a b : Rt) : callP env (N + 1) 71 [twT a b] = W [twT a b] (cl N 85 [i64 a.p.c, i64 b.p.c] fun x => Res.ok x) := by kernel_rfl
theorem q72 (N : Nat) (a b : Rt) : callP env (N + 1) 72 [twT a b] = W [twT a b] (cl N 85 [i64 a.f, i64 b.f] fun x => Res.ok x) := by kernel_rfl
end Go.Sim

/- What layer 9, role.Out, slices.Repeat, slices.Concat and slices.Compare answer. -/
namespace Go.Sim
open Go.RowKit Go.Proofs
set_option linter.unusedVariables false
set_option linter.unusedSimpArgs false
set_option linter.unusedSectionVars false
set_option maxRecDepth 100000

theorem iter_fnz {B : St → Res (Ex × St)} {R : Int → St} {X : St} {id : Nat} {S : Nat → St} : ∀ (vs : List Int) (k n : Nat), (∀ j v, vs[j]? = some v → B (S (k + j)) = if v = 0 then .ok (.norm, S (k + j + 1)) else .ok (.ret, R v)) → B (S (k + vs.length)) = .ok (.exit id, X) → vs.length < n →
    iterR B n (S k) = if fnz vs = 0 then .ok (.exit id, X) else .ok (.ret, R (fnz vs))
  | [], k, n, h, hx, hn => by
    obtain ⟨n, rfl⟩ : ∃ m, n = m + 1 := ⟨n - 1, by omega⟩
    simp only [fnz, if_true]
    exact iterR_exit hx
  | v :: vs, k, n, h, hx, hn => by
    simp only [List.length_cons] at hn
    obtain ⟨n, rfl⟩ : ∃ m, n = m + 1 := ⟨n - 1, by omega⟩
    have h0 := h 0 v rfl
    simp only [Nat.add_zero] at h0
    by_cases hv : v = 0
    · rw [if_pos hv] at h0
      rw [iterR_step h0, iter_fnz vs (k + 1) n (fun j u hu => by have := h (j + 1) u (by simpa using hu); rw [show k + 1 + j = k + (j + 1) by omega]; exact this) (by rw [show k + 1 + vs.length = k + (v :: vs).length by simp; omega]; exact hx) (by omega)]
      simp only [fnz, hv, if_true]
    · rw [if_neg hv] at h0
      rw [iterR_ret h0]
      simp only [fnz, hv, if_false]
theorem foldl_app {α : Type} : ∀ (l : List (List α)) (r : List α), l.foldl (fun r a => r ++ a) r = r ++ l.flatten
  | [], r => by simp
  | a :: l, r => by rw [List.foldl_cons, foldl_app l]; simp
theorem foldl_len : ∀ (l : List (List Int)) (n : Nat), l.foldl (fun n a => n + a.length) n = n + l.flatten.length
  | [], n => by simp
  | a :: l, n => by rw [List.foldl_cons, foldl_len l]; simp; omega
theorem flat_take {α : Type} {l : List (List α)} {j : Nat} {a : List α} (h : l[j]? = some a) : (l.take j).flatten.length + a.length ≤ l.flatten.length := by
  have h1 := (List.getElem?_eq_some_iff.1 h)
  have : l.flatten.length = (l.take (j + 1)).flatten.length + (l.drop (j + 1)).flatten.length := by
    rw [← List.length_append, ← List.flatten_append, List.take_append_drop]
  rw [this, List.take_succ_eq_append_getElem h1.1, List.flatten_append, List.length_append, h1.2]
  simp
theorem take_flat {α : Type} {l : List (List α)} {j : Nat} {a : List α} (h : l[j]? = some a) : (l.take (j + 1)).flatten = (l.take j).flatten ++ a := by
  have h1 := (List.getElem?_eq_some_iff.1 h)
  rw [List.take_succ_eq_append_getElem h1.1, List.flatten_append, h1.2]
  simp
variable [Lv]
theorem f85_ok {M : Nat} {a b : Int} (hM : 1 ≤ M) (ha : ok64 a = true) (hb : ok64 b = true) : callP env (M + 1) 85 [i64 a, i64 b] = .ok (i64 (cmpI a b)) := by
  obtain ⟨m, rfl⟩ := exM hM
  have nn : ∀ {a : Int}, ok64 a = true → callP env (m + 1) 92 [i64 a] = .ok (.bool false) := fun {a} h => by rw [q92, W_ok (wfs1 (wf_int h)), bne_self_eq_false]
  rw [q85, W_ok (wfs2 (wf_int ha) (wf_int hb)), cl_ok (nn ha), cl_ok (nn hb)]
  simp only [bT_bool, cond_false]
  unfold cmpI
  by_cases h : a < b
  · rw [decide_eq_true h, if_pos h]; rfl
  · rw [decide_eq_false h, if_neg h]
    by_cases h2 : b < a
    · rw [decide_eq_true (show a > b from h2), if_pos h2]; rfl
    · rw [decide_eq_false (show ¬ a > b from h2), if_neg h2]; rfl
theorem cmp_ok (a b : Int) : ok64 (cmpI a b) = true := by
  unfold cmpI
  split
  · rfl
  · split <;> rfl
theorem f86_ok {M : Nat} {l m : List Int} (hM : big + 2 ≤ M) (hl : okL okI l) (hm : okL okI m) : callP env (M + 1) 86 [.sl 1 (ints l), .sl 1 (ints m)] = .ok (i64 (cmpL l m)) := by
  rw [q86, W_ok (wfs2 (wf_ints hl) (wf_ints hm))]
  have hbl := hl.1
  have hbm := hm.1
  have main : ∀ (r : List Int) (i n : Nat), l.drop i = r → i ≤ l.length → r.length < n →
      (iterR (bodyL env M 86 0 2) n (sCm l m i)).bind (fun p => tailL env M 86 0 2 (outK env 86) p.1 p.2) = rI (cmpL r (m.drop i)) := by
    intro r
    induction r with
    | nil =>
      intro i n hd hi hn
      obtain ⟨n, rfl⟩ : ∃ m, n = m + 1 := ⟨n - 1, by omega⟩
      have hil : i = l.length := by have := congrArg List.length hd; simp at this; omega
      subst hil
      have hb : bodyL env M 86 0 2 (sCm l m (l.length : Int)) = .ok (.exit 0, ⟨slots 36 [(0, .t (.sl 1 (ints l))), (1, .t (.sl 1 (ints m)))], []⟩) := by
        rw [b86_2, decide_eq_false (by omega)]; rfl
      rw [iterR_exit hb]
      refine (t86_2_exit0 M l m).trans ?_
      rw [ints_map, ints_map, List.length_map, List.length_map]
      by_cases h : l.length < m.length
      · rw [decide_eq_true (by omega)]
        cases hdm : m.drop l.length with
        | nil => have := congrArg List.length hdm; simp at this; omega
        | cons => rfl
      · rw [decide_eq_false (by omega), List.drop_eq_nil_of_le (by omega)]; rfl
    | cons x r ih =>
      intro i n hd hi hn
      simp only [List.length_cons] at hn
      obtain ⟨n, rfl⟩ : ∃ m, n = m + 1 := ⟨n - 1, by omega⟩
      have hil : i < l.length := by have := congrArg List.length hd; simp at this; omega
      have hx : l[i]? = some x := by have := congrArg (fun z => z[0]?) hd; simpa using this
      have hd' : l.drop (i + 1) = r := by rw [← List.drop_drop, hd]; rfl
      have hb := b86_2 M l m i
      rw [decide_eq_true (by omega)] at hb
      simp only [cond_true] at hb
      rw [atT_get (ints_get hx), ints_map, List.length_map] at hb
      by_cases him : i < m.length
      case neg =>
        rw [decide_eq_true (by omega)] at hb
        rw [List.drop_eq_nil_of_le (show m.length ≤ i by omega), iterR_ret hb]
        exact t86_2_ret M 1
      have hy : m[i]? = some m[i] := List.getElem?_eq_getElem him
      rw [decide_eq_false (by omega)] at hb
      simp only [cond_false] at hb
      rw [← ints_map, atT_get (ints_get hy)] at hb
      obtain ⟨m', rfl⟩ := exM (show 1 ≤ M by omega)
      rw [cl_ok (f85_ok (by omega) (hl.2 x (List.mem_of_getElem? hx)) (hm.2 _ (List.mem_of_getElem? hy)))] at hb
      simp only [iT_int] at hb
      rw [show m.drop i = m[i] :: m.drop (i + 1) from List.drop_eq_getElem_cons him]
      simp only [cmpL]
      by_cases hc : x = m[i]
      · rw [cmpI_zero.2 hc, show ((0 : Int) != 0) = false from rfl, wrap_succ (show i ≤ big by omega)] at hb
        rw [if_pos hc, iterR_step hb]
        exact ih (i + 1) n hd' (by omega) (by omega)
      · rw [bne_iff_ne.2 (fun h => hc (cmpI_zero.1 h))] at hb
        rw [if_neg hc, iterR_ret hb]
        exact t86_2_ret (m' + 1) (cmpI x m[i])
  have := main l 0 M rfl (Nat.zero_le _) (by omega)
  rw [List.drop_zero] at this
  rw [show ((ints l).length : Int) = (l.length : Int) by rw [ints_map, List.length_map]]
  exact this
theorem wf_two {a b : Rt} (ha : a.ok) (hb : b.ok) : T.wfs [twT a b] = true := by
  have h1 := ha.wf; have h2 := hb.wf
  simp only [Rt.t, T.wf, T.wfs, Bool.and_true, Bool.and_eq_true] at h1 h2
  simp [twT, T.wf, T.wfs, h1, h2]
def sRc (a b : Rt) (i : Nat) : St := ⟨slots 38 [(26, .own 0), (27, .t (i64 7)), (28, .t (i64 i))], [.row 92 1 (rowC a b)]⟩
set_option maxHeartbeats 4000000 in
theorem f30_ok {M : Nat} {a b : Rt} (hM : big + 4 ≤ M) (ha : a.ok) (hb : b.ok) : callP env (M + 1) 30 [a.t, b.t] = .ok (i64 (cmpR a b)) := by
  obtain ⟨m, rfl⟩ := exM (show 1 ≤ M by omega)
  have hw := wf_two ha hb
  have ni : ∀ n : Nat, n ≤ big → ok64 (n : Int) = true := fun n hn => ok64_iff.2 (by have := big_val; omega)
  have la := pa_ints ha.p
  have lb := pa_ints hb.p
  have m1 : callP env (m + 1) 66 [twT a b] = .ok (i64 (cmpI b.n a.n)) := by
    obtain ⟨m, rfl⟩ := exM (show 1 ≤ m by omega)
    rw [q66, W_ok hw, cl_ok (f85_ok (by omega) hb.n ha.n)]
  have m2 : callP env (m + 1) 67 [twT a b] = .ok (i64 (cmpI a.p.s.length b.p.s.length)) := by
    obtain ⟨m, rfl⟩ := exM (show 1 ≤ m by omega)
    rw [q67, W_ok hw, ints_map, ints_map, List.length_map, List.length_map, cl_ok (f85_ok (by omega) (ni _ la.1) (ni _ lb.1))]
  have m3 : callP env (m + 1) 68 [twT a b] = .ok (i64 (cmpI a.p.o b.p.o)) := by
    obtain ⟨m, rfl⟩ := exM (show 1 ≤ m by omega)
    rw [q68, W_ok hw, cl_ok (f85_ok (by omega) ha.p.o hb.p.o)]
  have m4 : callP env (m + 1) 69 [twT a b] = .ok (i64 (cmpL a.p.s b.p.s)) := by
    obtain ⟨m, rfl⟩ := exM (show 1 ≤ m by omega)
    rw [q69, W_ok hw, cl_ok (f86_ok (by omega) la lb)]
  have m5 : callP env (m + 1) 70 [twT a b] = .ok (i64 (cmpI a.p.h b.p.h)) := by
    obtain ⟨m, rfl⟩ := exM (show 1 ≤ m by omega)
    rw [q70, W_ok hw, cl_ok (f85_ok (by omega) ha.p.h hb.p.h)]
  have m6 : callP env (m + 1) 71 [twT a b] = .ok (i64 (cmpI a.p.c b.p.c)) := by
    obtain ⟨m, rfl⟩ := exM (show 1 ≤ m by omega)
    rw [q71, W_ok hw, cl_ok (f85_ok (by omega) ha.p.c hb.p.c)]
  have m7 : callP env (m + 1) 72 [twT a b] = .ok (i64 (cmpI a.f b.f)) := by
    obtain ⟨m, rfl⟩ := exM (show 1 ≤ m by omega)
    rw [q72, W_ok hw, cl_ok (f85_ok (by omega) ha.f hb.f)]
  have rnd : ∀ {f : FuncId} {ts : List T} {v : Int} {S : St}, callP env (m + 1) f ts = .ok (i64 v) →
      (cl (m + 1) f ts fun r => iT .i64 r fun a => bif a != 0 then (.ok (.ret, ⟨slots 38 [(4, .t r)], []⟩) : Res (Ex × St)) else .ok (.norm, S)) = if v = 0 then .ok (.norm, S) else .ok (.ret, ⟨slots 38 [(4, .t (i64 v))], []⟩) := fun {f ts v S} h => by
    rw [cl_ok h]
    simp only [iT_int]
    by_cases hv : v = 0
    · rw [if_pos hv, hv]; rfl
    · rw [if_neg hv, bne_iff_ne.2 hv]; rfl
  rw [q30, W_ok (wfs2 ha.wf hb.wf)]
  refine Eq.trans (show _ = loopL env (m + 1) 30 3 (sRc a b 0) from rfl) ?_
  have it := iter_fnz (B := bodyL env (m + 1) 30 0 3) (R := fun v => ⟨slots 38 [(4, .t (i64 v))], []⟩) (X := ⟨slots 38 [], []⟩) (id := 0) (S := sRc a b)
    [cmpI b.n a.n, cmpI a.p.s.length b.p.s.length, cmpI a.p.o b.p.o, cmpL a.p.s b.p.s, cmpI a.p.h b.p.h, cmpI a.p.c b.p.c, cmpI a.f b.f] 0 (m + 1) (fun j v hj => ?_) (b30_3_8 (m + 1) a b) (show 7 < m + 1 by have := big_val; omega)
  · unfold cmpR
    generalize fnz [cmpI b.n a.n, cmpI a.p.s.length b.p.s.length, cmpI a.p.o b.p.o, cmpL a.p.s b.p.s, cmpI a.p.h b.p.h, cmpI a.p.c b.p.c, cmpI a.f b.f] = v at it ⊢
    by_cases hv : v = 0
    · rw [if_pos hv] at it
      rw [hv]
      exact (loopL_end it).trans (t30_3_exit0 (m + 1))
    · rw [if_neg hv] at it
      exact (loopL_end it).trans (t30_3_ret (m + 1) v)
  · have hj7 : j < 7 := (List.getElem?_eq_some_iff.1 hj).1
    rw [Nat.zero_add]
    have hc : j = 0 ∨ j = 1 ∨ j = 2 ∨ j = 3 ∨ j = 4 ∨ j = 5 ∨ j = 6 := by omega
    clear hj7
    rcases hc with rfl | rfl | rfl | rfl | rfl | rfl | rfl
    all_goals simp only [List.getElem?_cons_zero, List.getElem?_cons_succ, Option.some.injEq] at hj; subst hj
    · exact (b30_3 (m + 1) a b).trans (rnd (S := sRc a b 1) m1)
    · exact (b30_3_2 (m + 1) a b).trans (rnd (S := sRc a b 2) m2)
    · exact (b30_3_3 (m + 1) a b).trans (rnd (S := sRc a b 3) m3)
    · exact (b30_3_4 (m + 1) a b).trans (rnd (S := sRc a b 4) m4)
    · exact (b30_3_5 (m + 1) a b).trans (rnd (S := sRc a b 5) m5)
    · exact (b30_3_6 (m + 1) a b).trans (rnd (S := sRc a b 6) m6)
    · exact (b30_3_7 (m + 1) a b).trans (rnd (S := sRc a b 7) m7)
theorem ownR_ok {h : Int} (hh : ok64 h = true) : (ownR h).ok := ⟨rfl, ⟨rfl, Nat.zero_le _, fun _ h => (by cases h), hh, rfl⟩, rfl⟩
theorem f29_ok {M : Nat} {n : Int} (h : ok64 n = true) : callP env (M + 1) 29 [i64 n] = .ok (ownR n).t := by
  rw [q29, W_ok (wfs1 (wf_int h))]; rfl
theorem f13_ok {M : Nat} {a b : Rt} (hM : big + 5 ≤ M) (ha : a.ok) (hb : b.ok) : callP env (M + 1) 13 [a.t, b.t] = .ok (.bool (cmpR a b == 0)) := by
  obtain ⟨m, rfl⟩ := exM (show 1 ≤ M by omega)
  rw [q13, W_ok (wfs2 ha.wf hb.wf), clI_ok (f30_ok (by omega) ha hb)]
theorem f15_ok {M : Nat} {r : Rt} (hM : big + 6 ≤ M) (h : r.ok) : callP env (M + 1) 15 [r.t] = .ok (.bool (rtsane r)) := by
  obtain ⟨m, rfl⟩ := exM (show 1 ≤ M by omega)
  have ho := f29_ok (M := m) h.p.h
  rw [q15, W_ok (wfs1 h.wf), clB_ok (f18_ok (by omega) h.p)]
  unfold rtsane
  cases asane7 r.p with
  | false => rfl
  | true =>
  have hl : ((ints r.p.s).length : Int) = (r.p.s.length : Int) := by rw [ints_map, List.length_map]
  rw [hl]
  by_cases h1 : r.p.s.length ≤ 32
  case neg => rw [decide_eq_true (show (r.p.s.length : Int) > 32 by omega), decide_eq_false h1]; rfl
  rw [decide_eq_false (show ¬ (r.p.s.length : Int) > 32 by omega), decide_eq_true h1]
  simp only [Bool.not_true, cond_false, Bool.true_and]
  by_cases h2 : r.f = -1
  · rw [beq_iff_eq.2 h2, if_pos h2]
    simp only [cond_true]
    rw [cl_ok ho, cl_ok (f13_ok (by omega) h (ownR_ok h.p.h))]
  · rw [beq_eq_false_iff_ne.2 h2, if_neg h2]
    simp only [cond_false, and_rB]
theorem f48_ok {M : Nat} {a b c : Int} (hM : 1 ≤ M) (ha : ok64 a = true) (hb : ok64 b = true) (hc : ok64 c = true) : callP env (M + 1) 48 [i64 a, i64 b, i64 c] = .ok (.tup [i64 ((roleOut a b c).getD 0), .bool (roleOut a b c).isSome]) := by
  obtain ⟨m, rfl⟩ := exM hM
  have ho := f54_ok (M := m) hc hb
  rw [q48, W_ok (wfs3 (wf_int ha) (wf_int hb) (wf_int hc))]
  unfold roleOut
  by_cases h1 : a = 1
  · rw [beq_iff_eq.2 h1, if_pos h1]; simp only [cond_true]; rw [cl_ok ho]; rfl
  rw [beq_eq_false_iff_ne.2 h1, if_neg h1]; simp only [cond_false]
  by_cases h2 : a = 2
  · rw [beq_iff_eq.2 h2, if_pos h2]; simp only [cond_true]
    by_cases he : c = 0
    · rw [beq_iff_eq.2 he, if_pos he]; simp only [cond_true]; rw [cl_ok ho]; rfl
    · rw [beq_eq_false_iff_ne.2 he, if_neg he, beq_eq_false_iff_ne.2 (show a ≠ 3 by omega)]; rfl
  rw [beq_eq_false_iff_ne.2 h2, if_neg h2]; simp only [cond_false]
  by_cases h3 : a = 3
  · rw [beq_iff_eq.2 h3, if_pos h3]; simp only [cond_true]
    by_cases he : c = 0
    · rw [beq_iff_eq.2 he, if_pos he]; rfl
    · rw [beq_eq_false_iff_ne.2 he, if_neg he]; rfl
  · rw [beq_eq_false_iff_ne.2 h3, if_neg h3]; rfl
theorem f50_ok {M : Nat} {l : List (List Int)} (hM : l.length + 2 ≤ M) (hl : okL (okL okI) l) (hs : l.flatten.length * 8 ≤ big) : callP env (M + 1) 50 [.sl 1 (l.map fun a => .sl 1 (ints a))] = .ok (.sl 1 (ints l.flatten)) := by
  have hb := big_val
  have h1 := hl.1
  have hw : (T.sl 1 (l.map fun a => T.sl 1 (ints a))).wf = true := wf_okL (f := fun a => T.sl 1 (ints a)) (p := okL okI) (fun x hx => wf_ints hx) hl
  rw [q50, W_ok (wfs1 hw)]
  have i1 := iter_fold (B := bodyL env M 50 0 3) (S := fun (n : Nat) i => sCc l n i) (X := fun n => ⟨slots 36 [(0, PV.t (T.sl 1 (List.map (fun a => T.sl 1 (ints a)) l))), (3, PV.t (i64 n))], []⟩) (id := 0)
    (fun n j => n = (l.take j).flatten.length) (fun n (a : List Int) => n + a.length) l (n := M) 0 (by omega) (fun n j a hj hI => by
      have hjl := (List.getElem?_eq_some_iff.1 hj).1
      have hf := flat_take hj
      rw [← hI] at hf
      refine ⟨?_, ?_⟩
      · show bodyL env M 50 0 3 (sCc l n j) = _
        rw [b50_3, decide_eq_true (by omega)]
        simp only [cond_true]
        rw [atT_get (map_get (f := fun a => T.sl 1 (ints a)) hj)]
        have e : sllT (T.sl 1 (ints a)) = fun (K : Int → Res (Ex × St)) => K (a.length : Int) := by funext K; show K ((ints a).length : Int) = _; rw [ints_map, List.length_map]
        rw [e]
        simp only []
        rw [show ((n : Int) + (a.length : Int)) = ((n + a.length : Nat) : Int) by omega, wrap_nat (by omega), decide_eq_false (by omega), wrap_succ (show j ≤ big by omega)]
        rfl
      · rw [take_flat hj, List.length_append, hI]) (fun n hI => by
      show bodyL env M 50 0 3 (sCc l n l.length) = _
      rw [b50_3, decide_eq_false (by omega)]; rfl) rfl
  have e1 := i1.1
  rw [foldl_len, Nat.zero_add] at e1
  rw [show ((List.map (fun a => T.sl 1 (ints a)) l).length : Int) = (l.length : Int) by rw [List.length_map]]
  refine (loopL_end e1).trans ?_
  refine (t50_3_exit0 M l _).trans ?_
  rw [decide_eq_true (show (0 : Int) ≤ (l.flatten.length : Int) by omega), decide_eq_true (show (0 + (l.flatten.length : Int).toNat) * 8 ≤ 140737488355328 by rw [Int.toNat_natCast]; omega)]
  simp only [Bool.and_self, cond_true, Res.bind_ok]
  have i2 := iter_fold (B := bodyL env M 50 0 11) (S := fun (r : List Int) i => sCc2 l r i) (X := fun r => ⟨slots 36 [(6, .own 0)], [.row 3 1 (ints r)]⟩) (id := 2)
    (fun r j => r = (l.take j).flatten) (fun r (a : List Int) => r ++ a) l (n := M) [] (by omega) (fun r j a hj hI => by
      have hjl := (List.getElem?_eq_some_iff.1 hj).1
      have hf := flat_take hj
      rw [← hI] at hf
      refine ⟨?_, ?_⟩
      · show bodyL env M 50 0 11 (sCc2 l r j) = _
        rw [b50_11, decide_eq_true (by omega)]
        simp only [cond_true]
        rw [atT_get (map_get (f := fun a => T.sl 1 (ints a)) hj)]
        have e : ∀ K : List T → Res (Ex × St), slT 1 (T.sl 1 (ints a)) K = K (ints a) := fun K => rfl
        simp only [e]
        rw [wrap_succ (show j ≤ big by omega), decide_eq_true (show ((ints r).length + (ints a).length) * 8 ≤ 140737488355328 by rw [ints_map, ints_map, List.length_map, List.length_map]; omega), chk_true]
        rw [show ints r ++ ints a = ints (r ++ a) by rw [ints_map, ints_map, ints_map, List.map_append]]
        rfl
      · rw [take_flat hj, hI]) (fun r hI => by
      show bodyL env M 50 0 11 (sCc2 l r l.length) = _
      rw [b50_11, decide_eq_false (by omega)]; rfl) rfl
  have e2 := i2.1
  rw [foldl_app, List.nil_append] at e2
  rw [show ((List.map (fun a => T.sl 1 (ints a)) l).length : Int) = (l.length : Int) by rw [List.length_map]]
  refine (loopL_end e2).trans ?_
  exact t50_11_exit2 M l _
end Go.Sim

/- What calls come to: printed by wip/tools/eq2.py: edge.all over edge.Out's closures. -/
namespace Go.Sim
open Go.RowKit Go.Proofs
set_option linter.unusedVariables false
set_option maxRecDepth 100000
variable [Lv]

def outV : List PV := [.fn 44 [] [.ptr 0 0, .ptr 1 0, .ptr 2 0, .ptr 3 0], .fn 45 [] [.ptr 3 0, .ptr 1 0, .ptr 0 0], .fn 46 [] [.ptr 0 0, .ptr 1 0, .ptr 2 0, .ptr 3 0, .ptr 5 0], .fn 47 [] [.ptr 0 0, .ptr 1 0, .ptr 3 0, .ptr 6 0], .fn 49 [] [.ptr 0 0, .ptr 5 0, .ptr 3 0, .ptr 6 0]]
def outH0 (c : Cf) (k : Int) (x : Px) (v : Rt) (r : T) : List AObj := [.box 25 6 (.t c.t), .box 3 1 (.t (i64 k)), .box 27 2 (.t x.t), .box 34 6 (.t v.t), .box 30 4 (.agg [.t (i64 0), .nil 3 1, .t (i64 0), .t (i64 0)]), .box 54 6 (.t r), .box 30 4 (.agg [.t (i64 v.p.o), .nil 3 1, .t (i64 c.d), .t (i64 0)]), .vec 31 outV]
def outH (c : Cf) (k : Int) (x : Px) (v : Rt) (r : T) (o : Int) : List AObj := [.box 25 6 (.t c.t), .box 3 1 (.t (i64 k)), .box 27 2 (.t x.t), .box 34 6 (.t v.t), .box 30 4 (.agg [.t (i64 0), .own 8, .t (i64 0), .t (i64 0)]), .box 54 6 (.t r), .box 30 4 (.agg [.t (i64 v.p.o), .own 9, .t (i64 c.d), .t (i64 o)]), .vec 31 outV, .row 3 1 [], .row 3 1 []]
def outH5 (c : Cf) (k : Int) (x : Px) (v : Rt) (r : T) (o : Int) (s : T) (f : List T) : List AObj := [.box 25 6 (.t c.t), .box 3 1 (.t (i64 k)), .box 27 2 (.t x.t), .box 34 6 (.t v.t), .box 30 4 (.agg [.t (i64 0), .own 8, .t (i64 0), .t (i64 0)]), .box 54 6 (.t r), .box 30 4 (.t (.agg [i64 v.p.o, s, i64 c.d, i64 o])), .vec 31 outV, .row 3 1 [], .row 3 1 [], .frow 28 1 f]
theorem k44 (N : Nat) (c : Cf) (k : Int) (x : Px) (v : Rt) (r : T) (o : Int) {β : Type} (K : PV → List AObj → Res β) : funK env (recOf env N) N 44 [.ptr 0 0, .ptr 1 0, .ptr 2 0, .ptr 3 0] [.box 25 6 (.t c.t), .box 3 1 (.t (i64 k)), .box 27 2 (.t x.t), .box 34 6 (.t v.t), .box 30 4 (.agg [.t (i64 0), .own 8, .t (i64 0), .t (i64 0)]), .box 54 6 (.t r), .box 30 4 (.agg [.t (i64 v.p.o), .own 9, .t (i64 c.d), .t (i64 o)]), .vec 31 outV, .row 3 1 [], .row 3 1 []] K = clB N 14 [c.t] fun b => bif b then clB N 34 [c.t, i64 k] fun b => bif b then clB N 35 [x.t] fun b => bif b then cl N 15 [v.t] fun x_1 => K (PV.t x_1) [AObj.box 25 6 (PV.t c.t), AObj.box 3 1 (PV.t (i64 k)), AObj.box 27 2 (PV.t x.t), AObj.box 34 6 (PV.t v.t), AObj.box 30 4 (PV.agg [PV.t (i64 0), PV.own 8, PV.t (i64 0), PV.t (i64 0)]), AObj.box 54 6 (PV.t r), AObj.box 30 4 (PV.agg [PV.t (i64 v.p.o), PV.own 9, PV.t (i64 c.d), PV.t (i64 o)]), AObj.vec 31 [PV.fn 44 [] [PV.ptr 0 0, PV.ptr 1 0, PV.ptr 2 0, PV.ptr 3 0], PV.fn 45 [] [PV.ptr 3 0, PV.ptr 1 0, PV.ptr 0 0], PV.fn 46 [] [PV.ptr 0 0, PV.ptr 1 0, PV.ptr 2 0, PV.ptr 3 0, PV.ptr 5 0], PV.fn 47 [] [PV.ptr 0 0, PV.ptr 1 0, PV.ptr 3 0, PV.ptr 6 0], PV.fn 49 [] [PV.ptr 0 0, PV.ptr 5 0, PV.ptr 3 0, PV.ptr 6 0]], AObj.row 3 1 [], AObj.row 3 1 []] else K (PV.t (T.bool false)) [AObj.box 25 6 (PV.t c.t), AObj.box 3 1 (PV.t (i64 k)), AObj.box 27 2 (PV.t x.t), AObj.box 34 6 (PV.t v.t), AObj.box 30 4 (PV.agg [PV.t (i64 0), PV.own 8, PV.t (i64 0), PV.t (i64 0)]), AObj.box 54 6 (PV.t r), AObj.box 30 4 (PV.agg [PV.t (i64 v.p.o), PV.own 9, PV.t (i64 c.d), PV.t (i64 o)]), AObj.vec 31 [PV.fn 44 [] [PV.ptr 0 0, PV.ptr 1 0, PV.ptr 2 0, PV.ptr 3 0], PV.fn 45 [] [PV.ptr 3 0, PV.ptr 1 0, PV.ptr 0 0], PV.fn 46 [] [PV.ptr 0 0, PV.ptr 1 0, PV.ptr 2 0, PV.ptr 3 0, PV.ptr 5 0], PV.fn 47 [] [PV.ptr 0 0, PV.ptr 1 0, PV.ptr 3 0, PV.ptr 6 0], PV.fn 49 [] [PV.ptr 0 0, PV.ptr 5 0, PV.ptr 3 0, PV.ptr 6 0]], AObj.row 3 1 [], AObj.row 3 1 []] else K (PV.t (T.bool false)) [AObj.box 25 6 (PV.t c.t), AObj.box 3 1 (PV.t (i64 k)), AObj.box 27 2 (PV.t x.t), AObj.box 34 6 (PV.t v.t), AObj.box 30 4 (PV.agg [PV.t (i64 0), PV.own 8, PV.t (i64 0), PV.t (i64 0)]), AObj.box 54 6 (PV.t r), AObj.box 30 4 (PV.agg [PV.t (i64 v.p.o), PV.own 9, PV.t (i64 c.d), PV.t (i64 o)]), AObj.vec 31 [PV.fn 44 [] [PV.ptr 0 0, PV.ptr 1 0, PV.ptr 2 0, PV.ptr 3 0], PV.fn 45 [] [PV.ptr 3 0, PV.ptr 1 0, PV.ptr 0 0], PV.fn 46 [] [PV.ptr 0 0, PV.ptr 1 0, PV.ptr 2 0, PV.ptr 3 0, PV.ptr 5 0], PV.fn 47 [] [PV.ptr 0 0, PV.ptr 1 0, PV.ptr 3 0, PV.ptr 6 0], PV.fn 49 [] [PV.ptr 0 0, PV.ptr 5 0, PV.ptr 3 0, PV.ptr 6 0]], AObj.row 3 1 [], AObj.row 3 1 []] else K (PV.t (T.bool false)) [AObj.box 25 6 (PV.t c.t), AObj.box 3 1 (PV.t (i64 k)), AObj.box 27 2 (PV.t x.t), AObj.box 34 6 (PV.t v.t), AObj.box 30 4 (PV.agg [PV.t (i64 0), PV.own 8, PV.t (i64 0), PV.t (i64 0)]), AObj.box 54 6 (PV.t r), AObj.box 30 4 (PV.agg [PV.t (i64 v.p.o), PV.own 9, PV.t (i64 c.d), PV.t (i64 o)]), AObj.vec 31 [PV.fn 44 [] [PV.ptr 0 0, PV.ptr 1 0, PV.ptr 2 0, PV.ptr 3 0], PV.fn 45 [] [PV.ptr 3 0, PV.ptr 1 0, PV.ptr 0 0], PV.fn 46 [] [PV.ptr 0 0, PV.ptr 1 0, PV.ptr 2 0, PV.ptr 3 0, PV.ptr 5 0], PV.fn 47 [] [PV.ptr 0 0, PV.ptr 1 0, PV.ptr 3 0, PV.ptr 6 0], PV.fn 49 [] [PV.ptr 0 0, PV.ptr 5 0, PV.ptr 3 0, PV.ptr 6 0]], AObj.row 3 1 [], AObj.row 3 1 []] := by kernel_rfl
theorem k45 (N : Nat) (c : Cf) (k : Int) (x : Px) (v : Rt) (r : T) (o : Int) {β : Type} (K : PV → List AObj → Res β) : funK env (recOf env N) N 45 [.ptr 3 0, .ptr 1 0, .ptr 0 0] [.box 25 6 (.t c.t), .box 3 1 (.t (i64 k)), .box 27 2 (.t x.t), .box 34 6 (.t v.t), .box 30 4 (.agg [.t (i64 0), .own 8, .t (i64 0), .t (i64 0)]), .box 54 6 (.t r), .box 30 4 (.agg [.t (i64 v.p.o), .own 9, .t (i64 c.d), .t (i64 o)]), .vec 31 outV, .row 3 1 [], .row 3 1 []] K = bif v.f != k then K (PV.t (T.bool (decide (v.f < (↑(List.map Sd.t c.s).length : Int))))) [AObj.box 25 6 (PV.t c.t), AObj.box 3 1 (PV.t (i64 k)), AObj.box 27 2 (PV.t x.t), AObj.box 34 6 (PV.t v.t), AObj.box 30 4 (PV.agg [PV.t (i64 0), PV.own 8, PV.t (i64 0), PV.t (i64 0)]), AObj.box 54 6 (PV.t r), AObj.box 30 4 (PV.agg [PV.t (i64 v.p.o), PV.own 9, PV.t (i64 c.d), PV.t (i64 o)]), AObj.vec 31 [PV.fn 44 [] [PV.ptr 0 0, PV.ptr 1 0, PV.ptr 2 0, PV.ptr 3 0], PV.fn 45 [] [PV.ptr 3 0, PV.ptr 1 0, PV.ptr 0 0], PV.fn 46 [] [PV.ptr 0 0, PV.ptr 1 0, PV.ptr 2 0, PV.ptr 3 0, PV.ptr 5 0], PV.fn 47 [] [PV.ptr 0 0, PV.ptr 1 0, PV.ptr 3 0, PV.ptr 6 0], PV.fn 49 [] [PV.ptr 0 0, PV.ptr 5 0, PV.ptr 3 0, PV.ptr 6 0]], AObj.row 3 1 [], AObj.row 3 1 []] else K (PV.t (T.bool false)) [AObj.box 25 6 (PV.t c.t), AObj.box 3 1 (PV.t (i64 k)), AObj.box 27 2 (PV.t x.t), AObj.box 34 6 (PV.t v.t), AObj.box 30 4 (PV.agg [PV.t (i64 0), PV.own 8, PV.t (i64 0), PV.t (i64 0)]), AObj.box 54 6 (PV.t r), AObj.box 30 4 (PV.agg [PV.t (i64 v.p.o), PV.own 9, PV.t (i64 c.d), PV.t (i64 o)]), AObj.vec 31 [PV.fn 44 [] [PV.ptr 0 0, PV.ptr 1 0, PV.ptr 2 0, PV.ptr 3 0], PV.fn 45 [] [PV.ptr 3 0, PV.ptr 1 0, PV.ptr 0 0], PV.fn 46 [] [PV.ptr 0 0, PV.ptr 1 0, PV.ptr 2 0, PV.ptr 3 0, PV.ptr 5 0], PV.fn 47 [] [PV.ptr 0 0, PV.ptr 1 0, PV.ptr 3 0, PV.ptr 6 0], PV.fn 49 [] [PV.ptr 0 0, PV.ptr 5 0, PV.ptr 3 0, PV.ptr 6 0]], AObj.row 3 1 [], AObj.row 3 1 []] := by kernel_rfl
theorem k46 (N : Nat) (c : Cf) (k : Int) (x : Px) (v : Rt) (r : T) (o : Int) {β : Type} (K : PV → List AObj → Res β) : funK env (recOf env N) N 46 [.ptr 0 0, .ptr 1 0, .ptr 2 0, .ptr 3 0, .ptr 5 0] [.box 25 6 (.t c.t), .box 3 1 (.t (i64 k)), .box 27 2 (.t x.t), .box 34 6 (.t v.t), .box 30 4 (.agg [.t (i64 0), .own 8, .t (i64 0), .t (i64 0)]), .box 54 6 (.t r), .box 30 4 (.agg [.t (i64 v.p.o), .own 9, .t (i64 c.d), .t (i64 o)]), .vec 31 outV, .row 3 1 [], .row 3 1 []] K = atT (List.map Sd.t c.s) k fun e => cl N 19 [c.t, i64 v.f] fun x_1 => chk (x_1.cells.length == 1 && !x_1.isTup) (cl N 21 [e.partD 3 1 false, T.agg [i64 x.a, i64 x.n, T.sl 1 (ints v.p.s), x_1.cell 0]] fun x_2 => compT x_2 0 fun y => compT x_2 1 fun y_1 => chk (y.cells.length == 6 && !y.isTup) (bT y_1 fun b => bif b then iT IntKind.i64 (y.partD 4 1 false) fun a => K (PV.t (T.bool (a != 0))) [AObj.box 25 6 (PV.t c.t), AObj.box 3 1 (PV.t (i64 k)), AObj.box 27 2 (PV.t x.t), AObj.box 34 6 (PV.t v.t), AObj.box 30 4 (PV.agg [PV.t (i64 0), PV.own 8, PV.t (i64 0), PV.t (i64 0)]), AObj.box 54 6 (PV.t y), AObj.box 30 4 (PV.agg [PV.t (i64 v.p.o), PV.own 9, PV.t (i64 c.d), PV.t (i64 o)]), AObj.vec 31 [PV.fn 44 [] [PV.ptr 0 0, PV.ptr 1 0, PV.ptr 2 0, PV.ptr 3 0], PV.fn 45 [] [PV.ptr 3 0, PV.ptr 1 0, PV.ptr 0 0], PV.fn 46 [] [PV.ptr 0 0, PV.ptr 1 0, PV.ptr 2 0, PV.ptr 3 0, PV.ptr 5 0], PV.fn 47 [] [PV.ptr 0 0, PV.ptr 1 0, PV.ptr 3 0, PV.ptr 6 0], PV.fn 49 [] [PV.ptr 0 0, PV.ptr 5 0, PV.ptr 3 0, PV.ptr 6 0]], AObj.row 3 1 [], AObj.row 3 1 []] else K (PV.t (T.bool false)) [AObj.box 25 6 (PV.t c.t), AObj.box 3 1 (PV.t (i64 k)), AObj.box 27 2 (PV.t x.t), AObj.box 34 6 (PV.t v.t), AObj.box 30 4 (PV.agg [PV.t (i64 0), PV.own 8, PV.t (i64 0), PV.t (i64 0)]), AObj.box 54 6 (PV.t y), AObj.box 30 4 (PV.agg [PV.t (i64 v.p.o), PV.own 9, PV.t (i64 c.d), PV.t (i64 o)]), AObj.vec 31 [PV.fn 44 [] [PV.ptr 0 0, PV.ptr 1 0, PV.ptr 2 0, PV.ptr 3 0], PV.fn 45 [] [PV.ptr 3 0, PV.ptr 1 0, PV.ptr 0 0], PV.fn 46 [] [PV.ptr 0 0, PV.ptr 1 0, PV.ptr 2 0, PV.ptr 3 0, PV.ptr 5 0], PV.fn 47 [] [PV.ptr 0 0, PV.ptr 1 0, PV.ptr 3 0, PV.ptr 6 0], PV.fn 49 [] [PV.ptr 0 0, PV.ptr 5 0, PV.ptr 3 0, PV.ptr 6 0]], AObj.row 3 1 [], AObj.row 3 1 []])) := by kernel_rfl
theorem k47 (N : Nat) (c : Cf) (k : Int) (x : Px) (v : Rt) (r : T) (o : Int) {β : Type} (K : PV → List AObj → Res β) : funK env (recOf env N) N 47 [.ptr 0 0, .ptr 1 0, .ptr 3 0, .ptr 6 0] [.box 25 6 (.t c.t), .box 3 1 (.t (i64 k)), .box 27 2 (.t x.t), .box 34 6 (.t v.t), .box 30 4 (.agg [.t (i64 0), .own 8, .t (i64 0), .t (i64 0)]), .box 54 6 (.t r), .box 30 4 (.agg [.t (i64 v.p.o), .own 9, .t (i64 c.d), .t (i64 o)]), .vec 31 outV, .row 3 1 [], .row 3 1 []] K = atT (List.map Sd.t c.s) k fun e => cl N 48 [e.partD 1 1 false, i64 c.a, i64 v.p.c] fun x_1 => compT x_1 0 fun y => compT x_1 1 fun y_1 => chk (y.cells.length == 1 && !y.isTup) (K (PV.t y_1) [AObj.box 25 6 (PV.t c.t), AObj.box 3 1 (PV.t (i64 k)), AObj.box 27 2 (PV.t x.t), AObj.box 34 6 (PV.t v.t), AObj.box 30 4 (PV.agg [PV.t (i64 0), PV.own 8, PV.t (i64 0), PV.t (i64 0)]), AObj.box 54 6 (PV.t r), AObj.box 30 4 (PV.agg [PV.t (i64 v.p.o), PV.own 9, PV.t (i64 c.d), PV.t (y.cell 0)]), AObj.vec 31 [PV.fn 44 [] [PV.ptr 0 0, PV.ptr 1 0, PV.ptr 2 0, PV.ptr 3 0], PV.fn 45 [] [PV.ptr 3 0, PV.ptr 1 0, PV.ptr 0 0], PV.fn 46 [] [PV.ptr 0 0, PV.ptr 1 0, PV.ptr 2 0, PV.ptr 3 0, PV.ptr 5 0], PV.fn 47 [] [PV.ptr 0 0, PV.ptr 1 0, PV.ptr 3 0, PV.ptr 6 0], PV.fn 49 [] [PV.ptr 0 0, PV.ptr 5 0, PV.ptr 3 0, PV.ptr 6 0]], AObj.row 3 1 [], AObj.row 3 1 []]) := by kernel_rfl
theorem k49 (N : Nat) (c : Cf) (k : Int) (x : Px) (v : Rt) (r : T) (o : Int) {β : Type} (K : PV → List AObj → Res β) : funK env (recOf env N) N 49 [.ptr 0 0, .ptr 5 0, .ptr 3 0, .ptr 6 0] [.box 25 6 (.t c.t), .box 3 1 (.t (i64 k)), .box 27 2 (.t x.t), .box 34 6 (.t v.t), .box 30 4 (.agg [.t (i64 0), .own 8, .t (i64 0), .t (i64 0)]), .box 54 6 (.t r), .box 30 4 (.agg [.t (i64 v.p.o), .own 9, .t (i64 c.d), .t (i64 o)]), .vec 31 outV, .row 3 1 [], .row 3 1 []] K = chkAll (T.okE 1) [i64 c.a] (iT IntKind.i64 (r.partD 5 1 false) fun b => cl N 51 [T.sl 1 [i64 c.a], i64 (IntKind.i64.wrap (1 + b))] fun x_1 => chkAll (T.okE 1) [x_1, T.sl 1 (ints v.p.s)] (cl N 50 [T.sl 1 [x_1, T.sl 1 (ints v.p.s)]] fun x_2 => chk (x_2.cells.length == 1 && !x_2.isTup) (sllT ((T.agg [i64 v.p.o, x_2.cell 0, i64 c.d, i64 o]).cell 1) fun n => K (PV.t (T.bool (decide (n ≤ 32)))) [AObj.box 25 6 (PV.t c.t), AObj.box 3 1 (PV.t (i64 k)), AObj.box 27 2 (PV.t x.t), AObj.box 34 6 (PV.t v.t), AObj.box 30 4 (PV.agg [PV.t (i64 0), PV.own 8, PV.t (i64 0), PV.t (i64 0)]), AObj.box 54 6 (PV.t r), AObj.box 30 4 (PV.t (T.agg [i64 v.p.o, x_2.cell 0, i64 c.d, i64 o])), AObj.vec 31 [PV.fn 44 [] [PV.ptr 0 0, PV.ptr 1 0, PV.ptr 2 0, PV.ptr 3 0], PV.fn 45 [] [PV.ptr 3 0, PV.ptr 1 0, PV.ptr 0 0], PV.fn 46 [] [PV.ptr 0 0, PV.ptr 1 0, PV.ptr 2 0, PV.ptr 3 0, PV.ptr 5 0], PV.fn 47 [] [PV.ptr 0 0, PV.ptr 1 0, PV.ptr 3 0, PV.ptr 6 0], PV.fn 49 [] [PV.ptr 0 0, PV.ptr 5 0, PV.ptr 3 0, PV.ptr 6 0]], AObj.row 3 1 [], AObj.row 3 1 [], AObj.frow 28 1 [x_1, T.sl 1 (ints v.p.s)]]))) := by kernel_rfl
def pnO1 (c : Cf) (k : Int) (x : Px) (v : Rt) (b : Bool) : Pin := ⟨44, [.ptr 0 0, .ptr 1 0, .ptr 2 0, .ptr 3 0], outH c k x v (T.agg [i64 0, i64 0, i64 0, i64 0, i64 0, i64 0]) 0, .t (.bool b), outH c k x v (T.agg [i64 0, i64 0, i64 0, i64 0, i64 0, i64 0]) 0⟩
def pnO2 (c : Cf) (k : Int) (x : Px) (v : Rt) (b : Bool) : Pin := ⟨45, [.ptr 3 0, .ptr 1 0, .ptr 0 0], outH c k x v (T.agg [i64 0, i64 0, i64 0, i64 0, i64 0, i64 0]) 0, .t (.bool b), outH c k x v (T.agg [i64 0, i64 0, i64 0, i64 0, i64 0, i64 0]) 0⟩
def pnO3 (c : Cf) (k : Int) (x : Px) (v : Rt) (b : Bool) (r : T) : Pin := ⟨46, [.ptr 0 0, .ptr 1 0, .ptr 2 0, .ptr 3 0, .ptr 5 0], outH c k x v (T.agg [i64 0, i64 0, i64 0, i64 0, i64 0, i64 0]) 0, .t (.bool b), outH c k x v r 0⟩
def pnO4 (c : Cf) (k : Int) (x : Px) (v : Rt) (b : Bool) (r : T) (o : Int) : Pin := ⟨47, [.ptr 0 0, .ptr 1 0, .ptr 3 0, .ptr 6 0], outH c k x v r 0, .t (.bool b), outH c k x v r o⟩
def pnO5 (c : Cf) (k : Int) (x : Px) (v : Rt) (b : Bool) (r : T) (o : Int) (s : T) (f : List T) : Pin := ⟨49, [.ptr 0 0, .ptr 5 0, .ptr 3 0, .ptr 6 0], outH c k x v r o, .t (.bool b), outH5 c k x v r o s f⟩
def pnOA (c : Cf) (k : Int) (x : Px) (v : Rt) (b : Bool) (r : T) (o : Int) : Pin := ⟨32, [.own 7], outH0 c k x v (T.agg [i64 0, i64 0, i64 0, i64 0, i64 0, i64 0]), .t (.bool b), outH c k x v r o⟩
def pnOB (c : Cf) (k : Int) (x : Px) (v : Rt) (b : Bool) (r : T) (o : Int) (s : T) (f : List T) : Pin := ⟨32, [.own 7], outH0 c k x v (T.agg [i64 0, i64 0, i64 0, i64 0, i64 0, i64 0]), .t (.bool b), outH5 c k x v r o s f⟩
def sOl0 (c : Cf) (k : Int) (x : Px) (v : Rt) (r : T) (o : Int) : St := ⟨slots 15 [(5, .own 7), (6, .t (i64 5)), (7, .t (i64 0))], [.box 25 6 (.t c.t), .box 3 1 (.t (i64 k)), .box 27 2 (.t x.t), .box 34 6 (.t v.t), .box 30 4 (.agg [.t (i64 0), .own 8, .t (i64 0), .t (i64 0)]), .box 54 6 (.t r), .box 30 4 (.agg [.t (i64 v.p.o), .own 9, .t (i64 c.d), .t (i64 o)]), .vec 31 outV, .row 3 1 [], .row 3 1 []]⟩
def sOl1 (c : Cf) (k : Int) (x : Px) (v : Rt) (r : T) (o : Int) : St := ⟨slots 15 [(5, .own 7), (6, .t (i64 5)), (7, .t (i64 1))], [.box 25 6 (.t c.t), .box 3 1 (.t (i64 k)), .box 27 2 (.t x.t), .box 34 6 (.t v.t), .box 30 4 (.agg [.t (i64 0), .own 8, .t (i64 0), .t (i64 0)]), .box 54 6 (.t r), .box 30 4 (.agg [.t (i64 v.p.o), .own 9, .t (i64 c.d), .t (i64 o)]), .vec 31 outV, .row 3 1 [], .row 3 1 []]⟩
def sOl2 (c : Cf) (k : Int) (x : Px) (v : Rt) (r : T) (o : Int) : St := ⟨slots 15 [(5, .own 7), (6, .t (i64 5)), (7, .t (i64 2))], [.box 25 6 (.t c.t), .box 3 1 (.t (i64 k)), .box 27 2 (.t x.t), .box 34 6 (.t v.t), .box 30 4 (.agg [.t (i64 0), .own 8, .t (i64 0), .t (i64 0)]), .box 54 6 (.t r), .box 30 4 (.agg [.t (i64 v.p.o), .own 9, .t (i64 c.d), .t (i64 o)]), .vec 31 outV, .row 3 1 [], .row 3 1 []]⟩
def sOl3 (c : Cf) (k : Int) (x : Px) (v : Rt) (r : T) (o : Int) : St := ⟨slots 15 [(5, .own 7), (6, .t (i64 5)), (7, .t (i64 3))], [.box 25 6 (.t c.t), .box 3 1 (.t (i64 k)), .box 27 2 (.t x.t), .box 34 6 (.t v.t), .box 30 4 (.agg [.t (i64 0), .own 8, .t (i64 0), .t (i64 0)]), .box 54 6 (.t r), .box 30 4 (.agg [.t (i64 v.p.o), .own 9, .t (i64 c.d), .t (i64 o)]), .vec 31 outV, .row 3 1 [], .row 3 1 []]⟩
def sOl4 (c : Cf) (k : Int) (x : Px) (v : Rt) (r : T) (o : Int) : St := ⟨slots 15 [(5, .own 7), (6, .t (i64 5)), (7, .t (i64 4))], [.box 25 6 (.t c.t), .box 3 1 (.t (i64 k)), .box 27 2 (.t x.t), .box 34 6 (.t v.t), .box 30 4 (.agg [.t (i64 0), .own 8, .t (i64 0), .t (i64 0)]), .box 54 6 (.t r), .box 30 4 (.agg [.t (i64 v.p.o), .own 9, .t (i64 c.d), .t (i64 o)]), .vec 31 outV, .row 3 1 [], .row 3 1 []]⟩
def sOl5 (c : Cf) (k : Int) (x : Px) (v : Rt) (r : T) (o : Int) (s : T) (f : List T) : St := ⟨slots 15 [(5, .own 7), (6, .t (i64 5)), (7, .t (i64 5))], [.box 25 6 (.t c.t), .box 3 1 (.t (i64 k)), .box 27 2 (.t x.t), .box 34 6 (.t v.t), .box 30 4 (.agg [.t (i64 0), .own 8, .t (i64 0), .t (i64 0)]), .box 54 6 (.t r), .box 30 4 (.t (.agg [i64 v.p.o, s, i64 c.d, i64 o])), .vec 31 outV, .row 3 1 [], .row 3 1 [], .frow 28 1 f]⟩
theorem opk32 (N : Nat) (c : Cf) (k : Int) (x : Px) (v : Rt) (b : Bool) {β : Type} (K : PV → List AObj → Res β) : funK env (recP env N [pnO1 c k x v b]) N 32 [.own 7] [.box 25 6 (.t c.t), .box 3 1 (.t (i64 k)), .box 27 2 (.t x.t), .box 34 6 (.t v.t), .box 30 4 (.agg [.t (i64 0), .nil 3 1, .t (i64 0), .t (i64 0)]), .box 54 6 (.t (T.agg [i64 0, i64 0, i64 0, i64 0, i64 0, i64 0])), .box 30 4 (.agg [.t (i64 v.p.o), .nil 3 1, .t (i64 c.d), .t (i64 0)]), .vec 31 outV] K = loopR env (recP env N [pnO1 c k x v b]) N 32 8 2 K { tmps := slots 15 [(5, PV.own 7), (6, PV.t (i64 5)), (7, PV.t (i64 0))], heap := [AObj.box 25 6 (PV.t c.t), AObj.box 3 1 (PV.t (i64 k)), AObj.box 27 2 (PV.t x.t), AObj.box 34 6 (PV.t v.t), AObj.box 30 4 (PV.agg [PV.t (i64 0), PV.own 8, PV.t (i64 0), PV.t (i64 0)]), AObj.box 54 6 (PV.t (T.agg [i64 0, i64 0, i64 0, i64 0, i64 0, i64 0])), AObj.box 30 4 (PV.agg [PV.t (i64 v.p.o), PV.own 9, PV.t (i64 c.d), PV.t (i64 0)]), AObj.vec 31 [PV.fn 44 [] [PV.ptr 0 0, PV.ptr 1 0, PV.ptr 2 0, PV.ptr 3 0], PV.fn 45 [] [PV.ptr 3 0, PV.ptr 1 0, PV.ptr 0 0], PV.fn 46 [] [PV.ptr 0 0, PV.ptr 1 0, PV.ptr 2 0, PV.ptr 3 0, PV.ptr 5 0], PV.fn 47 [] [PV.ptr 0 0, PV.ptr 1 0, PV.ptr 3 0, PV.ptr 6 0], PV.fn 49 [] [PV.ptr 0 0, PV.ptr 5 0, PV.ptr 3 0, PV.ptr 6 0]], AObj.row 3 1 [], AObj.row 3 1 []] } := by kernel_rfl
theorem opkb32_2 (N : Nat) (c : Cf) (k : Int) (x : Px) (v : Rt) (b : Bool) : bodyR env (recP env N [pnO1 c k x v b]) N 32 8 2 (sOl0 c k x v (T.agg [i64 0, i64 0, i64 0, i64 0, i64 0, i64 0]) 0) = chkP ([PV.ptr 0 0, PV.ptr 1 0, PV.ptr 2 0, PV.ptr 3 0] = [PV.ptr 0 0, PV.ptr 1 0, PV.ptr 2 0, PV.ptr 3 0] ∧ [AObj.box 25 6 (PV.t c.t), AObj.box 3 1 (PV.t (i64 k)), AObj.box 27 2 (PV.t x.t), AObj.box 34 6 (PV.t v.t), AObj.box 30 4 (PV.agg [PV.t (i64 0), PV.own 8, PV.t (i64 0), PV.t (i64 0)]), AObj.box 54 6 (PV.t (T.agg [i64 0, i64 0, i64 0, i64 0, i64 0, i64 0])), AObj.box 30 4 (PV.agg [PV.t (i64 v.p.o), PV.own 9, PV.t (i64 c.d), PV.t (i64 0)]), AObj.vec 31 [PV.fn 44 [] [PV.ptr 0 0, PV.ptr 1 0, PV.ptr 2 0, PV.ptr 3 0], PV.fn 45 [] [PV.ptr 3 0, PV.ptr 1 0, PV.ptr 0 0], PV.fn 46 [] [PV.ptr 0 0, PV.ptr 1 0, PV.ptr 2 0, PV.ptr 3 0, PV.ptr 5 0], PV.fn 47 [] [PV.ptr 0 0, PV.ptr 1 0, PV.ptr 3 0, PV.ptr 6 0], PV.fn 49 [] [PV.ptr 0 0, PV.ptr 5 0, PV.ptr 3 0, PV.ptr 6 0]], AObj.row 3 1 [], AObj.row 3 1 []] = [AObj.box 25 6 (PV.t c.t), AObj.box 3 1 (PV.t (i64 k)), AObj.box 27 2 (PV.t x.t), AObj.box 34 6 (PV.t v.t), AObj.box 30 4 (PV.agg [PV.t (i64 0), PV.own 8, PV.t (i64 0), PV.t (i64 0)]), AObj.box 54 6 (PV.t (T.agg [i64 0, i64 0, i64 0, i64 0, i64 0, i64 0])), AObj.box 30 4 (PV.agg [PV.t (i64 v.p.o), PV.own 9, PV.t (i64 c.d), PV.t (i64 0)]), AObj.vec 31 [PV.fn 44 [] [PV.ptr 0 0, PV.ptr 1 0, PV.ptr 2 0, PV.ptr 3 0], PV.fn 45 [] [PV.ptr 3 0, PV.ptr 1 0, PV.ptr 0 0], PV.fn 46 [] [PV.ptr 0 0, PV.ptr 1 0, PV.ptr 2 0, PV.ptr 3 0, PV.ptr 5 0], PV.fn 47 [] [PV.ptr 0 0, PV.ptr 1 0, PV.ptr 3 0, PV.ptr 6 0], PV.fn 49 [] [PV.ptr 0 0, PV.ptr 5 0, PV.ptr 3 0, PV.ptr 6 0]], AObj.row 3 1 [], AObj.row 3 1 []]) (bif !b then Res.ok (Ex.ret, { tmps := slots 15 [(2, PV.t (T.bool false))], heap := [AObj.box 25 6 (PV.t c.t), AObj.box 3 1 (PV.t (i64 k)), AObj.box 27 2 (PV.t x.t), AObj.box 34 6 (PV.t v.t), AObj.box 30 4 (PV.agg [PV.t (i64 0), PV.own 8, PV.t (i64 0), PV.t (i64 0)]), AObj.box 54 6 (PV.t (T.agg [i64 0, i64 0, i64 0, i64 0, i64 0, i64 0])), AObj.box 30 4 (PV.agg [PV.t (i64 v.p.o), PV.own 9, PV.t (i64 c.d), PV.t (i64 0)]), AObj.vec 31 [PV.fn 44 [] [PV.ptr 0 0, PV.ptr 1 0, PV.ptr 2 0, PV.ptr 3 0], PV.fn 45 [] [PV.ptr 3 0, PV.ptr 1 0, PV.ptr 0 0], PV.fn 46 [] [PV.ptr 0 0, PV.ptr 1 0, PV.ptr 2 0, PV.ptr 3 0, PV.ptr 5 0], PV.fn 47 [] [PV.ptr 0 0, PV.ptr 1 0, PV.ptr 3 0, PV.ptr 6 0], PV.fn 49 [] [PV.ptr 0 0, PV.ptr 5 0, PV.ptr 3 0, PV.ptr 6 0]], AObj.row 3 1 [], AObj.row 3 1 []] }) else Res.ok (Ex.norm, { tmps := slots 15 [(5, PV.own 7), (6, PV.t (i64 5)), (7, PV.t (i64 1))], heap := [AObj.box 25 6 (PV.t c.t), AObj.box 3 1 (PV.t (i64 k)), AObj.box 27 2 (PV.t x.t), AObj.box 34 6 (PV.t v.t), AObj.box 30 4 (PV.agg [PV.t (i64 0), PV.own 8, PV.t (i64 0), PV.t (i64 0)]), AObj.box 54 6 (PV.t (T.agg [i64 0, i64 0, i64 0, i64 0, i64 0, i64 0])), AObj.box 30 4 (PV.agg [PV.t (i64 v.p.o), PV.own 9, PV.t (i64 c.d), PV.t (i64 0)]), AObj.vec 31 [PV.fn 44 [] [PV.ptr 0 0, PV.ptr 1 0, PV.ptr 2 0, PV.ptr 3 0], PV.fn 45 [] [PV.ptr 3 0, PV.ptr 1 0, PV.ptr 0 0], PV.fn 46 [] [PV.ptr 0 0, PV.ptr 1 0, PV.ptr 2 0, PV.ptr 3 0, PV.ptr 5 0], PV.fn 47 [] [PV.ptr 0 0, PV.ptr 1 0, PV.ptr 3 0, PV.ptr 6 0], PV.fn 49 [] [PV.ptr 0 0, PV.ptr 5 0, PV.ptr 3 0, PV.ptr 6 0]], AObj.row 3 1 [], AObj.row 3 1 []] })) := by kernel_rfl
theorem opkt32_2_ret (N : Nat) (c : Cf) (k : Int) (x : Px) (v : Rt) (b : Bool) (H : List AObj) {β : Type} (K : PV → List AObj → Res β) : tailR env (recP env N [pnO1 c k x v b]) N 32 8 2 K (.ret) (⟨slots 15 [(2, .t (.bool false))], H⟩) = K (PV.t (T.bool false)) H := by kernel_rfl
theorem opk32_2 (N : Nat) (c : Cf) (k : Int) (x : Px) (v : Rt) (b : Bool) {β : Type} (K : PV → List AObj → Res β) : funK env (recP env N [pnO1 c k x v true, pnO2 c k x v b]) N 32 [.own 7] [.box 25 6 (.t c.t), .box 3 1 (.t (i64 k)), .box 27 2 (.t x.t), .box 34 6 (.t v.t), .box 30 4 (.agg [.t (i64 0), .nil 3 1, .t (i64 0), .t (i64 0)]), .box 54 6 (.t (T.agg [i64 0, i64 0, i64 0, i64 0, i64 0, i64 0])), .box 30 4 (.agg [.t (i64 v.p.o), .nil 3 1, .t (i64 c.d), .t (i64 0)]), .vec 31 outV] K = loopR env (recP env N [pnO1 c k x v true, pnO2 c k x v b]) N 32 8 2 K { tmps := slots 15 [(5, PV.own 7), (6, PV.t (i64 5)), (7, PV.t (i64 0))], heap := [AObj.box 25 6 (PV.t c.t), AObj.box 3 1 (PV.t (i64 k)), AObj.box 27 2 (PV.t x.t), AObj.box 34 6 (PV.t v.t), AObj.box 30 4 (PV.agg [PV.t (i64 0), PV.own 8, PV.t (i64 0), PV.t (i64 0)]), AObj.box 54 6 (PV.t (T.agg [i64 0, i64 0, i64 0, i64 0, i64 0, i64 0])), AObj.box 30 4 (PV.agg [PV.t (i64 v.p.o), PV.own 9, PV.t (i64 c.d), PV.t (i64 0)]), AObj.vec 31 [PV.fn 44 [] [PV.ptr 0 0, PV.ptr 1 0, PV.ptr 2 0, PV.ptr 3 0], PV.fn 45 [] [PV.ptr 3 0, PV.ptr 1 0, PV.ptr 0 0], PV.fn 46 [] [PV.ptr 0 0, PV.ptr 1 0, PV.ptr 2 0, PV.ptr 3 0, PV.ptr 5 0], PV.fn 47 [] [PV.ptr 0 0, PV.ptr 1 0, PV.ptr 3 0, PV.ptr 6 0], PV.fn 49 [] [PV.ptr 0 0, PV.ptr 5 0, PV.ptr 3 0, PV.ptr 6 0]], AObj.row 3 1 [], AObj.row 3 1 []] } := by kernel_rfl
theorem opkb32_2_2 (N : Nat) (c : Cf) (k : Int) (x : Px) (v : Rt) (b : Bool) : bodyR env (recP env N [pnO1 c k x v true, pnO2 c k x v b]) N 32 8 2 (sOl0 c k x v (T.agg [i64 0, i64 0, i64 0, i64 0, i64 0, i64 0]) 0) = chkP ([PV.ptr 0 0, PV.ptr 1 0, PV.ptr 2 0, PV.ptr 3 0] = [PV.ptr 0 0, PV.ptr 1 0, PV.ptr 2 0, PV.ptr 3 0] ∧ [AObj.box 25 6 (PV.t c.t), AObj.box 3 1 (PV.t (i64 k)), AObj.box 27 2 (PV.t x.t), AObj.box 34 6 (PV.t v.t), AObj.box 30 4 (PV.agg [PV.t (i64 0), PV.own 8, PV.t (i64 0), PV.t (i64 0)]), AObj.box 54 6 (PV.t (T.agg [i64 0, i64 0, i64 0, i64 0, i64 0, i64 0])), AObj.box 30 4 (PV.agg [PV.t (i64 v.p.o), PV.own 9, PV.t (i64 c.d), PV.t (i64 0)]), AObj.vec 31 [PV.fn 44 [] [PV.ptr 0 0, PV.ptr 1 0, PV.ptr 2 0, PV.ptr 3 0], PV.fn 45 [] [PV.ptr 3 0, PV.ptr 1 0, PV.ptr 0 0], PV.fn 46 [] [PV.ptr 0 0, PV.ptr 1 0, PV.ptr 2 0, PV.ptr 3 0, PV.ptr 5 0], PV.fn 47 [] [PV.ptr 0 0, PV.ptr 1 0, PV.ptr 3 0, PV.ptr 6 0], PV.fn 49 [] [PV.ptr 0 0, PV.ptr 5 0, PV.ptr 3 0, PV.ptr 6 0]], AObj.row 3 1 [], AObj.row 3 1 []] = [AObj.box 25 6 (PV.t c.t), AObj.box 3 1 (PV.t (i64 k)), AObj.box 27 2 (PV.t x.t), AObj.box 34 6 (PV.t v.t), AObj.box 30 4 (PV.agg [PV.t (i64 0), PV.own 8, PV.t (i64 0), PV.t (i64 0)]), AObj.box 54 6 (PV.t (T.agg [i64 0, i64 0, i64 0, i64 0, i64 0, i64 0])), AObj.box 30 4 (PV.agg [PV.t (i64 v.p.o), PV.own 9, PV.t (i64 c.d), PV.t (i64 0)]), AObj.vec 31 [PV.fn 44 [] [PV.ptr 0 0, PV.ptr 1 0, PV.ptr 2 0, PV.ptr 3 0], PV.fn 45 [] [PV.ptr 3 0, PV.ptr 1 0, PV.ptr 0 0], PV.fn 46 [] [PV.ptr 0 0, PV.ptr 1 0, PV.ptr 2 0, PV.ptr 3 0, PV.ptr 5 0], PV.fn 47 [] [PV.ptr 0 0, PV.ptr 1 0, PV.ptr 3 0, PV.ptr 6 0], PV.fn 49 [] [PV.ptr 0 0, PV.ptr 5 0, PV.ptr 3 0, PV.ptr 6 0]], AObj.row 3 1 [], AObj.row 3 1 []]) (Res.ok (Ex.norm, { tmps := slots 15 [(5, PV.own 7), (6, PV.t (i64 5)), (7, PV.t (i64 1))], heap := [AObj.box 25 6 (PV.t c.t), AObj.box 3 1 (PV.t (i64 k)), AObj.box 27 2 (PV.t x.t), AObj.box 34 6 (PV.t v.t), AObj.box 30 4 (PV.agg [PV.t (i64 0), PV.own 8, PV.t (i64 0), PV.t (i64 0)]), AObj.box 54 6 (PV.t (T.agg [i64 0, i64 0, i64 0, i64 0, i64 0, i64 0])), AObj.box 30 4 (PV.agg [PV.t (i64 v.p.o), PV.own 9, PV.t (i64 c.d), PV.t (i64 0)]), AObj.vec 31 [PV.fn 44 [] [PV.ptr 0 0, PV.ptr 1 0, PV.ptr 2 0, PV.ptr 3 0], PV.fn 45 [] [PV.ptr 3 0, PV.ptr 1 0, PV.ptr 0 0], PV.fn 46 [] [PV.ptr 0 0, PV.ptr 1 0, PV.ptr 2 0, PV.ptr 3 0, PV.ptr 5 0], PV.fn 47 [] [PV.ptr 0 0, PV.ptr 1 0, PV.ptr 3 0, PV.ptr 6 0], PV.fn 49 [] [PV.ptr 0 0, PV.ptr 5 0, PV.ptr 3 0, PV.ptr 6 0]], AObj.row 3 1 [], AObj.row 3 1 []] })) := by kernel_rfl
theorem opkb32_2_3 (N : Nat) (c : Cf) (k : Int) (x : Px) (v : Rt) (b : Bool) : bodyR env (recP env N [pnO1 c k x v true, pnO2 c k x v b]) N 32 8 2 (sOl1 c k x v (T.agg [i64 0, i64 0, i64 0, i64 0, i64 0, i64 0]) 0) = chkP ([PV.ptr 3 0, PV.ptr 1 0, PV.ptr 0 0] = [PV.ptr 3 0, PV.ptr 1 0, PV.ptr 0 0] ∧ [AObj.box 25 6 (PV.t c.t), AObj.box 3 1 (PV.t (i64 k)), AObj.box 27 2 (PV.t x.t), AObj.box 34 6 (PV.t v.t), AObj.box 30 4 (PV.agg [PV.t (i64 0), PV.own 8, PV.t (i64 0), PV.t (i64 0)]), AObj.box 54 6 (PV.t (T.agg [i64 0, i64 0, i64 0, i64 0, i64 0, i64 0])), AObj.box 30 4 (PV.agg [PV.t (i64 v.p.o), PV.own 9, PV.t (i64 c.d), PV.t (i64 0)]), AObj.vec 31 [PV.fn 44 [] [PV.ptr 0 0, PV.ptr 1 0, PV.ptr 2 0, PV.ptr 3 0], PV.fn 45 [] [PV.ptr 3 0, PV.ptr 1 0, PV.ptr 0 0], PV.fn 46 [] [PV.ptr 0 0, PV.ptr 1 0, PV.ptr 2 0, PV.ptr 3 0, PV.ptr 5 0], PV.fn 47 [] [PV.ptr 0 0, PV.ptr 1 0, PV.ptr 3 0, PV.ptr 6 0], PV.fn 49 [] [PV.ptr 0 0, PV.ptr 5 0, PV.ptr 3 0, PV.ptr 6 0]], AObj.row 3 1 [], AObj.row 3 1 []] = [AObj.box 25 6 (PV.t c.t), AObj.box 3 1 (PV.t (i64 k)), AObj.box 27 2 (PV.t x.t), AObj.box 34 6 (PV.t v.t), AObj.box 30 4 (PV.agg [PV.t (i64 0), PV.own 8, PV.t (i64 0), PV.t (i64 0)]), AObj.box 54 6 (PV.t (T.agg [i64 0, i64 0, i64 0, i64 0, i64 0, i64 0])), AObj.box 30 4 (PV.agg [PV.t (i64 v.p.o), PV.own 9, PV.t (i64 c.d), PV.t (i64 0)]), AObj.vec 31 [PV.fn 44 [] [PV.ptr 0 0, PV.ptr 1 0, PV.ptr 2 0, PV.ptr 3 0], PV.fn 45 [] [PV.ptr 3 0, PV.ptr 1 0, PV.ptr 0 0], PV.fn 46 [] [PV.ptr 0 0, PV.ptr 1 0, PV.ptr 2 0, PV.ptr 3 0, PV.ptr 5 0], PV.fn 47 [] [PV.ptr 0 0, PV.ptr 1 0, PV.ptr 3 0, PV.ptr 6 0], PV.fn 49 [] [PV.ptr 0 0, PV.ptr 5 0, PV.ptr 3 0, PV.ptr 6 0]], AObj.row 3 1 [], AObj.row 3 1 []]) (bif !b then Res.ok (Ex.ret, { tmps := slots 15 [(2, PV.t (T.bool false))], heap := [AObj.box 25 6 (PV.t c.t), AObj.box 3 1 (PV.t (i64 k)), AObj.box 27 2 (PV.t x.t), AObj.box 34 6 (PV.t v.t), AObj.box 30 4 (PV.agg [PV.t (i64 0), PV.own 8, PV.t (i64 0), PV.t (i64 0)]), AObj.box 54 6 (PV.t (T.agg [i64 0, i64 0, i64 0, i64 0, i64 0, i64 0])), AObj.box 30 4 (PV.agg [PV.t (i64 v.p.o), PV.own 9, PV.t (i64 c.d), PV.t (i64 0)]), AObj.vec 31 [PV.fn 44 [] [PV.ptr 0 0, PV.ptr 1 0, PV.ptr 2 0, PV.ptr 3 0], PV.fn 45 [] [PV.ptr 3 0, PV.ptr 1 0, PV.ptr 0 0], PV.fn 46 [] [PV.ptr 0 0, PV.ptr 1 0, PV.ptr 2 0, PV.ptr 3 0, PV.ptr 5 0], PV.fn 47 [] [PV.ptr 0 0, PV.ptr 1 0, PV.ptr 3 0, PV.ptr 6 0], PV.fn 49 [] [PV.ptr 0 0, PV.ptr 5 0, PV.ptr 3 0, PV.ptr 6 0]], AObj.row 3 1 [], AObj.row 3 1 []] }) else Res.ok (Ex.norm, { tmps := slots 15 [(5, PV.own 7), (6, PV.t (i64 5)), (7, PV.t (i64 2))], heap := [AObj.box 25 6 (PV.t c.t), AObj.box 3 1 (PV.t (i64 k)), AObj.box 27 2 (PV.t x.t), AObj.box 34 6 (PV.t v.t), AObj.box 30 4 (PV.agg [PV.t (i64 0), PV.own 8, PV.t (i64 0), PV.t (i64 0)]), AObj.box 54 6 (PV.t (T.agg [i64 0, i64 0, i64 0, i64 0, i64 0, i64 0])), AObj.box 30 4 (PV.agg [PV.t (i64 v.p.o), PV.own 9, PV.t (i64 c.d), PV.t (i64 0)]), AObj.vec 31 [PV.fn 44 [] [PV.ptr 0 0, PV.ptr 1 0, PV.ptr 2 0, PV.ptr 3 0], PV.fn 45 [] [PV.ptr 3 0, PV.ptr 1 0, PV.ptr 0 0], PV.fn 46 [] [PV.ptr 0 0, PV.ptr 1 0, PV.ptr 2 0, PV.ptr 3 0, PV.ptr 5 0], PV.fn 47 [] [PV.ptr 0 0, PV.ptr 1 0, PV.ptr 3 0, PV.ptr 6 0], PV.fn 49 [] [PV.ptr 0 0, PV.ptr 5 0, PV.ptr 3 0, PV.ptr 6 0]], AObj.row 3 1 [], AObj.row 3 1 []] })) := by kernel_rfl
theorem opkt32_2_ret_2 (N : Nat) (c : Cf) (k : Int) (x : Px) (v : Rt) (b : Bool) (H : List AObj) {β : Type} (K : PV → List AObj → Res β) : tailR env (recP env N [pnO1 c k x v true, pnO2 c k x v b]) N 32 8 2 K (.ret) (⟨slots 15 [(2, .t (.bool false))], H⟩) = K (PV.t (T.bool false)) H := by kernel_rfl
theorem opk32_3 (N : Nat) (c : Cf) (k : Int) (x : Px) (v : Rt) (b : Bool) (r : T) {β : Type} (K : PV → List AObj → Res β) : funK env (recP env N [pnO1 c k x v true, pnO2 c k x v true, pnO3 c k x v b r]) N 32 [.own 7] [.box 25 6 (.t c.t), .box 3 1 (.t (i64 k)), .box 27 2 (.t x.t), .box 34 6 (.t v.t), .box 30 4 (.agg [.t (i64 0), .nil 3 1, .t (i64 0), .t (i64 0)]), .box 54 6 (.t (T.agg [i64 0, i64 0, i64 0, i64 0, i64 0, i64 0])), .box 30 4 (.agg [.t (i64 v.p.o), .nil 3 1, .t (i64 c.d), .t (i64 0)]), .vec 31 outV] K = loopR env (recP env N [pnO1 c k x v true, pnO2 c k x v true, pnO3 c k x v b r]) N 32 8 2 K { tmps := slots 15 [(5, PV.own 7), (6, PV.t (i64 5)), (7, PV.t (i64 0))], heap := [AObj.box 25 6 (PV.t c.t), AObj.box 3 1 (PV.t (i64 k)), AObj.box 27 2 (PV.t x.t), AObj.box 34 6 (PV.t v.t), AObj.box 30 4 (PV.agg [PV.t (i64 0), PV.own 8, PV.t (i64 0), PV.t (i64 0)]), AObj.box 54 6 (PV.t (T.agg [i64 0, i64 0, i64 0, i64 0, i64 0, i64 0])), AObj.box 30 4 (PV.agg [PV.t (i64 v.p.o), PV.own 9, PV.t (i64 c.d), PV.t (i64 0)]), AObj.vec 31 [PV.fn 44 [] [PV.ptr 0 0, PV.ptr 1 0, PV.ptr 2 0, PV.ptr 3 0], PV.fn 45 [] [PV.ptr 3 0, PV.ptr 1 0, PV.ptr 0 0], PV.fn 46 [] [PV.ptr 0 0, PV.ptr 1 0, PV.ptr 2 0, PV.ptr 3 0, PV.ptr 5 0], PV.fn 47 [] [PV.ptr 0 0, PV.ptr 1 0, PV.ptr 3 0, PV.ptr 6 0], PV.fn 49 [] [PV.ptr 0 0, PV.ptr 5 0, PV.ptr 3 0, PV.ptr 6 0]], AObj.row 3 1 [], AObj.row 3 1 []] } := by kernel_rfl
theorem opkb32_2_4 (N : Nat) (c : Cf) (k : Int) (x : Px) (v : Rt) (b : Bool) (r : T) : bodyR env (recP env N [pnO1 c k x v true, pnO2 c k x v true, pnO3 c k x v b r]) N 32 8 2 (sOl0 c k x v (T.agg [i64 0, i64 0, i64 0, i64 0, i64 0, i64 0]) 0) = chkP ([PV.ptr 0 0, PV.ptr 1 0, PV.ptr 2 0, PV.ptr 3 0] = [PV.ptr 0 0, PV.ptr 1 0, PV.ptr 2 0, PV.ptr 3 0] ∧ [AObj.box 25 6 (PV.t c.t), AObj.box 3 1 (PV.t (i64 k)), AObj.box 27 2 (PV.t x.t), AObj.box 34 6 (PV.t v.t), AObj.box 30 4 (PV.agg [PV.t (i64 0), PV.own 8, PV.t (i64 0), PV.t (i64 0)]), AObj.box 54 6 (PV.t (T.agg [i64 0, i64 0, i64 0, i64 0, i64 0, i64 0])), AObj.box 30 4 (PV.agg [PV.t (i64 v.p.o), PV.own 9, PV.t (i64 c.d), PV.t (i64 0)]), AObj.vec 31 [PV.fn 44 [] [PV.ptr 0 0, PV.ptr 1 0, PV.ptr 2 0, PV.ptr 3 0], PV.fn 45 [] [PV.ptr 3 0, PV.ptr 1 0, PV.ptr 0 0], PV.fn 46 [] [PV.ptr 0 0, PV.ptr 1 0, PV.ptr 2 0, PV.ptr 3 0, PV.ptr 5 0], PV.fn 47 [] [PV.ptr 0 0, PV.ptr 1 0, PV.ptr 3 0, PV.ptr 6 0], PV.fn 49 [] [PV.ptr 0 0, PV.ptr 5 0, PV.ptr 3 0, PV.ptr 6 0]], AObj.row 3 1 [], AObj.row 3 1 []] = [AObj.box 25 6 (PV.t c.t), AObj.box 3 1 (PV.t (i64 k)), AObj.box 27 2 (PV.t x.t), AObj.box 34 6 (PV.t v.t), AObj.box 30 4 (PV.agg [PV.t (i64 0), PV.own 8, PV.t (i64 0), PV.t (i64 0)]), AObj.box 54 6 (PV.t (T.agg [i64 0, i64 0, i64 0, i64 0, i64 0, i64 0])), AObj.box 30 4 (PV.agg [PV.t (i64 v.p.o), PV.own 9, PV.t (i64 c.d), PV.t (i64 0)]), AObj.vec 31 [PV.fn 44 [] [PV.ptr 0 0, PV.ptr 1 0, PV.ptr 2 0, PV.ptr 3 0], PV.fn 45 [] [PV.ptr 3 0, PV.ptr 1 0, PV.ptr 0 0], PV.fn 46 [] [PV.ptr 0 0, PV.ptr 1 0, PV.ptr 2 0, PV.ptr 3 0, PV.ptr 5 0], PV.fn 47 [] [PV.ptr 0 0, PV.ptr 1 0, PV.ptr 3 0, PV.ptr 6 0], PV.fn 49 [] [PV.ptr 0 0, PV.ptr 5 0, PV.ptr 3 0, PV.ptr 6 0]], AObj.row 3 1 [], AObj.row 3 1 []]) (Res.ok (Ex.norm, { tmps := slots 15 [(5, PV.own 7), (6, PV.t (i64 5)), (7, PV.t (i64 1))], heap := [AObj.box 25 6 (PV.t c.t), AObj.box 3 1 (PV.t (i64 k)), AObj.box 27 2 (PV.t x.t), AObj.box 34 6 (PV.t v.t), AObj.box 30 4 (PV.agg [PV.t (i64 0), PV.own 8, PV.t (i64 0), PV.t (i64 0)]), AObj.box 54 6 (PV.t (T.agg [i64 0, i64 0, i64 0, i64 0, i64 0, i64 0])), AObj.box 30 4 (PV.agg [PV.t (i64 v.p.o), PV.own 9, PV.t (i64 c.d), PV.t (i64 0)]), AObj.vec 31 [PV.fn 44 [] [PV.ptr 0 0, PV.ptr 1 0, PV.ptr 2 0, PV.ptr 3 0], PV.fn 45 [] [PV.ptr 3 0, PV.ptr 1 0, PV.ptr 0 0], PV.fn 46 [] [PV.ptr 0 0, PV.ptr 1 0, PV.ptr 2 0, PV.ptr 3 0, PV.ptr 5 0], PV.fn 47 [] [PV.ptr 0 0, PV.ptr 1 0, PV.ptr 3 0, PV.ptr 6 0], PV.fn 49 [] [PV.ptr 0 0, PV.ptr 5 0, PV.ptr 3 0, PV.ptr 6 0]], AObj.row 3 1 [], AObj.row 3 1 []] })) := by kernel_rfl
theorem opkb32_2_5 (N : Nat) (c : Cf) (k : Int) (x : Px) (v : Rt) (b : Bool) (r : T) : bodyR env (recP env N [pnO1 c k x v true, pnO2 c k x v true, pnO3 c k x v b r]) N 32 8 2 (sOl1 c k x v (T.agg [i64 0, i64 0, i64 0, i64 0, i64 0, i64 0]) 0) = chkP ([PV.ptr 3 0, PV.ptr 1 0, PV.ptr 0 0] = [PV.ptr 3 0, PV.ptr 1 0, PV.ptr 0 0] ∧ [AObj.box 25 6 (PV.t c.t), AObj.box 3 1 (PV.t (i64 k)), AObj.box 27 2 (PV.t x.t), AObj.box 34 6 (PV.t v.t), AObj.box 30 4 (PV.agg [PV.t (i64 0), PV.own 8, PV.t (i64 0), PV.t (i64 0)]), AObj.box 54 6 (PV.t (T.agg [i64 0, i64 0, i64 0, i64 0, i64 0, i64 0])), AObj.box 30 4 (PV.agg [PV.t (i64 v.p.o), PV.own 9, PV.t (i64 c.d), PV.t (i64 0)]), AObj.vec 31 [PV.fn 44 [] [PV.ptr 0 0, PV.ptr 1 0, PV.ptr 2 0, PV.ptr 3 0], PV.fn 45 [] [PV.ptr 3 0, PV.ptr 1 0, PV.ptr 0 0], PV.fn 46 [] [PV.ptr 0 0, PV.ptr 1 0, PV.ptr 2 0, PV.ptr 3 0, PV.ptr 5 0], PV.fn 47 [] [PV.ptr 0 0, PV.ptr 1 0, PV.ptr 3 0, PV.ptr 6 0], PV.fn 49 [] [PV.ptr 0 0, PV.ptr 5 0, PV.ptr 3 0, PV.ptr 6 0]], AObj.row 3 1 [], AObj.row 3 1 []] = [AObj.box 25 6 (PV.t c.t), AObj.box 3 1 (PV.t (i64 k)), AObj.box 27 2 (PV.t x.t), AObj.box 34 6 (PV.t v.t), AObj.box 30 4 (PV.agg [PV.t (i64 0), PV.own 8, PV.t (i64 0), PV.t (i64 0)]), AObj.box 54 6 (PV.t (T.agg [i64 0, i64 0, i64 0, i64 0, i64 0, i64 0])), AObj.box 30 4 (PV.agg [PV.t (i64 v.p.o), PV.own 9, PV.t (i64 c.d), PV.t (i64 0)]), AObj.vec 31 [PV.fn 44 [] [PV.ptr 0 0, PV.ptr 1 0, PV.ptr 2 0, PV.ptr 3 0], PV.fn 45 [] [PV.ptr 3 0, PV.ptr 1 0, PV.ptr 0 0], PV.fn 46 [] [PV.ptr 0 0, PV.ptr 1 0, PV.ptr 2 0, PV.ptr 3 0, PV.ptr 5 0], PV.fn 47 [] [PV.ptr 0 0, PV.ptr 1 0, PV.ptr 3 0, PV.ptr 6 0], PV.fn 49 [] [PV.ptr 0 0, PV.ptr 5 0, PV.ptr 3 0, PV.ptr 6 0]], AObj.row 3 1 [], AObj.row 3 1 []]) (Res.ok (Ex.norm, { tmps := slots 15 [(5, PV.own 7), (6, PV.t (i64 5)), (7, PV.t (i64 2))], heap := [AObj.box 25 6 (PV.t c.t), AObj.box 3 1 (PV.t (i64 k)), AObj.box 27 2 (PV.t x.t), AObj.box 34 6 (PV.t v.t), AObj.box 30 4 (PV.agg [PV.t (i64 0), PV.own 8, PV.t (i64 0), PV.t (i64 0)]), AObj.box 54 6 (PV.t (T.agg [i64 0, i64 0, i64 0, i64 0, i64 0, i64 0])), AObj.box 30 4 (PV.agg [PV.t (i64 v.p.o), PV.own 9, PV.t (i64 c.d), PV.t (i64 0)]), AObj.vec 31 [PV.fn 44 [] [PV.ptr 0 0, PV.ptr 1 0, PV.ptr 2 0, PV.ptr 3 0], PV.fn 45 [] [PV.ptr 3 0, PV.ptr 1 0, PV.ptr 0 0], PV.fn 46 [] [PV.ptr 0 0, PV.ptr 1 0, PV.ptr 2 0, PV.ptr 3 0, PV.ptr 5 0], PV.fn 47 [] [PV.ptr 0 0, PV.ptr 1 0, PV.ptr 3 0, PV.ptr 6 0], PV.fn 49 [] [PV.ptr 0 0, PV.ptr 5 0, PV.ptr 3 0, PV.ptr 6 0]], AObj.row 3 1 [], AObj.row 3 1 []] })) := by kernel_rfl
theorem opkb32_2_6 (N : Nat) (c : Cf) (k : Int) (x : Px) (v : Rt) (b : Bool) (r : T) : bodyR env (recP env N [pnO1 c k x v true, pnO2 c k x v true, pnO3 c k x v b r]) N 32 8 2 (sOl2 c k x v (T.agg [i64 0, i64 0, i64 0, i64 0, i64 0, i64 0]) 0) = chkP ([PV.ptr 0 0, PV.ptr 1 0, PV.ptr 2 0, PV.ptr 3 0, PV.ptr 5 0] = [PV.ptr 0 0, PV.ptr 1 0, PV.ptr 2 0, PV.ptr 3 0, PV.ptr 5 0] ∧ [AObj.box 25 6 (PV.t c.t), AObj.box 3 1 (PV.t (i64 k)), AObj.box 27 2 (PV.t x.t), AObj.box 34 6 (PV.t v.t), AObj.box 30 4 (PV.agg [PV.t (i64 0), PV.own 8, PV.t (i64 0), PV.t (i64 0)]), AObj.box 54 6 (PV.t (T.agg [i64 0, i64 0, i64 0, i64 0, i64 0, i64 0])), AObj.box 30 4 (PV.agg [PV.t (i64 v.p.o), PV.own 9, PV.t (i64 c.d), PV.t (i64 0)]), AObj.vec 31 [PV.fn 44 [] [PV.ptr 0 0, PV.ptr 1 0, PV.ptr 2 0, PV.ptr 3 0], PV.fn 45 [] [PV.ptr 3 0, PV.ptr 1 0, PV.ptr 0 0], PV.fn 46 [] [PV.ptr 0 0, PV.ptr 1 0, PV.ptr 2 0, PV.ptr 3 0, PV.ptr 5 0], PV.fn 47 [] [PV.ptr 0 0, PV.ptr 1 0, PV.ptr 3 0, PV.ptr 6 0], PV.fn 49 [] [PV.ptr 0 0, PV.ptr 5 0, PV.ptr 3 0, PV.ptr 6 0]], AObj.row 3 1 [], AObj.row 3 1 []] = [AObj.box 25 6 (PV.t c.t), AObj.box 3 1 (PV.t (i64 k)), AObj.box 27 2 (PV.t x.t), AObj.box 34 6 (PV.t v.t), AObj.box 30 4 (PV.agg [PV.t (i64 0), PV.own 8, PV.t (i64 0), PV.t (i64 0)]), AObj.box 54 6 (PV.t (T.agg [i64 0, i64 0, i64 0, i64 0, i64 0, i64 0])), AObj.box 30 4 (PV.agg [PV.t (i64 v.p.o), PV.own 9, PV.t (i64 c.d), PV.t (i64 0)]), AObj.vec 31 [PV.fn 44 [] [PV.ptr 0 0, PV.ptr 1 0, PV.ptr 2 0, PV.ptr 3 0], PV.fn 45 [] [PV.ptr 3 0, PV.ptr 1 0, PV.ptr 0 0], PV.fn 46 [] [PV.ptr 0 0, PV.ptr 1 0, PV.ptr 2 0, PV.ptr 3 0, PV.ptr 5 0], PV.fn 47 [] [PV.ptr 0 0, PV.ptr 1 0, PV.ptr 3 0, PV.ptr 6 0], PV.fn 49 [] [PV.ptr 0 0, PV.ptr 5 0, PV.ptr 3 0, PV.ptr 6 0]], AObj.row 3 1 [], AObj.row 3 1 []]) (bif !b then Res.ok (Ex.ret, { tmps := slots 15 [(2, PV.t (T.bool false))], heap := [AObj.box 25 6 (PV.t c.t), AObj.box 3 1 (PV.t (i64 k)), AObj.box 27 2 (PV.t x.t), AObj.box 34 6 (PV.t v.t), AObj.box 30 4 (PV.agg [PV.t (i64 0), PV.own 8, PV.t (i64 0), PV.t (i64 0)]), AObj.box 54 6 (PV.t r), AObj.box 30 4 (PV.agg [PV.t (i64 v.p.o), PV.own 9, PV.t (i64 c.d), PV.t (i64 0)]), AObj.vec 31 [PV.fn 44 [] [PV.ptr 0 0, PV.ptr 1 0, PV.ptr 2 0, PV.ptr 3 0], PV.fn 45 [] [PV.ptr 3 0, PV.ptr 1 0, PV.ptr 0 0], PV.fn 46 [] [PV.ptr 0 0, PV.ptr 1 0, PV.ptr 2 0, PV.ptr 3 0, PV.ptr 5 0], PV.fn 47 [] [PV.ptr 0 0, PV.ptr 1 0, PV.ptr 3 0, PV.ptr 6 0], PV.fn 49 [] [PV.ptr 0 0, PV.ptr 5 0, PV.ptr 3 0, PV.ptr 6 0]], AObj.row 3 1 [], AObj.row 3 1 []] }) else Res.ok (Ex.norm, { tmps := slots 15 [(5, PV.own 7), (6, PV.t (i64 5)), (7, PV.t (i64 3))], heap := [AObj.box 25 6 (PV.t c.t), AObj.box 3 1 (PV.t (i64 k)), AObj.box 27 2 (PV.t x.t), AObj.box 34 6 (PV.t v.t), AObj.box 30 4 (PV.agg [PV.t (i64 0), PV.own 8, PV.t (i64 0), PV.t (i64 0)]), AObj.box 54 6 (PV.t r), AObj.box 30 4 (PV.agg [PV.t (i64 v.p.o), PV.own 9, PV.t (i64 c.d), PV.t (i64 0)]), AObj.vec 31 [PV.fn 44 [] [PV.ptr 0 0, PV.ptr 1 0, PV.ptr 2 0, PV.ptr 3 0], PV.fn 45 [] [PV.ptr 3 0, PV.ptr 1 0, PV.ptr 0 0], PV.fn 46 [] [PV.ptr 0 0, PV.ptr 1 0, PV.ptr 2 0, PV.ptr 3 0, PV.ptr 5 0], PV.fn 47 [] [PV.ptr 0 0, PV.ptr 1 0, PV.ptr 3 0, PV.ptr 6 0], PV.fn 49 [] [PV.ptr 0 0, PV.ptr 5 0, PV.ptr 3 0, PV.ptr 6 0]], AObj.row 3 1 [], AObj.row 3 1 []] })) := by kernel_rfl
theorem opkt32_2_ret_3 (N : Nat) (c : Cf) (k : Int) (x : Px) (v : Rt) (b : Bool) (r : T) (H : List AObj) {β : Type} (K : PV → List AObj → Res β) : tailR env (recP env N [pnO1 c k x v true, pnO2 c k x v true, pnO3 c k x v b r]) N 32 8 2 K (.ret) (⟨slots 15 [(2, .t (.bool false))], H⟩) = K (PV.t (T.bool false)) H := by kernel_rfl
theorem opk32_4 (N : Nat) (c : Cf) (k : Int) (x : Px) (v : Rt) (b : Bool) (r : T) (o : Int) {β : Type} (K : PV → List AObj → Res β) : funK env (recP env N [pnO1 c k x v true, pnO2 c k x v true, pnO3 c k x v true r, pnO4 c k x v b r o]) N 32 [.own 7] [.box 25 6 (.t c.t), .box 3 1 (.t (i64 k)), .box 27 2 (.t x.t), .box 34 6 (.t v.t), .box 30 4 (.agg [.t (i64 0), .nil 3 1, .t (i64 0), .t (i64 0)]), .box 54 6 (.t (T.agg [i64 0, i64 0, i64 0, i64 0, i64 0, i64 0])), .box 30 4 (.agg [.t (i64 v.p.o), .nil 3 1, .t (i64 c.d), .t (i64 0)]), .vec 31 outV] K = loopR env (recP env N [pnO1 c k x v true, pnO2 c k x v true, pnO3 c k x v true r, pnO4 c k x v b r o]) N 32 8 2 K { tmps := slots 15 [(5, PV.own 7), (6, PV.t (i64 5)), (7, PV.t (i64 0))], heap := [AObj.box 25 6 (PV.t c.t), AObj.box 3 1 (PV.t (i64 k)), AObj.box 27 2 (PV.t x.t), AObj.box 34 6 (PV.t v.t), AObj.box 30 4 (PV.agg [PV.t (i64 0), PV.own 8, PV.t (i64 0), PV.t (i64 0)]), AObj.box 54 6 (PV.t (T.agg [i64 0, i64 0, i64 0, i64 0, i64 0, i64 0])), AObj.box 30 4 (PV.agg [PV.t (i64 v.p.o), PV.own 9, PV.t (i64 c.d), PV.t (i64 0)]), AObj.vec 31 [PV.fn 44 [] [PV.ptr 0 0, PV.ptr 1 0, PV.ptr 2 0, PV.ptr 3 0], PV.fn 45 [] [PV.ptr 3 0, PV.ptr 1 0, PV.ptr 0 0], PV.fn 46 [] [PV.ptr 0 0, PV.ptr 1 0, PV.ptr 2 0, PV.ptr 3 0, PV.ptr 5 0], PV.fn 47 [] [PV.ptr 0 0, PV.ptr 1 0, PV.ptr 3 0, PV.ptr 6 0], PV.fn 49 [] [PV.ptr 0 0, PV.ptr 5 0, PV.ptr 3 0, PV.ptr 6 0]], AObj.row 3 1 [], AObj.row 3 1 []] } := by kernel_rfl
theorem opkb32_2_7 (N : Nat) (c : Cf) (k : Int) (x : Px) (v : Rt) (b : Bool) (r : T) (o : Int) : bodyR env (recP env N [pnO1 c k x v true, pnO2 c k x v true, pnO3 c k x v true r, pnO4 c k x v b r o]) N 32 8 2 (sOl0 c k x v (T.agg [i64 0, i64 0, i64 0, i64 0, i64 0, i64 0]) 0) = chkP ([PV.ptr 0 0, PV.ptr 1 0, PV.ptr 2 0, PV.ptr 3 0] = [PV.ptr 0 0, PV.ptr 1 0, PV.ptr 2 0, PV.ptr 3 0] ∧ [AObj.box 25 6 (PV.t c.t), AObj.box 3 1 (PV.t (i64 k)), AObj.box 27 2 (PV.t x.t), AObj.box 34 6 (PV.t v.t), AObj.box 30 4 (PV.agg [PV.t (i64 0), PV.own 8, PV.t (i64 0), PV.t (i64 0)]), AObj.box 54 6 (PV.t (T.agg [i64 0, i64 0, i64 0, i64 0, i64 0, i64 0])), AObj.box 30 4 (PV.agg [PV.t (i64 v.p.o), PV.own 9, PV.t (i64 c.d), PV.t (i64 0)]), AObj.vec 31 [PV.fn 44 [] [PV.ptr 0 0, PV.ptr 1 0, PV.ptr 2 0, PV.ptr 3 0], PV.fn 45 [] [PV.ptr 3 0, PV.ptr 1 0, PV.ptr 0 0], PV.fn 46 [] [PV.ptr 0 0, PV.ptr 1 0, PV.ptr 2 0, PV.ptr 3 0, PV.ptr 5 0], PV.fn 47 [] [PV.ptr 0 0, PV.ptr 1 0, PV.ptr 3 0, PV.ptr 6 0], PV.fn 49 [] [PV.ptr 0 0, PV.ptr 5 0, PV.ptr 3 0, PV.ptr 6 0]], AObj.row 3 1 [], AObj.row 3 1 []] = [AObj.box 25 6 (PV.t c.t), AObj.box 3 1 (PV.t (i64 k)), AObj.box 27 2 (PV.t x.t), AObj.box 34 6 (PV.t v.t), AObj.box 30 4 (PV.agg [PV.t (i64 0), PV.own 8, PV.t (i64 0), PV.t (i64 0)]), AObj.box 54 6 (PV.t (T.agg [i64 0, i64 0, i64 0, i64 0, i64 0, i64 0])), AObj.box 30 4 (PV.agg [PV.t (i64 v.p.o), PV.own 9, PV.t (i64 c.d), PV.t (i64 0)]), AObj.vec 31 [PV.fn 44 [] [PV.ptr 0 0, PV.ptr 1 0, PV.ptr 2 0, PV.ptr 3 0], PV.fn 45 [] [PV.ptr 3 0, PV.ptr 1 0, PV.ptr 0 0], PV.fn 46 [] [PV.ptr 0 0, PV.ptr 1 0, PV.ptr 2 0, PV.ptr 3 0, PV.ptr 5 0], PV.fn 47 [] [PV.ptr 0 0, PV.ptr 1 0, PV.ptr 3 0, PV.ptr 6 0], PV.fn 49 [] [PV.ptr 0 0, PV.ptr 5 0, PV.ptr 3 0, PV.ptr 6 0]], AObj.row 3 1 [], AObj.row 3 1 []]) (Res.ok (Ex.norm, { tmps := slots 15 [(5, PV.own 7), (6, PV.t (i64 5)), (7, PV.t (i64 1))], heap := [AObj.box 25 6 (PV.t c.t), AObj.box 3 1 (PV.t (i64 k)), AObj.box 27 2 (PV.t x.t), AObj.box 34 6 (PV.t v.t), AObj.box 30 4 (PV.agg [PV.t (i64 0), PV.own 8, PV.t (i64 0), PV.t (i64 0)]), AObj.box 54 6 (PV.t (T.agg [i64 0, i64 0, i64 0, i64 0, i64 0, i64 0])), AObj.box 30 4 (PV.agg [PV.t (i64 v.p.o), PV.own 9, PV.t (i64 c.d), PV.t (i64 0)]), AObj.vec 31 [PV.fn 44 [] [PV.ptr 0 0, PV.ptr 1 0, PV.ptr 2 0, PV.ptr 3 0], PV.fn 45 [] [PV.ptr 3 0, PV.ptr 1 0, PV.ptr 0 0], PV.fn 46 [] [PV.ptr 0 0, PV.ptr 1 0, PV.ptr 2 0, PV.ptr 3 0, PV.ptr 5 0], PV.fn 47 [] [PV.ptr 0 0, PV.ptr 1 0, PV.ptr 3 0, PV.ptr 6 0], PV.fn 49 [] [PV.ptr 0 0, PV.ptr 5 0, PV.ptr 3 0, PV.ptr 6 0]], AObj.row 3 1 [], AObj.row 3 1 []] })) := by kernel_rfl
theorem opkb32_2_8 (N : Nat) (c : Cf) (k : Int) (x : Px) (v : Rt) (b : Bool) (r : T) (o : Int) : bodyR env (recP env N [pnO1 c k x v true, pnO2 c k x v true, pnO3 c k x v true r, pnO4 c k x v b r o]) N 32 8 2 (sOl1 c k x v (T.agg [i64 0, i64 0, i64 0, i64 0, i64 0, i64 0]) 0) = chkP ([PV.ptr 3 0, PV.ptr 1 0, PV.ptr 0 0] = [PV.ptr 3 0, PV.ptr 1 0, PV.ptr 0 0] ∧ [AObj.box 25 6 (PV.t c.t), AObj.box 3 1 (PV.t (i64 k)), AObj.box 27 2 (PV.t x.t), AObj.box 34 6 (PV.t v.t), AObj.box 30 4 (PV.agg [PV.t (i64 0), PV.own 8, PV.t (i64 0), PV.t (i64 0)]), AObj.box 54 6 (PV.t (T.agg [i64 0, i64 0, i64 0, i64 0, i64 0, i64 0])), AObj.box 30 4 (PV.agg [PV.t (i64 v.p.o), PV.own 9, PV.t (i64 c.d), PV.t (i64 0)]), AObj.vec 31 [PV.fn 44 [] [PV.ptr 0 0, PV.ptr 1 0, PV.ptr 2 0, PV.ptr 3 0], PV.fn 45 [] [PV.ptr 3 0, PV.ptr 1 0, PV.ptr 0 0], PV.fn 46 [] [PV.ptr 0 0, PV.ptr 1 0, PV.ptr 2 0, PV.ptr 3 0, PV.ptr 5 0], PV.fn 47 [] [PV.ptr 0 0, PV.ptr 1 0, PV.ptr 3 0, PV.ptr 6 0], PV.fn 49 [] [PV.ptr 0 0, PV.ptr 5 0, PV.ptr 3 0, PV.ptr 6 0]], AObj.row 3 1 [], AObj.row 3 1 []] = [AObj.box 25 6 (PV.t c.t), AObj.box 3 1 (PV.t (i64 k)), AObj.box 27 2 (PV.t x.t), AObj.box 34 6 (PV.t v.t), AObj.box 30 4 (PV.agg [PV.t (i64 0), PV.own 8, PV.t (i64 0), PV.t (i64 0)]), AObj.box 54 6 (PV.t (T.agg [i64 0, i64 0, i64 0, i64 0, i64 0, i64 0])), AObj.box 30 4 (PV.agg [PV.t (i64 v.p.o), PV.own 9, PV.t (i64 c.d), PV.t (i64 0)]), AObj.vec 31 [PV.fn 44 [] [PV.ptr 0 0, PV.ptr 1 0, PV.ptr 2 0, PV.ptr 3 0], PV.fn 45 [] [PV.ptr 3 0, PV.ptr 1 0, PV.ptr 0 0], PV.fn 46 [] [PV.ptr 0 0, PV.ptr 1 0, PV.ptr 2 0, PV.ptr 3 0, PV.ptr 5 0], PV.fn 47 [] [PV.ptr 0 0, PV.ptr 1 0, PV.ptr 3 0, PV.ptr 6 0], PV.fn 49 [] [PV.ptr 0 0, PV.ptr 5 0, PV.ptr 3 0, PV.ptr 6 0]], AObj.row 3 1 [], AObj.row 3 1 []]) (Res.ok (Ex.norm, { tmps := slots 15 [(5, PV.own 7), (6, PV.t (i64 5)), (7, PV.t (i64 2))], heap := [AObj.box 25 6 (PV.t c.t), AObj.box 3 1 (PV.t (i64 k)), AObj.box 27 2 (PV.t x.t), AObj.box 34 6 (PV.t v.t), AObj.box 30 4 (PV.agg [PV.t (i64 0), PV.own 8, PV.t (i64 0), PV.t (i64 0)]), AObj.box 54 6 (PV.t (T.agg [i64 0, i64 0, i64 0, i64 0, i64 0, i64 0])), AObj.box 30 4 (PV.agg [PV.t (i64 v.p.o), PV.own 9, PV.t (i64 c.d), PV.t (i64 0)]), AObj.vec 31 [PV.fn 44 [] [PV.ptr 0 0, PV.ptr 1 0, PV.ptr 2 0, PV.ptr 3 0], PV.fn 45 [] [PV.ptr 3 0, PV.ptr 1 0, PV.ptr 0 0], PV.fn 46 [] [PV.ptr 0 0, PV.ptr 1 0, PV.ptr 2 0, PV.ptr 3 0, PV.ptr 5 0], PV.fn 47 [] [PV.ptr 0 0, PV.ptr 1 0, PV.ptr 3 0, PV.ptr 6 0], PV.fn 49 [] [PV.ptr 0 0, PV.ptr 5 0, PV.ptr 3 0, PV.ptr 6 0]], AObj.row 3 1 [], AObj.row 3 1 []] })) := by kernel_rfl
theorem opkb32_2_9 (N : Nat) (c : Cf) (k : Int) (x : Px) (v : Rt) (b : Bool) (r : T) (o : Int) : bodyR env (recP env N [pnO1 c k x v true, pnO2 c k x v true, pnO3 c k x v true r, pnO4 c k x v b r o]) N 32 8 2 (sOl2 c k x v (T.agg [i64 0, i64 0, i64 0, i64 0, i64 0, i64 0]) 0) = chkP ([PV.ptr 0 0, PV.ptr 1 0, PV.ptr 2 0, PV.ptr 3 0, PV.ptr 5 0] = [PV.ptr 0 0, PV.ptr 1 0, PV.ptr 2 0, PV.ptr 3 0, PV.ptr 5 0] ∧ [AObj.box 25 6 (PV.t c.t), AObj.box 3 1 (PV.t (i64 k)), AObj.box 27 2 (PV.t x.t), AObj.box 34 6 (PV.t v.t), AObj.box 30 4 (PV.agg [PV.t (i64 0), PV.own 8, PV.t (i64 0), PV.t (i64 0)]), AObj.box 54 6 (PV.t (T.agg [i64 0, i64 0, i64 0, i64 0, i64 0, i64 0])), AObj.box 30 4 (PV.agg [PV.t (i64 v.p.o), PV.own 9, PV.t (i64 c.d), PV.t (i64 0)]), AObj.vec 31 [PV.fn 44 [] [PV.ptr 0 0, PV.ptr 1 0, PV.ptr 2 0, PV.ptr 3 0], PV.fn 45 [] [PV.ptr 3 0, PV.ptr 1 0, PV.ptr 0 0], PV.fn 46 [] [PV.ptr 0 0, PV.ptr 1 0, PV.ptr 2 0, PV.ptr 3 0, PV.ptr 5 0], PV.fn 47 [] [PV.ptr 0 0, PV.ptr 1 0, PV.ptr 3 0, PV.ptr 6 0], PV.fn 49 [] [PV.ptr 0 0, PV.ptr 5 0, PV.ptr 3 0, PV.ptr 6 0]], AObj.row 3 1 [], AObj.row 3 1 []] = [AObj.box 25 6 (PV.t c.t), AObj.box 3 1 (PV.t (i64 k)), AObj.box 27 2 (PV.t x.t), AObj.box 34 6 (PV.t v.t), AObj.box 30 4 (PV.agg [PV.t (i64 0), PV.own 8, PV.t (i64 0), PV.t (i64 0)]), AObj.box 54 6 (PV.t (T.agg [i64 0, i64 0, i64 0, i64 0, i64 0, i64 0])), AObj.box 30 4 (PV.agg [PV.t (i64 v.p.o), PV.own 9, PV.t (i64 c.d), PV.t (i64 0)]), AObj.vec 31 [PV.fn 44 [] [PV.ptr 0 0, PV.ptr 1 0, PV.ptr 2 0, PV.ptr 3 0], PV.fn 45 [] [PV.ptr 3 0, PV.ptr 1 0, PV.ptr 0 0], PV.fn 46 [] [PV.ptr 0 0, PV.ptr 1 0, PV.ptr 2 0, PV.ptr 3 0, PV.ptr 5 0], PV.fn 47 [] [PV.ptr 0 0, PV.ptr 1 0, PV.ptr 3 0, PV.ptr 6 0], PV.fn 49 [] [PV.ptr 0 0, PV.ptr 5 0, PV.ptr 3 0, PV.ptr 6 0]], AObj.row 3 1 [], AObj.row 3 1 []]) (Res.ok (Ex.norm, { tmps := slots 15 [(5, PV.own 7), (6, PV.t (i64 5)), (7, PV.t (i64 3))], heap := [AObj.box 25 6 (PV.t c.t), AObj.box 3 1 (PV.t (i64 k)), AObj.box 27 2 (PV.t x.t), AObj.box 34 6 (PV.t v.t), AObj.box 30 4 (PV.agg [PV.t (i64 0), PV.own 8, PV.t (i64 0), PV.t (i64 0)]), AObj.box 54 6 (PV.t r), AObj.box 30 4 (PV.agg [PV.t (i64 v.p.o), PV.own 9, PV.t (i64 c.d), PV.t (i64 0)]), AObj.vec 31 [PV.fn 44 [] [PV.ptr 0 0, PV.ptr 1 0, PV.ptr 2 0, PV.ptr 3 0], PV.fn 45 [] [PV.ptr 3 0, PV.ptr 1 0, PV.ptr 0 0], PV.fn 46 [] [PV.ptr 0 0, PV.ptr 1 0, PV.ptr 2 0, PV.ptr 3 0, PV.ptr 5 0], PV.fn 47 [] [PV.ptr 0 0, PV.ptr 1 0, PV.ptr 3 0, PV.ptr 6 0], PV.fn 49 [] [PV.ptr 0 0, PV.ptr 5 0, PV.ptr 3 0, PV.ptr 6 0]], AObj.row 3 1 [], AObj.row 3 1 []] })) := by kernel_rfl
theorem opkb32_2_10 (N : Nat) (c : Cf) (k : Int) (x : Px) (v : Rt) (b : Bool) (r : T) (o : Int) : bodyR env (recP env N [pnO1 c k x v true, pnO2 c k x v true, pnO3 c k x v true r, pnO4 c k x v b r o]) N 32 8 2 (sOl3 c k x v r 0) = chkP ([PV.ptr 0 0, PV.ptr 1 0, PV.ptr 3 0, PV.ptr 6 0] = [PV.ptr 0 0, PV.ptr 1 0, PV.ptr 3 0, PV.ptr 6 0] ∧ [AObj.box 25 6 (PV.t c.t), AObj.box 3 1 (PV.t (i64 k)), AObj.box 27 2 (PV.t x.t), AObj.box 34 6 (PV.t v.t), AObj.box 30 4 (PV.agg [PV.t (i64 0), PV.own 8, PV.t (i64 0), PV.t (i64 0)]), AObj.box 54 6 (PV.t r), AObj.box 30 4 (PV.agg [PV.t (i64 v.p.o), PV.own 9, PV.t (i64 c.d), PV.t (i64 0)]), AObj.vec 31 [PV.fn 44 [] [PV.ptr 0 0, PV.ptr 1 0, PV.ptr 2 0, PV.ptr 3 0], PV.fn 45 [] [PV.ptr 3 0, PV.ptr 1 0, PV.ptr 0 0], PV.fn 46 [] [PV.ptr 0 0, PV.ptr 1 0, PV.ptr 2 0, PV.ptr 3 0, PV.ptr 5 0], PV.fn 47 [] [PV.ptr 0 0, PV.ptr 1 0, PV.ptr 3 0, PV.ptr 6 0], PV.fn 49 [] [PV.ptr 0 0, PV.ptr 5 0, PV.ptr 3 0, PV.ptr 6 0]], AObj.row 3 1 [], AObj.row 3 1 []] = [AObj.box 25 6 (PV.t c.t), AObj.box 3 1 (PV.t (i64 k)), AObj.box 27 2 (PV.t x.t), AObj.box 34 6 (PV.t v.t), AObj.box 30 4 (PV.agg [PV.t (i64 0), PV.own 8, PV.t (i64 0), PV.t (i64 0)]), AObj.box 54 6 (PV.t r), AObj.box 30 4 (PV.agg [PV.t (i64 v.p.o), PV.own 9, PV.t (i64 c.d), PV.t (i64 0)]), AObj.vec 31 [PV.fn 44 [] [PV.ptr 0 0, PV.ptr 1 0, PV.ptr 2 0, PV.ptr 3 0], PV.fn 45 [] [PV.ptr 3 0, PV.ptr 1 0, PV.ptr 0 0], PV.fn 46 [] [PV.ptr 0 0, PV.ptr 1 0, PV.ptr 2 0, PV.ptr 3 0, PV.ptr 5 0], PV.fn 47 [] [PV.ptr 0 0, PV.ptr 1 0, PV.ptr 3 0, PV.ptr 6 0], PV.fn 49 [] [PV.ptr 0 0, PV.ptr 5 0, PV.ptr 3 0, PV.ptr 6 0]], AObj.row 3 1 [], AObj.row 3 1 []]) (bif !b then Res.ok (Ex.ret, { tmps := slots 15 [(2, PV.t (T.bool false))], heap := [AObj.box 25 6 (PV.t c.t), AObj.box 3 1 (PV.t (i64 k)), AObj.box 27 2 (PV.t x.t), AObj.box 34 6 (PV.t v.t), AObj.box 30 4 (PV.agg [PV.t (i64 0), PV.own 8, PV.t (i64 0), PV.t (i64 0)]), AObj.box 54 6 (PV.t r), AObj.box 30 4 (PV.agg [PV.t (i64 v.p.o), PV.own 9, PV.t (i64 c.d), PV.t (i64 o)]), AObj.vec 31 [PV.fn 44 [] [PV.ptr 0 0, PV.ptr 1 0, PV.ptr 2 0, PV.ptr 3 0], PV.fn 45 [] [PV.ptr 3 0, PV.ptr 1 0, PV.ptr 0 0], PV.fn 46 [] [PV.ptr 0 0, PV.ptr 1 0, PV.ptr 2 0, PV.ptr 3 0, PV.ptr 5 0], PV.fn 47 [] [PV.ptr 0 0, PV.ptr 1 0, PV.ptr 3 0, PV.ptr 6 0], PV.fn 49 [] [PV.ptr 0 0, PV.ptr 5 0, PV.ptr 3 0, PV.ptr 6 0]], AObj.row 3 1 [], AObj.row 3 1 []] }) else Res.ok (Ex.norm, { tmps := slots 15 [(5, PV.own 7), (6, PV.t (i64 5)), (7, PV.t (i64 4))], heap := [AObj.box 25 6 (PV.t c.t), AObj.box 3 1 (PV.t (i64 k)), AObj.box 27 2 (PV.t x.t), AObj.box 34 6 (PV.t v.t), AObj.box 30 4 (PV.agg [PV.t (i64 0), PV.own 8, PV.t (i64 0), PV.t (i64 0)]), AObj.box 54 6 (PV.t r), AObj.box 30 4 (PV.agg [PV.t (i64 v.p.o), PV.own 9, PV.t (i64 c.d), PV.t (i64 o)]), AObj.vec 31 [PV.fn 44 [] [PV.ptr 0 0, PV.ptr 1 0, PV.ptr 2 0, PV.ptr 3 0], PV.fn 45 [] [PV.ptr 3 0, PV.ptr 1 0, PV.ptr 0 0], PV.fn 46 [] [PV.ptr 0 0, PV.ptr 1 0, PV.ptr 2 0, PV.ptr 3 0, PV.ptr 5 0], PV.fn 47 [] [PV.ptr 0 0, PV.ptr 1 0, PV.ptr 3 0, PV.ptr 6 0], PV.fn 49 [] [PV.ptr 0 0, PV.ptr 5 0, PV.ptr 3 0, PV.ptr 6 0]], AObj.row 3 1 [], AObj.row 3 1 []] })) := by kernel_rfl
theorem opkt32_2_ret_4 (N : Nat) (c : Cf) (k : Int) (x : Px) (v : Rt) (b : Bool) (r : T) (o : Int) (H : List AObj) {β : Type} (K : PV → List AObj → Res β) : tailR env (recP env N [pnO1 c k x v true, pnO2 c k x v true, pnO3 c k x v true r, pnO4 c k x v b r o]) N 32 8 2 K (.ret) (⟨slots 15 [(2, .t (.bool false))], H⟩) = K (PV.t (T.bool false)) H := by kernel_rfl
theorem opk32_5 (N : Nat) (c : Cf) (k : Int) (x : Px) (v : Rt) (b : Bool) (r : T) (o : Int) (s : T) (f : List T) {β : Type} (K : PV → List AObj → Res β) : funK env (recP env N [pnO1 c k x v true, pnO2 c k x v true, pnO3 c k x v true r, pnO4 c k x v true r o, pnO5 c k x v b r o s f]) N 32 [.own 7] [.box 25 6 (.t c.t), .box 3 1 (.t (i64 k)), .box 27 2 (.t x.t), .box 34 6 (.t v.t), .box 30 4 (.agg [.t (i64 0), .nil 3 1, .t (i64 0), .t (i64 0)]), .box 54 6 (.t (T.agg [i64 0, i64 0, i64 0, i64 0, i64 0, i64 0])), .box 30 4 (.agg [.t (i64 v.p.o), .nil 3 1, .t (i64 c.d), .t (i64 0)]), .vec 31 outV] K = loopR env (recP env N [pnO1 c k x v true, pnO2 c k x v true, pnO3 c k x v true r, pnO4 c k x v true r o, pnO5 c k x v b r o s f]) N 32 8 2 K { tmps := slots 15 [(5, PV.own 7), (6, PV.t (i64 5)), (7, PV.t (i64 0))], heap := [AObj.box 25 6 (PV.t c.t), AObj.box 3 1 (PV.t (i64 k)), AObj.box 27 2 (PV.t x.t), AObj.box 34 6 (PV.t v.t), AObj.box 30 4 (PV.agg [PV.t (i64 0), PV.own 8, PV.t (i64 0), PV.t (i64 0)]), AObj.box 54 6 (PV.t (T.agg [i64 0, i64 0, i64 0, i64 0, i64 0, i64 0])), AObj.box 30 4 (PV.agg [PV.t (i64 v.p.o), PV.own 9, PV.t (i64 c.d), PV.t (i64 0)]), AObj.vec 31 [PV.fn 44 [] [PV.ptr 0 0, PV.ptr 1 0, PV.ptr 2 0, PV.ptr 3 0], PV.fn 45 [] [PV.ptr 3 0, PV.ptr 1 0, PV.ptr 0 0], PV.fn 46 [] [PV.ptr 0 0, PV.ptr 1 0, PV.ptr 2 0, PV.ptr 3 0, PV.ptr 5 0], PV.fn 47 [] [PV.ptr 0 0, PV.ptr 1 0, PV.ptr 3 0, PV.ptr 6 0], PV.fn 49 [] [PV.ptr 0 0, PV.ptr 5 0, PV.ptr 3 0, PV.ptr 6 0]], AObj.row 3 1 [], AObj.row 3 1 []] } := by kernel_rfl
theorem opkb32_2_11 (N : Nat) (c : Cf) (k : Int) (x : Px) (v : Rt) (b : Bool) (r : T) (o : Int) (s : T) (f : List T) : bodyR env (recP env N [pnO1 c k x v true, pnO2 c k x v true, pnO3 c k x v true r, pnO4 c k x v true r o, pnO5 c k x v b r o s f]) N 32 8 2 (sOl0 c k x v (T.agg [i64 0, i64 0, i64 0, i64 0, i64 0, i64 0]) 0) = chkP ([PV.ptr 0 0, PV.ptr 1 0, PV.ptr 2 0, PV.ptr 3 0] = [PV.ptr 0 0, PV.ptr 1 0, PV.ptr 2 0, PV.ptr 3 0] ∧ [AObj.box 25 6 (PV.t c.t), AObj.box 3 1 (PV.t (i64 k)), AObj.box 27 2 (PV.t x.t), AObj.box 34 6 (PV.t v.t), AObj.box 30 4 (PV.agg [PV.t (i64 0), PV.own 8, PV.t (i64 0), PV.t (i64 0)]), AObj.box 54 6 (PV.t (T.agg [i64 0, i64 0, i64 0, i64 0, i64 0, i64 0])), AObj.box 30 4 (PV.agg [PV.t (i64 v.p.o), PV.own 9, PV.t (i64 c.d), PV.t (i64 0)]), AObj.vec 31 [PV.fn 44 [] [PV.ptr 0 0, PV.ptr 1 0, PV.ptr 2 0, PV.ptr 3 0], PV.fn 45 [] [PV.ptr 3 0, PV.ptr 1 0, PV.ptr 0 0], PV.fn 46 [] [PV.ptr 0 0, PV.ptr 1 0, PV.ptr 2 0, PV.ptr 3 0, PV.ptr 5 0], PV.fn 47 [] [PV.ptr 0 0, PV.ptr 1 0, PV.ptr 3 0, PV.ptr 6 0], PV.fn 49 [] [PV.ptr 0 0, PV.ptr 5 0, PV.ptr 3 0, PV.ptr 6 0]], AObj.row 3 1 [], AObj.row 3 1 []] = [AObj.box 25 6 (PV.t c.t), AObj.box 3 1 (PV.t (i64 k)), AObj.box 27 2 (PV.t x.t), AObj.box 34 6 (PV.t v.t), AObj.box 30 4 (PV.agg [PV.t (i64 0), PV.own 8, PV.t (i64 0), PV.t (i64 0)]), AObj.box 54 6 (PV.t (T.agg [i64 0, i64 0, i64 0, i64 0, i64 0, i64 0])), AObj.box 30 4 (PV.agg [PV.t (i64 v.p.o), PV.own 9, PV.t (i64 c.d), PV.t (i64 0)]), AObj.vec 31 [PV.fn 44 [] [PV.ptr 0 0, PV.ptr 1 0, PV.ptr 2 0, PV.ptr 3 0], PV.fn 45 [] [PV.ptr 3 0, PV.ptr 1 0, PV.ptr 0 0], PV.fn 46 [] [PV.ptr 0 0, PV.ptr 1 0, PV.ptr 2 0, PV.ptr 3 0, PV.ptr 5 0], PV.fn 47 [] [PV.ptr 0 0, PV.ptr 1 0, PV.ptr 3 0, PV.ptr 6 0], PV.fn 49 [] [PV.ptr 0 0, PV.ptr 5 0, PV.ptr 3 0, PV.ptr 6 0]], AObj.row 3 1 [], AObj.row 3 1 []]) (Res.ok (Ex.norm, { tmps := slots 15 [(5, PV.own 7), (6, PV.t (i64 5)), (7, PV.t (i64 1))], heap := [AObj.box 25 6 (PV.t c.t), AObj.box 3 1 (PV.t (i64 k)), AObj.box 27 2 (PV.t x.t), AObj.box 34 6 (PV.t v.t), AObj.box 30 4 (PV.agg [PV.t (i64 0), PV.own 8, PV.t (i64 0), PV.t (i64 0)]), AObj.box 54 6 (PV.t (T.agg [i64 0, i64 0, i64 0, i64 0, i64 0, i64 0])), AObj.box 30 4 (PV.agg [PV.t (i64 v.p.o), PV.own 9, PV.t (i64 c.d), PV.t (i64 0)]), AObj.vec 31 [PV.fn 44 [] [PV.ptr 0 0, PV.ptr 1 0, PV.ptr 2 0, PV.ptr 3 0], PV.fn 45 [] [PV.ptr 3 0, PV.ptr 1 0, PV.ptr 0 0], PV.fn 46 [] [PV.ptr 0 0, PV.ptr 1 0, PV.ptr 2 0, PV.ptr 3 0, PV.ptr 5 0], PV.fn 47 [] [PV.ptr 0 0, PV.ptr 1 0, PV.ptr 3 0, PV.ptr 6 0], PV.fn 49 [] [PV.ptr 0 0, PV.ptr 5 0, PV.ptr 3 0, PV.ptr 6 0]], AObj.row 3 1 [], AObj.row 3 1 []] })) := by kernel_rfl
theorem opkb32_2_12 (N : Nat) (c : Cf) (k : Int) (x : Px) (v : Rt) (b : Bool) (r : T) (o : Int) (s : T) (f : List T) : bodyR env (recP env N [pnO1 c k x v true, pnO2 c k x v true, pnO3 c k x v true r, pnO4 c k x v true r o, pnO5 c k x v b r o s f]) N 32 8 2 (sOl1 c k x v (T.agg [i64 0, i64 0, i64 0, i64 0, i64 0, i64 0]) 0) = chkP ([PV.ptr 3 0, PV.ptr 1 0, PV.ptr 0 0] = [PV.ptr 3 0, PV.ptr 1 0, PV.ptr 0 0] ∧ [AObj.box 25 6 (PV.t c.t), AObj.box 3 1 (PV.t (i64 k)), AObj.box 27 2 (PV.t x.t), AObj.box 34 6 (PV.t v.t), AObj.box 30 4 (PV.agg [PV.t (i64 0), PV.own 8, PV.t (i64 0), PV.t (i64 0)]), AObj.box 54 6 (PV.t (T.agg [i64 0, i64 0, i64 0, i64 0, i64 0, i64 0])), AObj.box 30 4 (PV.agg [PV.t (i64 v.p.o), PV.own 9, PV.t (i64 c.d), PV.t (i64 0)]), AObj.vec 31 [PV.fn 44 [] [PV.ptr 0 0, PV.ptr 1 0, PV.ptr 2 0, PV.ptr 3 0], PV.fn 45 [] [PV.ptr 3 0, PV.ptr 1 0, PV.ptr 0 0], PV.fn 46 [] [PV.ptr 0 0, PV.ptr 1 0, PV.ptr 2 0, PV.ptr 3 0, PV.ptr 5 0], PV.fn 47 [] [PV.ptr 0 0, PV.ptr 1 0, PV.ptr 3 0, PV.ptr 6 0], PV.fn 49 [] [PV.ptr 0 0, PV.ptr 5 0, PV.ptr 3 0, PV.ptr 6 0]], AObj.row 3 1 [], AObj.row 3 1 []] = [AObj.box 25 6 (PV.t c.t), AObj.box 3 1 (PV.t (i64 k)), AObj.box 27 2 (PV.t x.t), AObj.box 34 6 (PV.t v.t), AObj.box 30 4 (PV.agg [PV.t (i64 0), PV.own 8, PV.t (i64 0), PV.t (i64 0)]), AObj.box 54 6 (PV.t (T.agg [i64 0, i64 0, i64 0, i64 0, i64 0, i64 0])), AObj.box 30 4 (PV.agg [PV.t (i64 v.p.o), PV.own 9, PV.t (i64 c.d), PV.t (i64 0)]), AObj.vec 31 [PV.fn 44 [] [PV.ptr 0 0, PV.ptr 1 0, PV.ptr 2 0, PV.ptr 3 0], PV.fn 45 [] [PV.ptr 3 0, PV.ptr 1 0, PV.ptr 0 0], PV.fn 46 [] [PV.ptr 0 0, PV.ptr 1 0, PV.ptr 2 0, PV.ptr 3 0, PV.ptr 5 0], PV.fn 47 [] [PV.ptr 0 0, PV.ptr 1 0, PV.ptr 3 0, PV.ptr 6 0], PV.fn 49 [] [PV.ptr 0 0, PV.ptr 5 0, PV.ptr 3 0, PV.ptr 6 0]], AObj.row 3 1 [], AObj.row 3 1 []]) (Res.ok (Ex.norm, { tmps := slots 15 [(5, PV.own 7), (6, PV.t (i64 5)), (7, PV.t (i64 2))], heap := [AObj.box 25 6 (PV.t c.t), AObj.box 3 1 (PV.t (i64 k)), AObj.box 27 2 (PV.t x.t), AObj.box 34 6 (PV.t v.t), AObj.box 30 4 (PV.agg [PV.t (i64 0), PV.own 8, PV.t (i64 0), PV.t (i64 0)]), AObj.box 54 6 (PV.t (T.agg [i64 0, i64 0, i64 0, i64 0, i64 0, i64 0])), AObj.box 30 4 (PV.agg [PV.t (i64 v.p.o), PV.own 9, PV.t (i64 c.d), PV.t (i64 0)]), AObj.vec 31 [PV.fn 44 [] [PV.ptr 0 0, PV.ptr 1 0, PV.ptr 2 0, PV.ptr 3 0], PV.fn 45 [] [PV.ptr 3 0, PV.ptr 1 0, PV.ptr 0 0], PV.fn 46 [] [PV.ptr 0 0, PV.ptr 1 0, PV.ptr 2 0, PV.ptr 3 0, PV.ptr 5 0], PV.fn 47 [] [PV.ptr 0 0, PV.ptr 1 0, PV.ptr 3 0, PV.ptr 6 0], PV.fn 49 [] [PV.ptr 0 0, PV.ptr 5 0, PV.ptr 3 0, PV.ptr 6 0]], AObj.row 3 1 [], AObj.row 3 1 []] })) := by kernel_rfl
theorem opkb32_2_13 (N : Nat) (c : Cf) (k : Int) (x : Px) (v : Rt) (b : Bool) (r : T) (o : Int) (s : T) (f : List T) : bodyR env (recP env N [pnO1 c k x v true, pnO2 c k x v true, pnO3 c k x v true r, pnO4 c k x v true r o, pnO5 c k x v b r o s f]) N 32 8 2 (sOl2 c k x v (T.agg [i64 0, i64 0, i64 0, i64 0, i64 0, i64 0]) 0) = chkP ([PV.ptr 0 0, PV.ptr 1 0, PV.ptr 2 0, PV.ptr 3 0, PV.ptr 5 0] = [PV.ptr 0 0, PV.ptr 1 0, PV.ptr 2 0, PV.ptr 3 0, PV.ptr 5 0] ∧ [AObj.box 25 6 (PV.t c.t), AObj.box 3 1 (PV.t (i64 k)), AObj.box 27 2 (PV.t x.t), AObj.box 34 6 (PV.t v.t), AObj.box 30 4 (PV.agg [PV.t (i64 0), PV.own 8, PV.t (i64 0), PV.t (i64 0)]), AObj.box 54 6 (PV.t (T.agg [i64 0, i64 0, i64 0, i64 0, i64 0, i64 0])), AObj.box 30 4 (PV.agg [PV.t (i64 v.p.o), PV.own 9, PV.t (i64 c.d), PV.t (i64 0)]), AObj.vec 31 [PV.fn 44 [] [PV.ptr 0 0, PV.ptr 1 0, PV.ptr 2 0, PV.ptr 3 0], PV.fn 45 [] [PV.ptr 3 0, PV.ptr 1 0, PV.ptr 0 0], PV.fn 46 [] [PV.ptr 0 0, PV.ptr 1 0, PV.ptr 2 0, PV.ptr 3 0, PV.ptr 5 0], PV.fn 47 [] [PV.ptr 0 0, PV.ptr 1 0, PV.ptr 3 0, PV.ptr 6 0], PV.fn 49 [] [PV.ptr 0 0, PV.ptr 5 0, PV.ptr 3 0, PV.ptr 6 0]], AObj.row 3 1 [], AObj.row 3 1 []] = [AObj.box 25 6 (PV.t c.t), AObj.box 3 1 (PV.t (i64 k)), AObj.box 27 2 (PV.t x.t), AObj.box 34 6 (PV.t v.t), AObj.box 30 4 (PV.agg [PV.t (i64 0), PV.own 8, PV.t (i64 0), PV.t (i64 0)]), AObj.box 54 6 (PV.t (T.agg [i64 0, i64 0, i64 0, i64 0, i64 0, i64 0])), AObj.box 30 4 (PV.agg [PV.t (i64 v.p.o), PV.own 9, PV.t (i64 c.d), PV.t (i64 0)]), AObj.vec 31 [PV.fn 44 [] [PV.ptr 0 0, PV.ptr 1 0, PV.ptr 2 0, PV.ptr 3 0], PV.fn 45 [] [PV.ptr 3 0, PV.ptr 1 0, PV.ptr 0 0], PV.fn 46 [] [PV.ptr 0 0, PV.ptr 1 0, PV.ptr 2 0, PV.ptr 3 0, PV.ptr 5 0], PV.fn 47 [] [PV.ptr 0 0, PV.ptr 1 0, PV.ptr 3 0, PV.ptr 6 0], PV.fn 49 [] [PV.ptr 0 0, PV.ptr 5 0, PV.ptr 3 0, PV.ptr 6 0]], AObj.row 3 1 [], AObj.row 3 1 []]) (Res.ok (Ex.norm, { tmps := slots 15 [(5, PV.own 7), (6, PV.t (i64 5)), (7, PV.t (i64 3))], heap := [AObj.box 25 6 (PV.t c.t), AObj.box 3 1 (PV.t (i64 k)), AObj.box 27 2 (PV.t x.t), AObj.box 34 6 (PV.t v.t), AObj.box 30 4 (PV.agg [PV.t (i64 0), PV.own 8, PV.t (i64 0), PV.t (i64 0)]), AObj.box 54 6 (PV.t r), AObj.box 30 4 (PV.agg [PV.t (i64 v.p.o), PV.own 9, PV.t (i64 c.d), PV.t (i64 0)]), AObj.vec 31 [PV.fn 44 [] [PV.ptr 0 0, PV.ptr 1 0, PV.ptr 2 0, PV.ptr 3 0], PV.fn 45 [] [PV.ptr 3 0, PV.ptr 1 0, PV.ptr 0 0], PV.fn 46 [] [PV.ptr 0 0, PV.ptr 1 0, PV.ptr 2 0, PV.ptr 3 0, PV.ptr 5 0], PV.fn 47 [] [PV.ptr 0 0, PV.ptr 1 0, PV.ptr 3 0, PV.ptr 6 0], PV.fn 49 [] [PV.ptr 0 0, PV.ptr 5 0, PV.ptr 3 0, PV.ptr 6 0]], AObj.row 3 1 [], AObj.row 3 1 []] })) := by kernel_rfl
theorem opkb32_2_14 (N : Nat) (c : Cf) (k : Int) (x : Px) (v : Rt) (b : Bool) (r : T) (o : Int) (s : T) (f : List T) : bodyR env (recP env N [pnO1 c k x v true, pnO2 c k x v true, pnO3 c k x v true r, pnO4 c k x v true r o, pnO5 c k x v b r o s f]) N 32 8 2 (sOl3 c k x v r 0) = chkP ([PV.ptr 0 0, PV.ptr 1 0, PV.ptr 3 0, PV.ptr 6 0] = [PV.ptr 0 0, PV.ptr 1 0, PV.ptr 3 0, PV.ptr 6 0] ∧ [AObj.box 25 6 (PV.t c.t), AObj.box 3 1 (PV.t (i64 k)), AObj.box 27 2 (PV.t x.t), AObj.box 34 6 (PV.t v.t), AObj.box 30 4 (PV.agg [PV.t (i64 0), PV.own 8, PV.t (i64 0), PV.t (i64 0)]), AObj.box 54 6 (PV.t r), AObj.box 30 4 (PV.agg [PV.t (i64 v.p.o), PV.own 9, PV.t (i64 c.d), PV.t (i64 0)]), AObj.vec 31 [PV.fn 44 [] [PV.ptr 0 0, PV.ptr 1 0, PV.ptr 2 0, PV.ptr 3 0], PV.fn 45 [] [PV.ptr 3 0, PV.ptr 1 0, PV.ptr 0 0], PV.fn 46 [] [PV.ptr 0 0, PV.ptr 1 0, PV.ptr 2 0, PV.ptr 3 0, PV.ptr 5 0], PV.fn 47 [] [PV.ptr 0 0, PV.ptr 1 0, PV.ptr 3 0, PV.ptr 6 0], PV.fn 49 [] [PV.ptr 0 0, PV.ptr 5 0, PV.ptr 3 0, PV.ptr 6 0]], AObj.row 3 1 [], AObj.row 3 1 []] = [AObj.box 25 6 (PV.t c.t), AObj.box 3 1 (PV.t (i64 k)), AObj.box 27 2 (PV.t x.t), AObj.box 34 6 (PV.t v.t), AObj.box 30 4 (PV.agg [PV.t (i64 0), PV.own 8, PV.t (i64 0), PV.t (i64 0)]), AObj.box 54 6 (PV.t r), AObj.box 30 4 (PV.agg [PV.t (i64 v.p.o), PV.own 9, PV.t (i64 c.d), PV.t (i64 0)]), AObj.vec 31 [PV.fn 44 [] [PV.ptr 0 0, PV.ptr 1 0, PV.ptr 2 0, PV.ptr 3 0], PV.fn 45 [] [PV.ptr 3 0, PV.ptr 1 0, PV.ptr 0 0], PV.fn 46 [] [PV.ptr 0 0, PV.ptr 1 0, PV.ptr 2 0, PV.ptr 3 0, PV.ptr 5 0], PV.fn 47 [] [PV.ptr 0 0, PV.ptr 1 0, PV.ptr 3 0, PV.ptr 6 0], PV.fn 49 [] [PV.ptr 0 0, PV.ptr 5 0, PV.ptr 3 0, PV.ptr 6 0]], AObj.row 3 1 [], AObj.row 3 1 []]) (Res.ok (Ex.norm, { tmps := slots 15 [(5, PV.own 7), (6, PV.t (i64 5)), (7, PV.t (i64 4))], heap := [AObj.box 25 6 (PV.t c.t), AObj.box 3 1 (PV.t (i64 k)), AObj.box 27 2 (PV.t x.t), AObj.box 34 6 (PV.t v.t), AObj.box 30 4 (PV.agg [PV.t (i64 0), PV.own 8, PV.t (i64 0), PV.t (i64 0)]), AObj.box 54 6 (PV.t r), AObj.box 30 4 (PV.agg [PV.t (i64 v.p.o), PV.own 9, PV.t (i64 c.d), PV.t (i64 o)]), AObj.vec 31 [PV.fn 44 [] [PV.ptr 0 0, PV.ptr 1 0, PV.ptr 2 0, PV.ptr 3 0], PV.fn 45 [] [PV.ptr 3 0, PV.ptr 1 0, PV.ptr 0 0], PV.fn 46 [] [PV.ptr 0 0, PV.ptr 1 0, PV.ptr 2 0, PV.ptr 3 0, PV.ptr 5 0], PV.fn 47 [] [PV.ptr 0 0, PV.ptr 1 0, PV.ptr 3 0, PV.ptr 6 0], PV.fn 49 [] [PV.ptr 0 0, PV.ptr 5 0, PV.ptr 3 0, PV.ptr 6 0]], AObj.row 3 1 [], AObj.row 3 1 []] })) := by kernel_rfl
theorem opkb32_2_15 (N : Nat) (c : Cf) (k : Int) (x : Px) (v : Rt) (b : Bool) (r : T) (o : Int) (s : T) (f : List T) : bodyR env (recP env N [pnO1 c k x v true, pnO2 c k x v true, pnO3 c k x v true r, pnO4 c k x v true r o, pnO5 c k x v b r o s f]) N 32 8 2 (sOl4 c k x v r o) = chkP ([PV.ptr 0 0, PV.ptr 5 0, PV.ptr 3 0, PV.ptr 6 0] = [PV.ptr 0 0, PV.ptr 5 0, PV.ptr 3 0, PV.ptr 6 0] ∧ [AObj.box 25 6 (PV.t c.t), AObj.box 3 1 (PV.t (i64 k)), AObj.box 27 2 (PV.t x.t), AObj.box 34 6 (PV.t v.t), AObj.box 30 4 (PV.agg [PV.t (i64 0), PV.own 8, PV.t (i64 0), PV.t (i64 0)]), AObj.box 54 6 (PV.t r), AObj.box 30 4 (PV.agg [PV.t (i64 v.p.o), PV.own 9, PV.t (i64 c.d), PV.t (i64 o)]), AObj.vec 31 [PV.fn 44 [] [PV.ptr 0 0, PV.ptr 1 0, PV.ptr 2 0, PV.ptr 3 0], PV.fn 45 [] [PV.ptr 3 0, PV.ptr 1 0, PV.ptr 0 0], PV.fn 46 [] [PV.ptr 0 0, PV.ptr 1 0, PV.ptr 2 0, PV.ptr 3 0, PV.ptr 5 0], PV.fn 47 [] [PV.ptr 0 0, PV.ptr 1 0, PV.ptr 3 0, PV.ptr 6 0], PV.fn 49 [] [PV.ptr 0 0, PV.ptr 5 0, PV.ptr 3 0, PV.ptr 6 0]], AObj.row 3 1 [], AObj.row 3 1 []] = [AObj.box 25 6 (PV.t c.t), AObj.box 3 1 (PV.t (i64 k)), AObj.box 27 2 (PV.t x.t), AObj.box 34 6 (PV.t v.t), AObj.box 30 4 (PV.agg [PV.t (i64 0), PV.own 8, PV.t (i64 0), PV.t (i64 0)]), AObj.box 54 6 (PV.t r), AObj.box 30 4 (PV.agg [PV.t (i64 v.p.o), PV.own 9, PV.t (i64 c.d), PV.t (i64 o)]), AObj.vec 31 [PV.fn 44 [] [PV.ptr 0 0, PV.ptr 1 0, PV.ptr 2 0, PV.ptr 3 0], PV.fn 45 [] [PV.ptr 3 0, PV.ptr 1 0, PV.ptr 0 0], PV.fn 46 [] [PV.ptr 0 0, PV.ptr 1 0, PV.ptr 2 0, PV.ptr 3 0, PV.ptr 5 0], PV.fn 47 [] [PV.ptr 0 0, PV.ptr 1 0, PV.ptr 3 0, PV.ptr 6 0], PV.fn 49 [] [PV.ptr 0 0, PV.ptr 5 0, PV.ptr 3 0, PV.ptr 6 0]], AObj.row 3 1 [], AObj.row 3 1 []]) (bif !b then Res.ok (Ex.ret, { tmps := slots 15 [(2, PV.t (T.bool false))], heap := [AObj.box 25 6 (PV.t c.t), AObj.box 3 1 (PV.t (i64 k)), AObj.box 27 2 (PV.t x.t), AObj.box 34 6 (PV.t v.t), AObj.box 30 4 (PV.agg [PV.t (i64 0), PV.own 8, PV.t (i64 0), PV.t (i64 0)]), AObj.box 54 6 (PV.t r), AObj.box 30 4 (PV.t (T.agg [i64 v.p.o, s, i64 c.d, i64 o])), AObj.vec 31 [PV.fn 44 [] [PV.ptr 0 0, PV.ptr 1 0, PV.ptr 2 0, PV.ptr 3 0], PV.fn 45 [] [PV.ptr 3 0, PV.ptr 1 0, PV.ptr 0 0], PV.fn 46 [] [PV.ptr 0 0, PV.ptr 1 0, PV.ptr 2 0, PV.ptr 3 0, PV.ptr 5 0], PV.fn 47 [] [PV.ptr 0 0, PV.ptr 1 0, PV.ptr 3 0, PV.ptr 6 0], PV.fn 49 [] [PV.ptr 0 0, PV.ptr 5 0, PV.ptr 3 0, PV.ptr 6 0]], AObj.row 3 1 [], AObj.row 3 1 [], AObj.frow 28 1 f] }) else Res.ok (Ex.norm, { tmps := slots 15 [(5, PV.own 7), (6, PV.t (i64 5)), (7, PV.t (i64 5))], heap := [AObj.box 25 6 (PV.t c.t), AObj.box 3 1 (PV.t (i64 k)), AObj.box 27 2 (PV.t x.t), AObj.box 34 6 (PV.t v.t), AObj.box 30 4 (PV.agg [PV.t (i64 0), PV.own 8, PV.t (i64 0), PV.t (i64 0)]), AObj.box 54 6 (PV.t r), AObj.box 30 4 (PV.t (T.agg [i64 v.p.o, s, i64 c.d, i64 o])), AObj.vec 31 [PV.fn 44 [] [PV.ptr 0 0, PV.ptr 1 0, PV.ptr 2 0, PV.ptr 3 0], PV.fn 45 [] [PV.ptr 3 0, PV.ptr 1 0, PV.ptr 0 0], PV.fn 46 [] [PV.ptr 0 0, PV.ptr 1 0, PV.ptr 2 0, PV.ptr 3 0, PV.ptr 5 0], PV.fn 47 [] [PV.ptr 0 0, PV.ptr 1 0, PV.ptr 3 0, PV.ptr 6 0], PV.fn 49 [] [PV.ptr 0 0, PV.ptr 5 0, PV.ptr 3 0, PV.ptr 6 0]], AObj.row 3 1 [], AObj.row 3 1 [], AObj.frow 28 1 f] })) := by kernel_rfl
theorem opkb32_2_16 (N : Nat) (c : Cf) (k : Int) (x : Px) (v : Rt) (b : Bool) (r : T) (o : Int) (s : T) (f : List T) : bodyR env (recP env N [pnO1 c k x v true, pnO2 c k x v true, pnO3 c k x v true r, pnO4 c k x v true r o, pnO5 c k x v b r o s f]) N 32 8 2 (sOl5 c k x v r o s f) = Res.ok (Ex.exit 0, { tmps := slots 15 [], heap := [AObj.box 25 6 (PV.t c.t), AObj.box 3 1 (PV.t (i64 k)), AObj.box 27 2 (PV.t x.t), AObj.box 34 6 (PV.t v.t), AObj.box 30 4 (PV.agg [PV.t (i64 0), PV.own 8, PV.t (i64 0), PV.t (i64 0)]), AObj.box 54 6 (PV.t r), AObj.box 30 4 (PV.t (T.agg [i64 v.p.o, s, i64 c.d, i64 o])), AObj.vec 31 [PV.fn 44 [] [PV.ptr 0 0, PV.ptr 1 0, PV.ptr 2 0, PV.ptr 3 0], PV.fn 45 [] [PV.ptr 3 0, PV.ptr 1 0, PV.ptr 0 0], PV.fn 46 [] [PV.ptr 0 0, PV.ptr 1 0, PV.ptr 2 0, PV.ptr 3 0, PV.ptr 5 0], PV.fn 47 [] [PV.ptr 0 0, PV.ptr 1 0, PV.ptr 3 0, PV.ptr 6 0], PV.fn 49 [] [PV.ptr 0 0, PV.ptr 5 0, PV.ptr 3 0, PV.ptr 6 0]], AObj.row 3 1 [], AObj.row 3 1 [], AObj.frow 28 1 f] }) := by kernel_rfl
theorem opkt32_2_ret_5 (N : Nat) (c : Cf) (k : Int) (x : Px) (v : Rt) (b : Bool) (r : T) (o : Int) (s : T) (f : List T) (H : List AObj) {β : Type} (K : PV → List AObj → Res β) : tailR env (recP env N [pnO1 c k x v true, pnO2 c k x v true, pnO3 c k x v true r, pnO4 c k x v true r o, pnO5 c k x v b r o s f]) N 32 8 2 K (.ret) (⟨slots 15 [(2, .t (.bool false))], H⟩) = K (PV.t (T.bool false)) H := by kernel_rfl
theorem opkt32_2_exit0 (N : Nat) (c : Cf) (k : Int) (x : Px) (v : Rt) (b : Bool) (r : T) (o : Int) (s : T) (f : List T) (H : List AObj) {β : Type} (K : PV → List AObj → Res β) : tailR env (recP env N [pnO1 c k x v true, pnO2 c k x v true, pnO3 c k x v true r, pnO4 c k x v true r o, pnO5 c k x v b r o s f]) N 32 8 2 K (.exit 0) (⟨slots 15 [], H⟩) = K (PV.t (T.bool true)) H := by kernel_rfl
theorem pq17 (N : Nat) (c : Cf) (k : Int) (x : Px) (v : Rt) (b : Bool) (r : T) (o : Int) : funK env (recP env N [pnOA c k x v b r o]) N 17 [.t (c.t), .t (i64 k), .t (x.t), .t (v.t)] [] (outK env 17) = chkAll (fun p => ((match p with | PV.t x => x.cells.length == 1 && !x.isTup | PV.agg cs => cs.length == 1 | PV.tup xs => false | PV.junk => false | x => true) && !match p with | PV.agg cs => true | x => false) && !match p with | PV.t x => x.isAgg | x => false) [PV.fn 44 [] [PV.ptr 0 0, PV.ptr 1 0, PV.ptr 2 0, PV.ptr 3 0], PV.fn 45 [] [PV.ptr 3 0, PV.ptr 1 0, PV.ptr 0 0], PV.fn 46 [] [PV.ptr 0 0, PV.ptr 1 0, PV.ptr 2 0, PV.ptr 3 0, PV.ptr 5 0], PV.fn 47 [] [PV.ptr 0 0, PV.ptr 1 0, PV.ptr 3 0, PV.ptr 6 0], PV.fn 49 [] [PV.ptr 0 0, PV.ptr 5 0, PV.ptr 3 0, PV.ptr 6 0]] (chkP ([PV.own 7] = [PV.own 7] ∧ [AObj.box 25 6 (PV.t c.t), AObj.box 3 1 (PV.t (i64 k)), AObj.box 27 2 (PV.t x.t), AObj.box 34 6 (PV.t v.t), AObj.box 30 4 (PV.agg [PV.t (i64 0), PV.nil 3 1, PV.t (i64 0), PV.t (i64 0)]), AObj.box 54 6 (PV.t (T.agg [i64 0, i64 0, i64 0, i64 0, i64 0, i64 0])), AObj.box 30 4 (PV.agg [PV.t (i64 v.p.o), PV.nil 3 1, PV.t (i64 c.d), PV.t (i64 0)]), AObj.vec 31 [PV.fn 44 [] [PV.ptr 0 0, PV.ptr 1 0, PV.ptr 2 0, PV.ptr 3 0], PV.fn 45 [] [PV.ptr 3 0, PV.ptr 1 0, PV.ptr 0 0], PV.fn 46 [] [PV.ptr 0 0, PV.ptr 1 0, PV.ptr 2 0, PV.ptr 3 0, PV.ptr 5 0], PV.fn 47 [] [PV.ptr 0 0, PV.ptr 1 0, PV.ptr 3 0, PV.ptr 6 0], PV.fn 49 [] [PV.ptr 0 0, PV.ptr 5 0, PV.ptr 3 0, PV.ptr 6 0]]] = [AObj.box 25 6 (PV.t c.t), AObj.box 3 1 (PV.t (i64 k)), AObj.box 27 2 (PV.t x.t), AObj.box 34 6 (PV.t v.t), AObj.box 30 4 (PV.agg [PV.t (i64 0), PV.nil 3 1, PV.t (i64 0), PV.t (i64 0)]), AObj.box 54 6 (PV.t (T.agg [i64 0, i64 0, i64 0, i64 0, i64 0, i64 0])), AObj.box 30 4 (PV.agg [PV.t (i64 v.p.o), PV.nil 3 1, PV.t (i64 c.d), PV.t (i64 0)]), AObj.vec 31 [PV.fn 44 [] [PV.ptr 0 0, PV.ptr 1 0, PV.ptr 2 0, PV.ptr 3 0], PV.fn 45 [] [PV.ptr 3 0, PV.ptr 1 0, PV.ptr 0 0], PV.fn 46 [] [PV.ptr 0 0, PV.ptr 1 0, PV.ptr 2 0, PV.ptr 3 0, PV.ptr 5 0], PV.fn 47 [] [PV.ptr 0 0, PV.ptr 1 0, PV.ptr 3 0, PV.ptr 6 0], PV.fn 49 [] [PV.ptr 0 0, PV.ptr 5 0, PV.ptr 3 0, PV.ptr 6 0]]]) (bif !b then Res.ok (T.tup [T.agg [i64 0, T.sl 1 [], i64 0, i64 0], T.bool false]) else Res.ok (T.tup [T.agg [i64 v.p.o, T.sl 1 [], i64 c.d, i64 o], T.bool true]))) := by kernel_rfl
theorem pq17_2 (N : Nat) (c : Cf) (k : Int) (x : Px) (v : Rt) (b : Bool) (r : T) (o : Int) (s : T) (f : List T) : funK env (recP env N [pnOB c k x v b r o s f]) N 17 [.t (c.t), .t (i64 k), .t (x.t), .t (v.t)] [] (outK env 17) = chkAll (fun p => ((match p with | PV.t x => x.cells.length == 1 && !x.isTup | PV.agg cs => cs.length == 1 | PV.tup xs => false | PV.junk => false | x => true) && !match p with | PV.agg cs => true | x => false) && !match p with | PV.t x => x.isAgg | x => false) [PV.fn 44 [] [PV.ptr 0 0, PV.ptr 1 0, PV.ptr 2 0, PV.ptr 3 0], PV.fn 45 [] [PV.ptr 3 0, PV.ptr 1 0, PV.ptr 0 0], PV.fn 46 [] [PV.ptr 0 0, PV.ptr 1 0, PV.ptr 2 0, PV.ptr 3 0, PV.ptr 5 0], PV.fn 47 [] [PV.ptr 0 0, PV.ptr 1 0, PV.ptr 3 0, PV.ptr 6 0], PV.fn 49 [] [PV.ptr 0 0, PV.ptr 5 0, PV.ptr 3 0, PV.ptr 6 0]] (chkP ([PV.own 7] = [PV.own 7] ∧ [AObj.box 25 6 (PV.t c.t), AObj.box 3 1 (PV.t (i64 k)), AObj.box 27 2 (PV.t x.t), AObj.box 34 6 (PV.t v.t), AObj.box 30 4 (PV.agg [PV.t (i64 0), PV.nil 3 1, PV.t (i64 0), PV.t (i64 0)]), AObj.box 54 6 (PV.t (T.agg [i64 0, i64 0, i64 0, i64 0, i64 0, i64 0])), AObj.box 30 4 (PV.agg [PV.t (i64 v.p.o), PV.nil 3 1, PV.t (i64 c.d), PV.t (i64 0)]), AObj.vec 31 [PV.fn 44 [] [PV.ptr 0 0, PV.ptr 1 0, PV.ptr 2 0, PV.ptr 3 0], PV.fn 45 [] [PV.ptr 3 0, PV.ptr 1 0, PV.ptr 0 0], PV.fn 46 [] [PV.ptr 0 0, PV.ptr 1 0, PV.ptr 2 0, PV.ptr 3 0, PV.ptr 5 0], PV.fn 47 [] [PV.ptr 0 0, PV.ptr 1 0, PV.ptr 3 0, PV.ptr 6 0], PV.fn 49 [] [PV.ptr 0 0, PV.ptr 5 0, PV.ptr 3 0, PV.ptr 6 0]]] = [AObj.box 25 6 (PV.t c.t), AObj.box 3 1 (PV.t (i64 k)), AObj.box 27 2 (PV.t x.t), AObj.box 34 6 (PV.t v.t), AObj.box 30 4 (PV.agg [PV.t (i64 0), PV.nil 3 1, PV.t (i64 0), PV.t (i64 0)]), AObj.box 54 6 (PV.t (T.agg [i64 0, i64 0, i64 0, i64 0, i64 0, i64 0])), AObj.box 30 4 (PV.agg [PV.t (i64 v.p.o), PV.nil 3 1, PV.t (i64 c.d), PV.t (i64 0)]), AObj.vec 31 [PV.fn 44 [] [PV.ptr 0 0, PV.ptr 1 0, PV.ptr 2 0, PV.ptr 3 0], PV.fn 45 [] [PV.ptr 3 0, PV.ptr 1 0, PV.ptr 0 0], PV.fn 46 [] [PV.ptr 0 0, PV.ptr 1 0, PV.ptr 2 0, PV.ptr 3 0, PV.ptr 5 0], PV.fn 47 [] [PV.ptr 0 0, PV.ptr 1 0, PV.ptr 3 0, PV.ptr 6 0], PV.fn 49 [] [PV.ptr 0 0, PV.ptr 5 0, PV.ptr 3 0, PV.ptr 6 0]]]) (bif !b then Res.ok (T.tup [T.agg [i64 0, T.sl 1 [], i64 0, i64 0], T.bool false]) else Res.ok (T.tup [T.agg [i64 v.p.o, s, i64 c.d, i64 o], T.bool true]))) := by kernel_rfl
end Go.Sim

/- What slices.Repeat and the five questions of edge.Out come to. -/
namespace Go.Sim
open Go.RowKit Go.Proofs
set_option linter.unusedVariables false
set_option linter.unusedSimpArgs false
set_option linter.unusedSectionVars false
set_option maxRecDepth 100000

/-- A row of n, of which the first j are written. -/
def rl (x : T) (n j : Nat) : List T := List.replicate j x ++ List.replicate (n - j) (i64 0)
theorem rl_len (x : T) {n j : Nat} (h : j ≤ n) : (rl x n j).length = n := by simp [rl]; omega
theorem rl_take (x : T) {n j : Nat} : (rl x n j).take j = List.replicate j x := by
  unfold rl; rw [List.take_append_of_le_length (by simp)]; simp
theorem rl_step (x : T) {n j : Nat} (h : j ≤ n) : spliceT (rl x n j) j ((List.replicate j x).take (n - j)) = rl x n (j + min j (n - j)) := by
  unfold spliceT
  rw [rl_take, List.take_replicate, List.length_replicate]
  unfold rl
  rw [List.drop_append, List.length_replicate, List.drop_eq_nil_of_le (by simp), List.nil_append, List.drop_replicate, List.replicate_append_replicate, Nat.min_comm]
  congr 2
  omega
variable [Lv]
theorem rep_b {M n j : Nat} {x : T} (h1 : 1 ≤ j) (h : j < n) (hn : n ≤ big) : bodyL env M 51 0 8 (sRp (rl x n j) j) = .ok (.norm, sRp (rl x n (j + min j (n - j))) ((j + min j (n - j) : Nat) : Int)) := by
  have hl := rl_len x (Nat.le_of_lt h)
  rw [b51_8, hl, Int.toNat_natCast, Nat.zero_add, Nat.zero_add, decide_eq_true (show (j : Int) < (n : Int) by omega), decide_eq_true (show (0 : Int) ≤ (j : Int) by omega), decide_eq_true (show (j : Int) ≤ (n : Int) by omega), decide_eq_true (show j ≤ n by omega), decide_eq_true (Nat.le_refl n),
    List.drop_zero, rl_take, List.length_replicate]
  simp only [Bool.and_self, cond_true, chk_true]
  rw [rl_step x (Nat.le_of_lt h), show ((j : Int) + ((min j (n - j) : Nat) : Int)) = ((j + min j (n - j) : Nat) : Int) by omega, wrap_nat (by omega)]
theorem rep_loop {M n : Nat} {x : T} (hn : n ≤ big) : ∀ (d j k : Nat), n - j ≤ d → 1 ≤ j → j ≤ n → d < k → iterR (bodyL env M 51 0 8) k (sRp (rl x n j) j) = .ok (.exit 0, ⟨slots 48 [(7, .own 0)], [.row 3 1 (List.replicate n x)]⟩)
  | d, j, 0, _, _, _, h => by omega
  | d, j, k + 1, h1, h2, h3, h4 => by
    rcases Nat.eq_or_lt_of_le h3 with rfl | h5
    · have hb : bodyL env M 51 0 8 (sRp (rl x j j) j) = .ok (.exit 0, ⟨slots 48 [(7, .own 0)], [.row 3 1 (List.replicate j x)]⟩) := by
        rw [b51_8, rl_len x (Nat.le_refl j), decide_eq_false (by omega)]
        simp only [cond_false]
        rw [show rl x j j = List.replicate j x by simp [rl]]
      exact iterR_exit hb
    · rw [iterR_step (rep_b h2 h5 hn)]
      exact rep_loop hn (d - 1) _ k (by omega) (by omega) (by omega) (by omega)
theorem mul64_ok {M n : Nat} (h1 : 1 ≤ n) (h2 : n ≤ 9) : callP env (M + 1) 90 [.int .u64 (IntKind.u64.wrap 1), .int .u64 (IntKind.u64.wrap (n : Int))] = .ok (.tup [.int .u64 0, .int .u64 n]) := by
  have hc : n = 1 ∨ n = 2 ∨ n = 3 ∨ n = 4 ∨ n = 5 ∨ n = 6 ∨ n = 7 ∨ n = 8 ∨ n = 9 := by omega
  clear h1 h2
  rcases hc with rfl | rfl | rfl | rfl | rfl | rfl | rfl | rfl | rfl
  all_goals rw [q90, W_ok rfl]; rfl
theorem mul_ok {M n : Nat} (h1 : 1 ≤ n) (h2 : n ≤ 9) : callP env (M + 2) 77 [.int .u64 (IntKind.u64.wrap 1), .int .u64 (IntKind.u64.wrap (n : Int))] = .ok (.tup [.int .u64 0, .int .u64 n]) := by
  have hm := mul64_ok (M := M) h1 h2
  have hc : n = 1 ∨ n = 2 ∨ n = 3 ∨ n = 4 ∨ n = 5 ∨ n = 6 ∨ n = 7 ∨ n = 8 ∨ n = 9 := by omega
  clear h1 h2
  rcases hc with rfl | rfl | rfl | rfl | rfl | rfl | rfl | rfl | rfl
  all_goals
    rw [q77, W_ok rfl, cl_ok hm]
    rfl
theorem f51_ok {M n : Nat} {a : Int} (hM : 12 ≤ M) (h1 : 1 ≤ n) (h2 : n ≤ 9) (ha : ok64 a = true) : callP env (M + 1) 51 [.sl 1 [i64 a], i64 n] = .ok (.sl 1 (ints (List.replicate n a))) := by
  obtain ⟨m, rfl⟩ := exM (show 1 ≤ M by omega)
  obtain ⟨m, rfl⟩ := exM (show 1 ≤ m by omega)
  have hbg := big_val
  have hn : ok64 (n : Int) = true := ok64_iff.2 (by omega)
  have hw : (T.sl 1 [i64 a]).wf = true := wf_ints (l := [a]) ⟨show 1 ≤ big by omega, fun x hx => by rw [List.mem_singleton.1 hx]; exact ha⟩
  rw [q51, W_ok (wfs2 hw (wf_int hn)), decide_eq_false (show ¬ (n : Int) < 0 by omega)]
  simp only [cond_false]
  rw [cl_ok (mul_ok h1 h2)]
  have iu : ∀ {β : Type} {n : Int} {K : Int → Res β}, iT .u64 (.int .u64 n) K = K n := fun {β n K} => rfl
  simp only [compT, List.getElem?_cons_zero, List.getElem?_cons_succ, iu]
  rw [decide_eq_false (show ¬ (0 : Int) > 0 by omega), decide_eq_false (show ¬ (n : Int) > 9223372036854775807 by omega), wrap_nat (by omega), Int.toNat_natCast, decide_eq_true (show (0 : Int) ≤ (n : Int) by omega), decide_eq_true (show (n : Int) ≤ (n : Int) by omega), decide_eq_true (show n * 8 ≤ 140737488355328 by omega),
    decide_eq_true (Nat.le_refl _), List.length_replicate]
  simp only [cond_false, Bool.and_self, chk_true]
  have e : sRp (spliceT (List.replicate n (i64 0)) 0 (List.take n [i64 a])) ((min 1 n : Nat) : Int) = sRp (rl (i64 a) n 1) ((1 : Nat) : Int) := by
    obtain ⟨n, rfl⟩ := exM h1
    have e1 : min 1 (n + 1) = 1 := by omega
    have e2 : List.take (n + 1) [i64 a] = [i64 a] := by cases n <;> rfl
    have e3 : spliceT (List.replicate (n + 1) (i64 0)) 0 [i64 a] = rl (i64 a) (n + 1) 1 := rfl
    rw [e1, e2, e3]
  rw [e]
  refine (loopL_end (rep_loop (n := n) (by omega) (n - 1) 1 (m + 1 + 1) (by omega) (by omega) (by omega) (by omega))).trans ?_
  refine (t51_8_exit0 (m + 1 + 1) (List.replicate n (i64 a)) 0).trans ?_
  rw [ints_map, List.map_replicate]

theorem pinO1 {M : Nat} {c : Cf} {k : Int} {x : Px} {v : Rt} (hM : big + 15 ≤ M) (h : c.ok) (hk : ok64 k = true) (hx : x.ok) (hv : v.ok) : PinOk env (M + 1) (pnO1 c k x v (csane c && (hasB c k && (psane x && rtsane v)))) := fun β K => by
  obtain ⟨m, rfl⟩ := exM (show 1 ≤ M by omega)
  refine (k44 (m + 1) c k x v _ 0 K).trans ?_
  rw [clB_ok (f14_ok (by omega) h)]
  unfold pnO1
  cases csane c with
  | false => rfl
  | true =>
  rw [cond_true, clB_ok (f34_ok h hk)]
  cases hasB c k with
  | false => rfl
  | true =>
  rw [cond_true, clB_ok (f35_ok hx (by omega))]
  cases psane x with
  | false => rfl
  | true =>
  rw [cond_true, cl_ok (f15_ok (by omega) hv)]
  rfl
theorem pinO2 {M : Nat} {c : Cf} {k : Int} {x : Px} {v : Rt} : PinOk env (M + 1) (pnO2 c k x v (decide (v.f ≠ k) && decide (v.f < (c.s.length : Int)))) := fun β K => by
  refine (k45 M c k x v _ 0 K).trans ?_
  unfold pnO2
  rw [List.length_map]
  by_cases h : v.f = k
  · rw [h, bne_self_eq_false, decide_eq_false (show ¬ k ≠ k from fun e => e rfl)]; rfl
  · rw [bne_iff_ne.2 h, decide_eq_true (show v.f ≠ k from h)]; rfl
theorem pinO3 {M : Nat} {c : Cf} {k : Nat} {x : Px} {v : Rt} {s : Sd} (hM : big + 10 ≤ M) (hs : c.s[k]? = some s) (h : c.ok) (hx : x.ok) (hv : v.ok) :
    PinOk env (M + 1) (pnO3 c k x v (match pickR s.o (vwI x v.p (classI c v.f)) with | some r => r.a != 0 | none => false) (match pickR s.o (vwI x v.p (classI c v.f)) with | some r => r.t | none => T.agg [i64 0, i64 0, i64 0, i64 0, i64 0, i64 0])) := fun β K => by
  obtain ⟨m, rfl⟩ := exM (show 1 ≤ M by omega)
  have ho := h.s.2 _ (List.mem_of_getElem? hs)
  refine (k46 (m + 1) c k x v _ 0 K).trans ?_
  rw [atT_get (map_get hs), cl_ok (f19_ok (by omega) h hv.f)]
  have hc : ok64 (classI c v.f) = true := by
    unfold classI
    split
    · split
      · rename_i t ht; exact (h.s.2 _ (List.mem_of_getElem? ht)).r
      · rfl
    · rfl
  have hvw : (vwI x v.p (classI c v.f)).ok := ⟨hx, pa_ints hv.p, hc⟩
  have hc := f21_ok (M := m) (by omega) ho.o hvw
  refine Eq.trans (show _ = cl (m + 1) 21 [.sl 6 (s.o.map Ru.t), (vwI x v.p (classI c v.f)).t] _ from rfl) ?_
  refine (cl_ok hc).trans ?_
  cases pickR s.o (vwI x v.p (classI c v.f)) <;> rfl
theorem pinO4 {M : Nat} {c : Cf} {k : Nat} {x : Px} {v : Rt} {s : Sd} {r : T} (hM : 2 ≤ M) (hs : c.s[k]? = some s) (h : c.ok) (hv : v.ok) : PinOk env (M + 1) (pnO4 c k x v (roleOut s.r c.a v.p.c).isSome r ((roleOut s.r c.a v.p.c).getD 0)) := fun β K => by
  obtain ⟨m, rfl⟩ := exM (show 1 ≤ M by omega)
  have ho := h.s.2 _ (List.mem_of_getElem? hs)
  refine (k47 (m + 1) c k x v r 0 K).trans ?_
  rw [atT_get (map_get hs)]
  refine (cl_ok (f48_ok (M := m) (by omega) ho.r h.a hv.p.c)).trans ?_
  rfl
def preT (c : Cf) (u : Ru) (v : Rt) : List T := [.sl 1 (ints (List.replicate (1 + u.n).toNat c.a)), .sl 1 (ints v.p.s)]
theorem pinO5 {M : Nat} {c : Cf} {k : Int} {x : Px} {v : Rt} {u : Ru} {o : Int} (hM : 14 ≤ M) (h : c.ok) (hv : v.ok) (h0 : 0 ≤ u.n) (h8 : u.n ≤ 8) (h32 : v.p.s.length ≤ 32) :
    PinOk env (M + 1) (pnO5 c k x v (decide ((preR c u v).length ≤ 32)) u.t o (.sl 1 (ints (preR c u v))) (preT c u v)) := fun β K => by
  obtain ⟨m, rfl⟩ := exM (show 1 ≤ M by omega)
  have hbg := big_val
  refine (k49 (m + 1) c k x v u.t o K).trans ?_
  obtain ⟨n, hn⟩ : ∃ n : Nat, u.n = n := ⟨u.n.toNat, by omega⟩
  have hr := f51_ok (M := m) (n := n + 1) (a := c.a) (by omega) (by omega) (by omega) h.a
  have hlen : ([List.replicate (n + 1) c.a, v.p.s] : List (List Int)).flatten = preR c u v := by
    unfold preR; rw [hn, show (1 + (n : Int)).toNat = n + 1 by omega]; simp
  have hpl : (preR c u v).length = n + 1 + v.p.s.length := by rw [← hlen]; simp
  have ok2 : okL (okL okI) [List.replicate (n + 1) c.a, v.p.s] := ⟨show 2 ≤ big by omega, fun y hy => by
    simp only [List.mem_cons, List.not_mem_nil, or_false] at hy
    rcases hy with rfl | rfl
    · exact ⟨by rw [List.length_replicate]; omega, fun z hz => by rw [(List.mem_replicate.1 hz).2]; exact h.a⟩
    · exact pa_ints hv.p⟩
  have hc := f50_ok (M := m) (l := [List.replicate (n + 1) c.a, v.p.s]) (by simp; omega) ok2 (by rw [hlen, hpl]; omega)
  have e1 : u.t.partD 5 1 false = i64 u.n := rfl
  have e0 : chkAll (T.okE 1) [i64 c.a] = fun (K : Res β) => K := rfl
  rw [e0, e1]
  simp only [iT_int]
  rw [hn, show (1 : Int) + (n : Int) = ((n + 1 : Nat) : Int) by omega, wrap_nat (by omega), cl_ok hr]
  refine Eq.trans (show _ = cl (m + 1) 50 [.sl 1 (List.map (fun a => T.sl 1 (ints a)) [List.replicate (n + 1) c.a, v.p.s])] _ from rfl) ?_
  refine (cl_ok hc).trans ?_
  rw [hlen]
  unfold pnO5 preT
  rw [hn, show (1 + (n : Int)).toNat = n + 1 by omega]
  have e2 : decide ((((ints (preR c u v)).length : Nat) : Int) ≤ 32) = decide ((preR c u v).length ≤ 32) := by rw [ints_map, List.length_map]; exact decide_eq_decide.2 (by omega)
  rw [← e2]
  rfl
end Go.Sim

/- What edge.all comes to over the five questions of edge.Out: printed by wip/tools/gens14h.py. -/
namespace Go.Sim
open Go.RowKit Go.Proofs
set_option linter.unusedVariables false
set_option linter.unusedSimpArgs false
set_option linter.unusedSectionVars false
set_option maxRecDepth 100000
variable [Lv]

theorem outAll1 {M : Nat} {c : Cf} {k : Int} {x : Px} {v : Rt} (hM : 6 ≤ M) (h : PinsOk env M [pnO1 c k x v false]) : PinOk env (M + 1) (pnOA c k x v false (T.agg [i64 0, i64 0, i64 0, i64 0, i64 0, i64 0]) 0) := by
  refine runK_pin h ?_
  refine (opk32 M c k x v false _).trans ?_
  have it : ∀ n, iterR (bodyR env (recP env M [pnO1 c k x v false]) M 32 8 2) (n + 1) (sOl0 c k x v (T.agg [i64 0, i64 0, i64 0, i64 0, i64 0, i64 0]) 0) = .ok (.ret, ⟨slots 15 [(2, .t (.bool false))], outH c k x v (T.agg [i64 0, i64 0, i64 0, i64 0, i64 0, i64 0]) 0⟩) := fun n => by
    exact iterR_ret (n := n) ((opkb32_2 M c k x v false).trans chkP_same)
  obtain ⟨n, hn⟩ : ∃ n, M = n + 1 := ⟨M - 1, by omega⟩
  have it' : iterR (bodyR env (recP env M [pnO1 c k x v false]) M 32 8 2) M (sOl0 c k x v (T.agg [i64 0, i64 0, i64 0, i64 0, i64 0, i64 0]) 0) = _ := (congrArg (fun z => iterR (bodyR env (recP env M [pnO1 c k x v false]) M 32 8 2) z (sOl0 c k x v (T.agg [i64 0, i64 0, i64 0, i64 0, i64 0, i64 0]) 0)) hn).trans (it n)
  exact (loopR_end it').trans (opkt32_2_ret M c k x v false _ _)
theorem outAll2 {M : Nat} {c : Cf} {k : Int} {x : Px} {v : Rt} (hM : 6 ≤ M) (h : PinsOk env M [pnO1 c k x v true, pnO2 c k x v false]) : PinOk env (M + 1) (pnOA c k x v false (T.agg [i64 0, i64 0, i64 0, i64 0, i64 0, i64 0]) 0) := by
  refine runK_pin h ?_
  refine (opk32_2 M c k x v false _).trans ?_
  have it : ∀ n, iterR (bodyR env (recP env M [pnO1 c k x v true, pnO2 c k x v false]) M 32 8 2) (n + 2) (sOl0 c k x v (T.agg [i64 0, i64 0, i64 0, i64 0, i64 0, i64 0]) 0) = .ok (.ret, ⟨slots 15 [(2, .t (.bool false))], outH c k x v (T.agg [i64 0, i64 0, i64 0, i64 0, i64 0, i64 0]) 0⟩) := fun n => by
    refine (iterR_step (n := n + 1) (s' := sOl1 c k x v (T.agg [i64 0, i64 0, i64 0, i64 0, i64 0, i64 0]) 0) ((opkb32_2_2 M c k x v false).trans chkP_same)).trans ?_
    exact iterR_ret (n := n) ((opkb32_2_3 M c k x v false).trans chkP_same)
  obtain ⟨n, hn⟩ : ∃ n, M = n + 2 := ⟨M - 2, by omega⟩
  have it' : iterR (bodyR env (recP env M [pnO1 c k x v true, pnO2 c k x v false]) M 32 8 2) M (sOl0 c k x v (T.agg [i64 0, i64 0, i64 0, i64 0, i64 0, i64 0]) 0) = _ := (congrArg (fun z => iterR (bodyR env (recP env M [pnO1 c k x v true, pnO2 c k x v false]) M 32 8 2) z (sOl0 c k x v (T.agg [i64 0, i64 0, i64 0, i64 0, i64 0, i64 0]) 0)) hn).trans (it n)
  exact (loopR_end it').trans (opkt32_2_ret_2 M c k x v false _ _)
theorem outAll3 {M : Nat} {c : Cf} {k : Int} {x : Px} {v : Rt} {r : T} (hM : 6 ≤ M) (h : PinsOk env M [pnO1 c k x v true, pnO2 c k x v true, pnO3 c k x v false r]) : PinOk env (M + 1) (pnOA c k x v false r 0) := by
  refine runK_pin h ?_
  refine (opk32_3 M c k x v false r _).trans ?_
  have it : ∀ n, iterR (bodyR env (recP env M [pnO1 c k x v true, pnO2 c k x v true, pnO3 c k x v false r]) M 32 8 2) (n + 3) (sOl0 c k x v (T.agg [i64 0, i64 0, i64 0, i64 0, i64 0, i64 0]) 0) = .ok (.ret, ⟨slots 15 [(2, .t (.bool false))], outH c k x v r 0⟩) := fun n => by
    refine (iterR_step (n := n + 2) (s' := sOl1 c k x v (T.agg [i64 0, i64 0, i64 0, i64 0, i64 0, i64 0]) 0) ((opkb32_2_4 M c k x v false r).trans chkP_same)).trans ?_
    refine (iterR_step (n := n + 1) (s' := sOl2 c k x v (T.agg [i64 0, i64 0, i64 0, i64 0, i64 0, i64 0]) 0) ((opkb32_2_5 M c k x v false r).trans chkP_same)).trans ?_
    exact iterR_ret (n := n) ((opkb32_2_6 M c k x v false r).trans chkP_same)
  obtain ⟨n, hn⟩ : ∃ n, M = n + 3 := ⟨M - 3, by omega⟩
  have it' : iterR (bodyR env (recP env M [pnO1 c k x v true, pnO2 c k x v true, pnO3 c k x v false r]) M 32 8 2) M (sOl0 c k x v (T.agg [i64 0, i64 0, i64 0, i64 0, i64 0, i64 0]) 0) = _ := (congrArg (fun z => iterR (bodyR env (recP env M [pnO1 c k x v true, pnO2 c k x v true, pnO3 c k x v false r]) M 32 8 2) z (sOl0 c k x v (T.agg [i64 0, i64 0, i64 0, i64 0, i64 0, i64 0]) 0)) hn).trans (it n)
  exact (loopR_end it').trans (opkt32_2_ret_3 M c k x v false r _ _)
theorem outAll4 {M : Nat} {c : Cf} {k : Int} {x : Px} {v : Rt} {r : T} {o : Int} (hM : 6 ≤ M) (h : PinsOk env M [pnO1 c k x v true, pnO2 c k x v true, pnO3 c k x v true r, pnO4 c k x v false r o]) : PinOk env (M + 1) (pnOA c k x v false r o) := by
  refine runK_pin h ?_
  refine (opk32_4 M c k x v false r o _).trans ?_
  have it : ∀ n, iterR (bodyR env (recP env M [pnO1 c k x v true, pnO2 c k x v true, pnO3 c k x v true r, pnO4 c k x v false r o]) M 32 8 2) (n + 4) (sOl0 c k x v (T.agg [i64 0, i64 0, i64 0, i64 0, i64 0, i64 0]) 0) = .ok (.ret, ⟨slots 15 [(2, .t (.bool false))], outH c k x v r o⟩) := fun n => by
    refine (iterR_step (n := n + 3) (s' := sOl1 c k x v (T.agg [i64 0, i64 0, i64 0, i64 0, i64 0, i64 0]) 0) ((opkb32_2_7 M c k x v false r o).trans chkP_same)).trans ?_
    refine (iterR_step (n := n + 2) (s' := sOl2 c k x v (T.agg [i64 0, i64 0, i64 0, i64 0, i64 0, i64 0]) 0) ((opkb32_2_8 M c k x v false r o).trans chkP_same)).trans ?_
    refine (iterR_step (n := n + 1) (s' := sOl3 c k x v r 0) ((opkb32_2_9 M c k x v false r o).trans chkP_same)).trans ?_
    exact iterR_ret (n := n) ((opkb32_2_10 M c k x v false r o).trans chkP_same)
  obtain ⟨n, hn⟩ : ∃ n, M = n + 4 := ⟨M - 4, by omega⟩
  have it' : iterR (bodyR env (recP env M [pnO1 c k x v true, pnO2 c k x v true, pnO3 c k x v true r, pnO4 c k x v false r o]) M 32 8 2) M (sOl0 c k x v (T.agg [i64 0, i64 0, i64 0, i64 0, i64 0, i64 0]) 0) = _ := (congrArg (fun z => iterR (bodyR env (recP env M [pnO1 c k x v true, pnO2 c k x v true, pnO3 c k x v true r, pnO4 c k x v false r o]) M 32 8 2) z (sOl0 c k x v (T.agg [i64 0, i64 0, i64 0, i64 0, i64 0, i64 0]) 0)) hn).trans (it n)
  exact (loopR_end it').trans (opkt32_2_ret_4 M c k x v false r o _ _)
theorem outAll5 {M : Nat} {c : Cf} {k : Int} {x : Px} {v : Rt} {r : T} {o : Int} {s : T} {f : List T} (hM : 6 ≤ M) (h : PinsOk env M [pnO1 c k x v true, pnO2 c k x v true, pnO3 c k x v true r, pnO4 c k x v true r o, pnO5 c k x v false r o s f]) : PinOk env (M + 1) (pnOB c k x v false r o s f) := by
  refine runK_pin h ?_
  refine (opk32_5 M c k x v false r o s f _).trans ?_
  have it : ∀ n, iterR (bodyR env (recP env M [pnO1 c k x v true, pnO2 c k x v true, pnO3 c k x v true r, pnO4 c k x v true r o, pnO5 c k x v false r o s f]) M 32 8 2) (n + 5) (sOl0 c k x v (T.agg [i64 0, i64 0, i64 0, i64 0, i64 0, i64 0]) 0) = .ok (.ret, ⟨slots 15 [(2, .t (.bool false))], outH5 c k x v r o s f⟩) := fun n => by
    refine (iterR_step (n := n + 4) (s' := sOl1 c k x v (T.agg [i64 0, i64 0, i64 0, i64 0, i64 0, i64 0]) 0) ((opkb32_2_11 M c k x v false r o s f).trans chkP_same)).trans ?_
    refine (iterR_step (n := n + 3) (s' := sOl2 c k x v (T.agg [i64 0, i64 0, i64 0, i64 0, i64 0, i64 0]) 0) ((opkb32_2_12 M c k x v false r o s f).trans chkP_same)).trans ?_
    refine (iterR_step (n := n + 2) (s' := sOl3 c k x v r 0) ((opkb32_2_13 M c k x v false r o s f).trans chkP_same)).trans ?_
    refine (iterR_step (n := n + 1) (s' := sOl4 c k x v r o) ((opkb32_2_14 M c k x v false r o s f).trans chkP_same)).trans ?_
    exact iterR_ret (n := n) ((opkb32_2_15 M c k x v false r o s f).trans chkP_same)
  obtain ⟨n, hn⟩ : ∃ n, M = n + 5 := ⟨M - 5, by omega⟩
  have it' : iterR (bodyR env (recP env M [pnO1 c k x v true, pnO2 c k x v true, pnO3 c k x v true r, pnO4 c k x v true r o, pnO5 c k x v false r o s f]) M 32 8 2) M (sOl0 c k x v (T.agg [i64 0, i64 0, i64 0, i64 0, i64 0, i64 0]) 0) = _ := (congrArg (fun z => iterR (bodyR env (recP env M [pnO1 c k x v true, pnO2 c k x v true, pnO3 c k x v true r, pnO4 c k x v true r o, pnO5 c k x v false r o s f]) M 32 8 2) z (sOl0 c k x v (T.agg [i64 0, i64 0, i64 0, i64 0, i64 0, i64 0]) 0)) hn).trans (it n)
  exact (loopR_end it').trans (opkt32_2_ret_5 M c k x v false r o s f _ _)
theorem outAll6 {M : Nat} {c : Cf} {k : Int} {x : Px} {v : Rt} {r : T} {o : Int} {s : T} {f : List T} (hM : 6 ≤ M) (h : PinsOk env M [pnO1 c k x v true, pnO2 c k x v true, pnO3 c k x v true r, pnO4 c k x v true r o, pnO5 c k x v true r o s f]) : PinOk env (M + 1) (pnOB c k x v true r o s f) := by
  refine runK_pin h ?_
  refine (opk32_5 M c k x v true r o s f _).trans ?_
  have it : ∀ n, iterR (bodyR env (recP env M [pnO1 c k x v true, pnO2 c k x v true, pnO3 c k x v true r, pnO4 c k x v true r o, pnO5 c k x v true r o s f]) M 32 8 2) (n + 6) (sOl0 c k x v (T.agg [i64 0, i64 0, i64 0, i64 0, i64 0, i64 0]) 0) = .ok (.exit 0, ⟨slots 15 [], outH5 c k x v r o s f⟩) := fun n => by
    refine (iterR_step (n := n + 5) (s' := sOl1 c k x v (T.agg [i64 0, i64 0, i64 0, i64 0, i64 0, i64 0]) 0) ((opkb32_2_11 M c k x v true r o s f).trans chkP_same)).trans ?_
    refine (iterR_step (n := n + 4) (s' := sOl2 c k x v (T.agg [i64 0, i64 0, i64 0, i64 0, i64 0, i64 0]) 0) ((opkb32_2_12 M c k x v true r o s f).trans chkP_same)).trans ?_
    refine (iterR_step (n := n + 3) (s' := sOl3 c k x v r 0) ((opkb32_2_13 M c k x v true r o s f).trans chkP_same)).trans ?_
    refine (iterR_step (n := n + 2) (s' := sOl4 c k x v r o) ((opkb32_2_14 M c k x v true r o s f).trans chkP_same)).trans ?_
    refine (iterR_step (n := n + 1) (s' := sOl5 c k x v r o s f) ((opkb32_2_15 M c k x v true r o s f).trans chkP_same)).trans ?_
    exact iterR_exit (n := n) (opkb32_2_16 M c k x v true r o s f)
  obtain ⟨n, hn⟩ : ∃ n, M = n + 6 := ⟨M - 6, by omega⟩
  have it' : iterR (bodyR env (recP env M [pnO1 c k x v true, pnO2 c k x v true, pnO3 c k x v true r, pnO4 c k x v true r o, pnO5 c k x v true r o s f]) M 32 8 2) M (sOl0 c k x v (T.agg [i64 0, i64 0, i64 0, i64 0, i64 0, i64 0]) 0) = _ := (congrArg (fun z => iterR (bodyR env (recP env M [pnO1 c k x v true, pnO2 c k x v true, pnO3 c k x v true r, pnO4 c k x v true r o, pnO5 c k x v true r o s f]) M 32 8 2) z (sOl0 c k x v (T.agg [i64 0, i64 0, i64 0, i64 0, i64 0, i64 0]) 0)) hn).trans (it n)
  exact (loopR_end it').trans (opkt32_2_exit0 M c k x v true r o s f _ _)
end Go.Sim

/- What edge.Out answers. -/
namespace Go.Sim
open Go.RowKit Go.Proofs
set_option linter.unusedVariables false
set_option linter.unusedSimpArgs false
set_option linter.unusedSectionVars false
set_option maxRecDepth 100000
def zP : T := T.agg [i64 0, T.sl 1 [], i64 0, i64 0]
def optP : Option Pa → T
  | some p => .tup [p.t, .bool true]
  | none => .tup [zP, .bool false]
variable [Lv]
theorem out_A {M : Nat} {c : Cf} {k : Int} {x : Px} {v : Rt} {o : Int} {r : T} (hw : T.wfs [c.t, i64 k, x.t, v.t] = true) (h : PinOk env M (pnOA c k x v false r o)) : callP env (M + 1) 17 [c.t, i64 k, x.t, v.t] = .ok (.tup [zP, .bool false]) :=
  callP_pin (ps := [pnOA c k x v false r o]) ⟨h, trivial⟩ hw rfl ((pq17 M c k x v false r o).trans (chkP_ok ⟨rfl, rfl⟩))
theorem out_B {M : Nat} {c : Cf} {k : Int} {x : Px} {v : Rt} {o : Int} {r s : T} {f : List T} (hw : T.wfs [c.t, i64 k, x.t, v.t] = true) (h : PinOk env M (pnOB c k x v false r o s f)) : callP env (M + 1) 17 [c.t, i64 k, x.t, v.t] = .ok (.tup [zP, .bool false]) :=
  callP_pin (ps := [pnOB c k x v false r o s f]) ⟨h, trivial⟩ hw rfl ((pq17_2 M c k x v false r o s f).trans (chkP_ok ⟨rfl, rfl⟩))
theorem out_T {M : Nat} {c : Cf} {k : Int} {x : Px} {v : Rt} {o : Int} {r : T} {l : List Int} {f : List T} (hw : T.wfs [c.t, i64 k, x.t, v.t] = true) (h : PinOk env M (pnOB c k x v true r o (.sl 1 (ints l)) f)) : callP env (M + 1) 17 [c.t, i64 k, x.t, v.t] = .ok (.tup [(Pa.mk v.p.o l c.d o).t, .bool true]) :=
  callP_pin (ps := [pnOB c k x v true r o (.sl 1 (ints l)) f]) ⟨h, trivial⟩ hw rfl ((pq17_2 M c k x v true r o (.sl 1 (ints l)) f).trans (chkP_ok ⟨rfl, rfl⟩))
theorem f17_ok {M : Nat} {c : Cf} {k : Int} {x : Px} {v : Rt} (hM : big + 18 ≤ M) (h : c.ok) (hk : ok64 k = true) (hx : x.ok) (hv : v.ok) : callP env (M + 1) 17 [c.t, i64 k, x.t, v.t] = .ok (optP (outR c k x v)) := by
  obtain ⟨m, rfl⟩ := exM (show 1 ≤ M by omega)
  obtain ⟨m, rfl⟩ := exM (show 1 ≤ m by omega)
  have hw : T.wfs [c.t, i64 k, x.t, v.t] = true := by
    have h1 := h.wf; have h2 := wf_int hk; have h3 := hx.wf; have h4 := hv.wf
    simp only [T.wfs, h1, h2, h3, h4, Bool.and_self]
  have g1 := pinO1 (M := m) (c := c) (k := k) (x := x) (v := v) (by omega) h hk hx hv
  unfold outR
  cases e1 : csane c && (hasB c k && (psane x && rtsane v)) with
  | false =>
    rw [e1] at g1
    exact out_A hw (outAll1 (M := m + 1) (by omega) ⟨g1, trivial⟩)
  | true =>
  rw [e1] at g1
  have g2 := pinO2 (M := m) (c := c) (k := k) (x := x) (v := v)
  simp only [Bool.true_and]
  cases e2 : decide (v.f ≠ k) && decide (v.f < (c.s.length : Int)) with
  | false =>
    rw [e2] at g2
    exact out_A hw (outAll2 (M := m + 1) (by omega) ⟨g1, g2, trivial⟩)
  | true =>
  rw [e2] at g2
  simp only [if_true]
  simp only [Bool.and_eq_true] at e1
  obtain ⟨i, s, rfl, hi, hs⟩ := has_nat e1.2.1
  rw [Int.toNat_natCast, hs]
  simp only []
  have g3 := pinO3 (M := m) (c := c) (x := x) (v := v) (by omega) hs h hx hv
  cases e3 : pickR s.o (vwI x v.p (classI c v.f)) with
  | none =>
    rw [e3] at g3
    exact out_A hw (outAll3 (M := m + 1) (by omega) ⟨g1, g2, g3, trivial⟩)
  | some u =>
  rw [e3] at g3
  simp only [] at g3
  show _ = Res.ok (optP (if u.a = 0 then none else match roleOut s.r c.a v.p.c with | some m => if (preR c u v).length ≤ 32 then some ⟨v.p.o, preR c u v, c.d, m⟩ else none | none => none))
  by_cases e4 : u.a = 0
  · rw [e4, bne_self_eq_false] at g3
    rw [if_pos e4]
    exact out_A hw (outAll3 (M := m + 1) (by omega) ⟨g1, g2, g3, trivial⟩)
  rw [bne_iff_ne.2 e4] at g3
  rw [if_neg e4]
  have g4 := pinO4 (M := m) (c := c) (x := x) (v := v) (r := u.t) (by omega) hs h hv
  cases e5 : roleOut s.r c.a v.p.c with
  | none =>
    rw [e5] at g4
    exact out_A hw (outAll4 (M := m + 1) (by omega) ⟨g1, g2, g3, g4, trivial⟩)
  | some o =>
  rw [e5] at g4
  obtain ⟨s1, s2, s3, s4, s5, s6⟩ := side_parts e1.1 hs
  obtain ⟨u1, u2⟩ := more_out (s6 u (pick_mem e3).1) e4
  have h32 : v.p.s.length ≤ 32 := by
    have := e1.2.2.2
    unfold rtsane at this
    simp only [Bool.and_eq_true, decide_eq_true_eq] at this
    exact this.2.1
  have g5 := pinO5 (M := m) (c := c) (k := (i : Int)) (x := x) (v := v) (u := u) (o := o) (by omega) h hv u1 u2 h32
  simp only []
  by_cases e6 : (preR c u v).length ≤ 32
  · rw [decide_eq_true e6] at g5
    rw [if_pos e6]
    exact out_T hw (outAll6 (M := m + 1) (by omega) ⟨g1, g2, g3, g4, g5, trivial⟩)
  · rw [decide_eq_false e6] at g5
    rw [if_neg e6]
    exact out_B hw (outAll5 (M := m + 1) (by omega) ⟨g1, g2, g3, g4, g5, trivial⟩)
end Go.Sim

/- What calls come to: printed by wip/tools/eq2.py: laws 14, 15. -/
namespace Go.Sim
open Go.RowKit Go.Proofs
set_option linter.unusedVariables false
set_option maxRecDepth 100000
variable [Lv]


theorem q58 (N : Nat) (a b c d e : Int) : callP env (N + 1) 58 [i64 a, i64 b, i64 c, i64 d, i64 e] = W [i64 a, i64 b, i64 c, i64 d, i64 e] (chkAll (T.okE 6) [T.agg [i64 0, i64 0, i64 0, i64 0, i64 2, i64 300]] (chkAll (T.okE 6) [T.agg [i64 0, i64 0, i64 0, i64 0, i64 2, i64 e]] (chkAll (T.okE 6) [T.agg [i64 4, i64 0, i64 0, i64 0, i64 1, i64 0], T.agg [i64 4, i64 0, i64 0, i64 1, i64 1, i64 0]] (chkAll (T.okE 4) [T.agg [i64 b, i64 1, T.sl 6 [T.agg [i64 0, i64 0, i64 0, i64 0, i64 2, i64 300]], T.sl 6 []], T.agg [i64 c, i64 d, T.sl 6 [T.agg [i64 0, i64 0, i64 0, i64 0, i64 2, i64 e]], T.sl 6 [T.agg [i64 4, i64 0, i64 0, i64 0, i64 1, i64 0], T.agg [i64 4, i64 0, i64 0, i64 1, i64 1, i64 0]]]] (Res.ok (T.agg [i64 a, i64 a, i64 0, i64 9, T.sl 2 [], T.sl 4 [T.agg [i64 b, i64 1, T.sl 6 [T.agg [i64 0, i64 0, i64 0, i64 0, i64 2, i64 300]], T.sl 6 []], T.agg [i64 c, i64 d, T.sl 6 [T.agg [i64 0, i64 0, i64 0, i64 0, i64 2, i64 e]], T.sl 6 [T.agg [i64 4, i64 0, i64 0, i64 0, i64 1, i64 0], T.agg [i64 4, i64 0, i64 0, i64 1, i64 1, i64 0]]]]])))))) := by kernel_rfl
theorem q22 (N : Nat)  : callP env (N + 1) 22 [] = W [] (cl N 58 [i64 1, i64 5, i64 2, i64 3, i64 100] fun x => chk (x.cells.length == 6 && !x.isTup) (cl N 24 [x, i64 1] fun x_1 => compT x_1 0 fun y => compT x_1 1 fun y_1 => cl N 25 [x, i64 1] fun x_2 => compT x_2 0 fun y_2 => compT x_2 1 fun y_3 => cl N 28 [x, i64 2] fun x_3 => compT x_3 0 fun y_4 => compT x_3 1 fun y_5 => cl N 58 [i64 2, i64 6, i64 1, i64 1, i64 300] fun x_4 => clB N 27 [x, x_4] fun b => bif b then cl N 58 [i64 2, i64 6, i64 1, i64 1, i64 310] fun x_5 => clB N 27 [x, x_5] fun b => bif !b then bT y_1 fun b => bif b then iT IntKind.i64 y fun a => bif a == 300 then bT y_3 fun b => bif b then iT IntKind.i64 y_2 fun a => bif a == 100 then bT y_5 fun b => bif b then iT IntKind.i64 y_4 fun a => bif a == 1 then clB N 26 [x, i64 1, i64 0] fun b => bif b then clB N 26 [x, i64 0, i64 0] fun b => rB !b else rB false else rB false else rB false else rB false else rB false else rB false else rB false else rB false else rB false)) := by kernel_rfl
end Go.Sim

/- The first question of each law of layer 15. -/
namespace Go.Sim
open Go.RowKit Go.Proofs
set_option linter.unusedVariables false
set_option linter.unusedSimpArgs false
set_option linter.unusedSectionVars false
set_option maxRecDepth 100000

def nodeC (a b c d e : Int) : Cf := ⟨a, a, 0, 9, [], [⟨b, 1, [⟨0, ⟨0, 0⟩, 0, 2, 300⟩], []⟩, ⟨c, d, [⟨0, ⟨0, 0⟩, 0, 2, e⟩], [⟨4, ⟨0, 0⟩, 0, 1, 0⟩, ⟨4, ⟨0, 0⟩, 1, 1, 0⟩]⟩]⟩
theorem okL_nil {α : Type} {p : α → Prop} : okL p [] := ⟨Nat.zero_le _, fun _ h => by cases h⟩
theorem okL_cons {α : Type} {p : α → Prop} {x : α} {l : List α} (h : p x) (h2 : ∀ y ∈ l, p y) (h3 : l.length + 1 ≤ big) : okL p (x :: l) := ⟨h3, fun y hy => (List.mem_cons.1 hy).elim (fun e => e ▸ h) (h2 y)⟩
theorem okL_one {α : Type} {p : α → Prop} {x : α} (h : p x) : okL p [x] := okL_cons h (fun _ h => by cases h) (show 0 + 1 ≤ big by decide)
theorem okL_two {α : Type} {p : α → Prop} {x y : α} (h : p x) (h2 : p y) : okL p [x, y] := okL_cons h (fun z hz => by rw [List.mem_singleton.1 hz]; exact h2) (show 1 + 1 ≤ big by decide)
theorem nodeC_ok {a b c d e : Int} (ha : ok64 a = true) (hb : ok64 b = true) (hc : ok64 c = true) (hd : ok64 d = true) (he : ok64 e = true) : (nodeC a b c d e).ok :=
  ⟨ha, ha, rfl, rfl, okL_nil, okL_two ⟨hb, rfl, okL_one ⟨rfl, ⟨rfl, rfl⟩, rfl, rfl, rfl⟩, okL_nil⟩ ⟨hc, hd, okL_one ⟨rfl, ⟨rfl, rfl⟩, rfl, rfl, he⟩, okL_two ⟨rfl, ⟨rfl, rfl⟩, rfl, rfl, rfl⟩ ⟨rfl, ⟨rfl, rfl⟩, rfl, rfl, rfl⟩⟩⟩
theorem nodeC_small (a b c d e : Int) : smallC (nodeC a b c d e) := fun s hs => by
  simp only [nodeC, List.mem_cons, List.not_mem_nil, or_false] at hs
  rcases hs with rfl | rfl
  · exact ⟨show 1 * 48 ≤ big by decide, show 0 * 48 ≤ big by decide⟩
  · exact ⟨show 1 * 48 ≤ big by decide, show 2 * 48 ≤ big by decide⟩
variable [Lv]
theorem node_1 {M : Nat} : callP env (M + 1) 58 [i64 1, i64 5, i64 2, i64 3, i64 100] = .ok (nodeC 1 5 2 3 100).t := by rw [q58]; kernel_rfl
theorem node_2 {M : Nat} : callP env (M + 1) 58 [i64 2, i64 6, i64 1, i64 1, i64 300] = .ok (nodeC 2 6 1 1 300).t := by rw [q58]; kernel_rfl
theorem node_3 {M : Nat} : callP env (M + 1) 58 [i64 2, i64 6, i64 1, i64 1, i64 310] = .ok (nodeC 2 6 1 1 310).t := by rw [q58]; kernel_rfl
theorem f22_ok {M : Nat} (hM : big + 17 ≤ M) : callP env (M + 1) 22 [] = .ok (.bool true) := by
  obtain ⟨m, rfl⟩ := exM (show 1 ≤ M by omega)
  have o1 : (nodeC 1 5 2 3 100).ok := nodeC_ok rfl rfl rfl rfl rfl
  have o2 : (nodeC 2 6 1 1 300).ok := nodeC_ok rfl rfl rfl rfl rfl
  have o3 : (nodeC 2 6 1 1 310).ok := nodeC_ok rfl rfl rfl rfl rfl
  have s1 := nodeC_small 1 5 2 3 100
  rw [q22, W_ok rfl, cl_ok node_1]
  have c1 : ((nodeC 1 5 2 3 100).t.cells.length == 6 && !(nodeC 1 5 2 3 100).t.isTup) = true := rfl
  rw [c1, chk_true, cl_ok (f24_ok (by omega) o1 rfl s1)]
  simp only [compT, List.getElem?_cons_zero, List.getElem?_cons_succ]
  rw [cl_ok (f25_ok (by omega) o1 rfl s1)]
  simp only [compT, List.getElem?_cons_zero, List.getElem?_cons_succ]
  rw [cl_ok (f28_ok (by omega) o1 rfl)]
  simp only [compT, List.getElem?_cons_zero, List.getElem?_cons_succ]
  rw [cl_ok node_2, clB_ok (f27_ok (by omega) o1 o2), show risesB (nodeC 1 5 2 3 100) (nodeC 2 6 1 1 300) = true by decide +kernel, cond_true, cl_ok node_3, clB_ok (f27_ok (by omega) o1 o3),
    show risesB (nodeC 1 5 2 3 100) (nodeC 2 6 1 1 310) = false by decide +kernel, Bool.not_false, cond_true, show lowI (nodeC 1 5 2 3 100) 1 = some 300 by decide +kernel, show highI (nodeC 1 5 2 3 100) 1 = some 100 by decide +kernel,
    show idxOf (nodeC 1 5 2 3 100) 2 = some 1 by decide +kernel, show sideI (nodeC 1 5 2 3 100) 2 = 1 by decide +kernel]
  have e1 : ((300 : Int) == 300) = true := rfl
  have e2 : ((100 : Int) == 100) = true := rfl
  have e3 : ((1 : Int) == 1) = true := rfl
  simp only [Option.getD_some, Option.isSome_some, bT, iT_int, e1, e2, e3, cond_true]
  rw [clB_ok (f26_ok (by omega) o1 rfl rfl s1), show tellsB (nodeC 1 5 2 3 100) 1 0 = true by decide +kernel, cond_true, clB_ok (f26_ok (by omega) o1 rfl rfl s1), show tellsB (nodeC 1 5 2 3 100) 0 0 = false by decide +kernel]
  rfl
end Go.Sim

/- What calls come to: printed by wip/tools/eq2.py: laws 14, 15. -/
namespace Go.Sim
open Go.RowKit Go.Proofs
set_option linter.unusedVariables false
set_option maxRecDepth 100000
variable [Lv]


theorem q8 (N : Nat) (c : Cf) (k j : Int) (x : Px) (p : Pa) : callP env (N + 1) 8 [c.t, i64 k, i64 j, x.t, p.t] = W [c.t, i64 k, i64 j, x.t, p.t] (cl N 22 [] fun x_1 => clB N 23 [c.t] fun b => bif !b then Res.ok x_1 else bif decide ((↑(ints p.s).length : Int) > 100) then Res.ok x_1 else cl N 12 [c.t, i64 k, x.t, p.t] fun x_2 => compT x_2 0 fun y => compT x_2 1 fun y_1 => chk (y.cells.length == 6 && !y.isTup) (bT y_1 fun b => bif !b then Res.ok x_1 else cl N 19 [c.t, i64 k] fun x_3 => cl N 24 [c.t, x_3] fun x_4 => compT x_4 0 fun y_2 => compT x_4 1 fun y_3 => cl N 25 [c.t, i64 k] fun x_5 => compT x_5 0 fun y_4 => compT x_5 1 fun y_5 => cl N 17 [c.t, i64 j, x.t, y] fun x => compT x 0 fun y_6 => compT x 1 fun y_7 => chk (y_6.cells.length == 4 && !y_6.isTup) (bT x_1 fun b => bif b then bT y_3 fun b => bif b then bT y_5 fun b => bif b then iT IntKind.i64 y_2 fun a => iT IntKind.i64 (y.partD 0 1 false) fun b => bif decide (a ≤ b) then iT IntKind.i64 (y.partD 0 1 false) fun a => iT IntKind.i64 y_4 fun b => bif decide (a ≤ b) then bT y_7 fun b => bif !b then rB true else cl N 26 [c.t, i64 j, x_3] fun x => Res.ok x else rB false else rB false else rB false else rB false else rB false))) := by kernel_rfl
theorem q9 (N : Nat) (a b : Cf) (k : Int) (x : Px) (p : Pa) (o : Bool) : callP env (N + 1) 9 [a.t, b.t, i64 k, x.t, p.t, .bool o] = W [a.t, b.t, i64 k, x.t, p.t, .bool o] (cl N 22 [] fun x_1 => clB N 23 [a.t] fun b_1 => bif !b_1 then Res.ok x_1 else clB N 23 [b.t] fun b_2 => bif !b_2 then Res.ok x_1 else bif decide ((↑(ints p.s).length : Int) > 100) then Res.ok x_1 else clB N 27 [a.t, b.t] fun b_3 => bif !b_3 then Res.ok x_1 else cl N 28 [a.t, i64 b.a] fun x_2 => compT x_2 0 fun y => compT x_2 1 fun y_1 => cl N 28 [b.t, i64 a.a] fun x_3 => compT x_3 0 fun y_2 => compT x_3 1 fun y_3 => cl N 12 [a.t, i64 k, x.t, p.t] fun x_4 => compT x_4 0 fun y_4 => compT x_4 1 fun y_5 => chk (y_4.cells.length == 6 && !y_4.isTup) (bif o then cl N 29 [i64 a.d] fun x_5 => chk (x_5.cells.length == 6 && !x_5.isTup) (cl N 17 [a.t, y, x.t, x_5] fun x_6 => compT x_6 0 fun y => compT x_6 1 fun y_6 => chk (y.cells.length == 4 && !y.isTup) (cl N 12 [b.t, y_2, x.t, y] fun x => compT x 0 fun y => compT x 1 fun y_7 => chk (y.cells.length == 6 && !y.isTup) (bT y_1 fun b => bif !b then rB false else bT y_3 fun b => bif !b then rB false else bT x_1 fun b => bif b then bT y_6 fun b => bif !b then rB true else bT y_7 fun b => bif !b then rB true else clI N 30 [x_5, y] fun a => rB (decide (a < 0)) else rB false))) else cl N 17 [a.t, y, x.t, y_4] fun x_5 => compT x_5 0 fun y => compT x_5 1 fun y_6 => chk (y.cells.length == 4 && !y.isTup) (cl N 12 [b.t, y_2, x.t, y] fun x => compT x 0 fun y => compT x 1 fun y_7 => chk (y.cells.length == 6 && !y.isTup) (bT y_1 fun b => bif !b then rB false else bT y_3 fun b => bif !b then rB false else bT x_1 fun b => bif b then bT y_5 fun b => bif !b then rB true else bT y_6 fun b => bif !b then rB true else bT y_7 fun b => bif !b then rB true else clI N 30 [y_4, y] fun a => rB (decide (a < 0)) else rB false)))) := by kernel_rfl
end Go.Sim
