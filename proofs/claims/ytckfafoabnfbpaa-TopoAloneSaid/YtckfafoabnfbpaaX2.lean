/- The texts of a proof, one behind the other: an interpreter and its soundness, what the functions of the program answer, and plain laws on that. -/
import Derived.Test.YtckfafoabnfbpaaX1
import Derived.Test.YtckfafoabnfbpaaK4
import Derived.Test.YtckfafoabnfbpaaK3
set_option linter.unusedVariables false
set_option linter.unusedSimpArgs false
set_option linter.unnecessarySimpa false
set_option linter.unusedSectionVars false
/- What calls come to: printed by wip/tools/eq2.py: topo.Ring. -/
namespace Go.Sim
open Go.RowKit Go.Proofs
set_option linter.unusedVariables false
set_option maxRecDepth 100000
variable [Lv]

abbrev EntN : Type := T × T × Nat
def sRa (t : List Cf) (i : Int) : St := ⟨slots 70 [(0, .t (.sl 6 (t.map Cf.t))), (13, .t (i64 (t.map Cf.t).length)), (14, .t (i64 i))], []⟩
def sRa1 (t : List Cf) (i : Int) (b : Bool) : St := ⟨slots 70 [(0, .t (.sl 6 (t.map Cf.t))), (13, .t (i64 (t.map Cf.t).length)), (14, .t (i64 i)), (15, .t (.bool b))], []⟩
def sRb (t : List Cf) (i : Int) (we : List EntN) (wc : Nat) (ge : List EntN) (gc : Nat) (xs : List T) (n k : Int) : St := ⟨slots 70 [(0, .t (.sl 6 (t.map Cf.t))), (4, .t (i64 i)), (5, .mp 0), (6, .mp 1), (13, .t (i64 (t.map Cf.t).length)), (14, .t (i64 i)), (21, .t (.sl 1 xs)), (22, .t (i64 n)), (23, .t (i64 k))], [.map we wc, .map ge gc]⟩
def sRb1 (t : List Cf) (i : Int) (we : List EntN) (wc : Nat) (ge : List EntN) (gc : Nat) : St := ⟨slots 70 [(0, .t (.sl 6 (t.map Cf.t))), (4, .t (i64 i)), (5, .mp 0), (6, .mp 1), (13, .t (i64 (t.map Cf.t).length)), (14, .t (i64 i))], [.map we wc, .map ge gc]⟩
def sRx (t : List Cf) (i : Int) (ge : List EntN) (gc : Nat) : St := ⟨slots 70 [(0, .t (.sl 6 (t.map Cf.t))), (4, .t (i64 i)), (6, .mp 0), (13, .t (i64 (t.map Cf.t).length)), (14, .t (i64 i))], [.map ge gc]⟩
def sRr (t : List Cf) (i : Int) (we : List EntN) (wc : Nat) (ge : List EntN) (gc since last : Nat) (seen : List Nat) : St := ⟨slots 70 [(0, .t (.sl 6 (t.map Cf.t))), (4, .t (i64 i)), (5, .mp 0), (6, .mp 1), (13, .t (i64 (t.map Cf.t).length)), (14, .t (i64 i)), (36, .ptr 2 0)], [.map we wc, .map ge gc, .iter 0 since seen last]⟩
def sRw2 (t : List Cf) (i : Int) (we : List EntN) (wc : Nat) (ge : List EntN) (gc : Nat) (n : Int) (b : Bool) : St := ⟨slots 70 [(0, .t (.sl 6 (t.map Cf.t))), (4, .t (i64 i)), (5, .mp 0), (6, .mp 1), (13, .t (i64 (t.map Cf.t).length)), (14, .t (i64 i)), (32, .mp 0), (33, .t (i64 n)), (34, .t (.bool b))], [.map we wc, .map ge gc]⟩
def nxT3 (st : St) (d l m since cc : Nat) (seen : List Nat) (e : T × T × Nat) : St := ⟨setT st.tmps (some d) (.t (.tup [.bool true, e.1, e.2.1])), st.heap.set l (.iter m since (seen ++ [e.2.2]) cc)⟩
def sRe (t : List Cf) (i : Int) (we : List EntN) (wc : Nat) (ge : List EntN) (gc : Nat) (j v : Int) (n : Nat) : St := ⟨slots 70 [(0, .t (.sl 6 (t.map Cf.t))), (4, .t (i64 i)), (5, .mp 0), (6, .mp 1), (13, .t (i64 (t.map Cf.t).length)), (14, .t (i64 i)), (36, .ptr 2 0), (37, .t (.tup [.bool true, i64 j, i64 v])), (38, .t (.bool true)), (39, .t (.tup [i64 j, i64 v]))], [.map we wc, .map ge gc, .iter 0 wc [n] wc]⟩
def sRd (t : List Cf) (i : Int) (we : List EntN) (wc : Nat) (ge : List EntN) (gc : Nat) (j v : Int) (n : Nat) : St := ⟨slots 70 [(0, .t (.sl 6 (t.map Cf.t))), (4, .t (i64 i)), (5, .mp 0), (6, .mp 1), (9, .t (i64 j)), (13, .t (i64 (t.map Cf.t).length)), (14, .t (i64 i)), (36, .ptr 2 0), (37, .t (.tup [.bool true, i64 j, i64 v])), (38, .t (.bool true)), (39, .t (.tup [i64 j, i64 v])), (40, .t (i64 j))], [.map we wc, .map ge gc, .iter 0 wc [n] wc]⟩
def sRd2 (t : List Cf) (i : Int) (we : List EntN) (wc : Nat) (ge : List EntN) (gc : Nat) (j : Int) (o : AObj) : St := ⟨slots 70 [(0, .t (.sl 6 (t.map Cf.t))), (4, .t (i64 i)), (5, .mp 0), (6, .mp 1), (9, .t (i64 j)), (13, .t (i64 (t.map Cf.t).length)), (14, .t (i64 i))], [.map we wc, .map ge gc, o]⟩
def sRg (t : List Cf) (i : Int) (we : List EntN) (wc : Nat) (ge : List EntN) (gc : Nat) (xs : List T) (n k : Int) : St := ⟨slots 70 [(0, .t (.sl 6 (t.map Cf.t))), (4, .t (i64 i)), (5, .mp 0), (6, .mp 1), (13, .t (i64 (t.map Cf.t).length)), (14, .t (i64 i)), (49, .t (.sl 1 xs)), (50, .t (i64 n)), (51, .t (i64 k))], [.map we wc, .map ge gc]⟩
theorem x18_2_0_2 (N : Nat) (t : List Cf) (i : Int) : seqX env N 18 [2] 0 2 (sRa t i) = bif decide (i < (↑(List.map Cf.t t).length : Int)) then Res.ok (Ex.norm, sRa1 t i (decide (i < (↑(List.map Cf.t t).length : Int)))) else Res.ok (Ex.exit 0, sRa1 t i (decide (i < (↑(List.map Cf.t t).length : Int)))) := by kernel_rfl
theorem y18_2_2_4 (N : Nat) (t : List Cf) (i : Int) (we : List EntN) (wc : Nat) (ge : List EntN) (gc : Nat) (xs : List T) (n k : Int) : bodyX env N 18 [2, 2] 4 (sRb t i we wc ge gc xs n k) = bif decide (k < n) then atT xs k fun e => chk (keyT [0] e) (entK [0] e we (chk (keyT [0] e) (entK [0] e we (Res.ok (Ex.norm, sRb t i (we ++ [(e, i64 1, wc)]) (wc + 1) ge gc xs n (IntKind.i64.wrap (k + 1)))) fun i_1 x b => Res.ok (Ex.norm, sRb t i (we.set i_1 (e, i64 1, b)) wc ge gc xs n (IntKind.i64.wrap (k + 1))))) fun x v x_1 => iT IntKind.i64 v fun a => chk (keyT [0] e) (entK [0] e we (Res.ok (Ex.norm, sRb t i (we ++ [(e, i64 (IntKind.i64.wrap (a + 1)), wc)]) (wc + 1) ge gc xs n (IntKind.i64.wrap (k + 1)))) fun i_1 x b => Res.ok (Ex.norm, sRb t i (we.set i_1 (e, i64 (IntKind.i64.wrap (a + 1)), b)) wc ge gc xs n (IntKind.i64.wrap (k + 1))))) else Res.ok (Ex.exit 2, sRb1 t i we wc ge gc) := by kernel_rfl
theorem x18_2_2_5_0_2 (N : Nat) (t : List Cf) (i : Int) (we : List EntN) (wc : Nat) (ge : List EntN) (gc : Nat) : seqX env N 18 [2, 2, 5] 0 2 (sRb1 t i we wc ge gc) = chk (decide (we.length ≤ 140737488355328)) (bif decide ((↑we.length : Int) > 0) then Res.ok (Ex.norm, sRw2 t i we wc ge gc (↑we.length : Int) (decide ((↑we.length : Int) > 0))) else Res.ok (Ex.exit 4, sRw2 t i we wc ge gc (↑we.length : Int) (decide ((↑we.length : Int) > 0)))) := by kernel_rfl
theorem zRX (N : Nat) (t : List Cf) (i : Int) (ge : List EntN) (gc : Nat) : (seqT env N 18 [2, 2] 6 2 (sRx t i ge gc) (endT env N 18 [] 2 1 3 1)) = chk (keyT [0] (i64 i)) (entK [0] (i64 i) ge (Res.ok (Ex.norm, sRa t (IntKind.i64.wrap (i + 1)))) fun x v x_1 => iT IntKind.i64 v fun a => bif decide (a > 0) then Res.ok (Ex.ret, { tmps := slots 70 [(2, PV.t (i64 i)), (3, PV.t (T.bool true))], heap := [] }) else Res.ok (Ex.norm, sRa t (IntKind.i64.wrap (i + 1)))) := by kernel_rfl
theorem zRR (N : Nat) (t : List Cf) (i : Int) (we : List EntN) (wc : Nat) (ge : List EntN) (gc : Nat) (n : Int) (b : Bool) : (canX env 18 [2, 2, 5, 2] 1 (seqY env N 18 [2, 2, 5, 2] 0 1 (sRw2 t i we wc ge gc n b))) = Res.ok (Ex.norm, sRr t i we wc ge gc wc wc []) := by kernel_rfl
theorem zRN (N : Nat) (t : List Cf) (i : Int) (we : List EntN) (wc : Nat) (ge : List EntN) (gc : Nat) (j v : Int) (n : Nat) : (restY env N 18 [2, 2, 5, 2, 1] 0 1 1 (nxT3 (sRr t i we wc ge gc wc wc []) 37 2 0 wc wc [] (i64 j, i64 v, n))) = Res.ok (Ex.norm, { tmps := slots 70 [(0, PV.t (T.sl 6 (List.map Cf.t t))), (4, PV.t (i64 i)), (5, PV.mp 0), (6, PV.mp 1), (13, PV.t (i64 (↑(List.map Cf.t t).length : Int))), (14, PV.t (i64 i)), (36, PV.ptr 2 0), (37, PV.t (T.tup [T.bool true, i64 j, i64 v])), (38, PV.t (T.bool true))], heap := [AObj.map we wc, AObj.map ge gc, AObj.iter 0 wc [n] wc] }) := by kernel_rfl
theorem zRE (N : Nat) (t : List Cf) (i : Int) (we : List EntN) (wc : Nat) (ge : List EntN) (gc : Nat) (j v : Int) (n : Nat) : (restT env N 18 [2, 2, 5, 2, 1, 2] 0 1 0 (sRe t i we wc ge gc j v n) fun e s => (.ok (e, s) : Res (Ex × St))) = Res.ok (Ex.norm, sRd t i we wc ge gc j v n) := by kernel_rfl
theorem zRD (N : Nat) (t : List Cf) (i : Int) (we : List EntN) (wc : Nat) (ge : List EntN) (gc : Nat) (j v : Int) (n : Nat) : (seqT env N 18 [2, 2, 5, 2, 1, 2] 1 2 (sRd t i we wc ge gc j v n) (fun e s => e.k (.ok s) (fun _ => .stuck) .stuck)) = chk (keyT [0] (i64 j)) (entK [0] (i64 j) we (chk (keyT [0] (i64 j)) (entK [0] (i64 j) ge (chk (keyT [0] (i64 j)) (entK [0] (i64 j) ge (Res.ok { tmps := slots 70 [(0, PV.t (T.sl 6 (List.map Cf.t t))), (4, PV.t (i64 i)), (5, PV.mp 0), (6, PV.mp 1), (9, PV.t (i64 j)), (13, PV.t (i64 (↑(List.map Cf.t t).length : Int))), (14, PV.t (i64 i)), (36, PV.ptr 2 0), (37, PV.t (T.tup [T.bool true, i64 j, i64 v])), (38, PV.t (T.bool true)), (39, PV.t (T.tup [i64 j, i64 v])), (40, PV.t (i64 j)), (41, PV.mp 0), (42, PV.t (i64 j)), (43, PV.mp 1), (44, PV.t (i64 j)), (45, PV.t (i64 0)), (46, PV.t (i64 1))], heap := [AObj.map we wc, AObj.map (ge ++ [(i64 j, i64 1, gc)]) (gc + 1), AObj.iter 0 wc [n] wc] }) fun i_1 x b => Res.ok { tmps := slots 70 [(0, PV.t (T.sl 6 (List.map Cf.t t))), (4, PV.t (i64 i)), (5, PV.mp 0), (6, PV.mp 1), (9, PV.t (i64 j)), (13, PV.t (i64 (↑(List.map Cf.t t).length : Int))), (14, PV.t (i64 i)), (36, PV.ptr 2 0), (37, PV.t (T.tup [T.bool true, i64 j, i64 v])), (38, PV.t (T.bool true)), (39, PV.t (T.tup [i64 j, i64 v])), (40, PV.t (i64 j)), (41, PV.mp 0), (42, PV.t (i64 j)), (43, PV.mp 1), (44, PV.t (i64 j)), (45, PV.t (i64 0)), (46, PV.t (i64 1))], heap := [AObj.map we wc, AObj.map (ge.set i_1 (i64 j, i64 1, b)) gc, AObj.iter 0 wc [n] wc] })) fun x v_1 x_1 => iT IntKind.i64 v_1 fun a => chk (keyT [0] (i64 j)) (entK [0] (i64 j) ge (Res.ok { tmps := slots 70 [(0, PV.t (T.sl 6 (List.map Cf.t t))), (4, PV.t (i64 i)), (5, PV.mp 0), (6, PV.mp 1), (9, PV.t (i64 j)), (13, PV.t (i64 (↑(List.map Cf.t t).length : Int))), (14, PV.t (i64 i)), (36, PV.ptr 2 0), (37, PV.t (T.tup [T.bool true, i64 j, i64 v])), (38, PV.t (T.bool true)), (39, PV.t (T.tup [i64 j, i64 v])), (40, PV.t (i64 j)), (41, PV.mp 0), (42, PV.t (i64 j)), (43, PV.mp 1), (44, PV.t (i64 j)), (45, PV.t v_1), (46, PV.t (i64 (IntKind.i64.wrap (a + 1))))], heap := [AObj.map we wc, AObj.map (ge ++ [(i64 j, i64 (IntKind.i64.wrap (a + 1)), gc)]) (gc + 1), AObj.iter 0 wc [n] wc] }) fun i_1 x b => Res.ok { tmps := slots 70 [(0, PV.t (T.sl 6 (List.map Cf.t t))), (4, PV.t (i64 i)), (5, PV.mp 0), (6, PV.mp 1), (9, PV.t (i64 j)), (13, PV.t (i64 (↑(List.map Cf.t t).length : Int))), (14, PV.t (i64 i)), (36, PV.ptr 2 0), (37, PV.t (T.tup [T.bool true, i64 j, i64 v])), (38, PV.t (T.bool true)), (39, PV.t (T.tup [i64 j, i64 v])), (40, PV.t (i64 j)), (41, PV.mp 0), (42, PV.t (i64 j)), (43, PV.mp 1), (44, PV.t (i64 j)), (45, PV.t v_1), (46, PV.t (i64 (IntKind.i64.wrap (a + 1))))], heap := [AObj.map we wc, AObj.map (ge.set i_1 (i64 j, i64 (IntKind.i64.wrap (a + 1)), b)) gc, AObj.iter 0 wc [n] wc] }))) fun i_1 x x_1 => chk (keyT [0] (i64 j)) (entK [0] (i64 j) ge (chk (keyT [0] (i64 j)) (entK [0] (i64 j) ge (Res.ok { tmps := slots 70 [(0, PV.t (T.sl 6 (List.map Cf.t t))), (4, PV.t (i64 i)), (5, PV.mp 0), (6, PV.mp 1), (9, PV.t (i64 j)), (13, PV.t (i64 (↑(List.map Cf.t t).length : Int))), (14, PV.t (i64 i)), (36, PV.ptr 2 0), (37, PV.t (T.tup [T.bool true, i64 j, i64 v])), (38, PV.t (T.bool true)), (39, PV.t (T.tup [i64 j, i64 v])), (40, PV.t (i64 j)), (41, PV.mp 0), (42, PV.t (i64 j)), (43, PV.mp 1), (44, PV.t (i64 j)), (45, PV.t (i64 0)), (46, PV.t (i64 1))], heap := [AObj.map (we.eraseIdx i_1) wc, AObj.map (ge ++ [(i64 j, i64 1, gc)]) (gc + 1), AObj.iter 0 wc [n] wc] }) fun i_2 x b => Res.ok { tmps := slots 70 [(0, PV.t (T.sl 6 (List.map Cf.t t))), (4, PV.t (i64 i)), (5, PV.mp 0), (6, PV.mp 1), (9, PV.t (i64 j)), (13, PV.t (i64 (↑(List.map Cf.t t).length : Int))), (14, PV.t (i64 i)), (36, PV.ptr 2 0), (37, PV.t (T.tup [T.bool true, i64 j, i64 v])), (38, PV.t (T.bool true)), (39, PV.t (T.tup [i64 j, i64 v])), (40, PV.t (i64 j)), (41, PV.mp 0), (42, PV.t (i64 j)), (43, PV.mp 1), (44, PV.t (i64 j)), (45, PV.t (i64 0)), (46, PV.t (i64 1))], heap := [AObj.map (we.eraseIdx i_1) wc, AObj.map (ge.set i_2 (i64 j, i64 1, b)) gc, AObj.iter 0 wc [n] wc] })) fun x v_1 x_2 => iT IntKind.i64 v_1 fun a => chk (keyT [0] (i64 j)) (entK [0] (i64 j) ge (Res.ok { tmps := slots 70 [(0, PV.t (T.sl 6 (List.map Cf.t t))), (4, PV.t (i64 i)), (5, PV.mp 0), (6, PV.mp 1), (9, PV.t (i64 j)), (13, PV.t (i64 (↑(List.map Cf.t t).length : Int))), (14, PV.t (i64 i)), (36, PV.ptr 2 0), (37, PV.t (T.tup [T.bool true, i64 j, i64 v])), (38, PV.t (T.bool true)), (39, PV.t (T.tup [i64 j, i64 v])), (40, PV.t (i64 j)), (41, PV.mp 0), (42, PV.t (i64 j)), (43, PV.mp 1), (44, PV.t (i64 j)), (45, PV.t v_1), (46, PV.t (i64 (IntKind.i64.wrap (a + 1))))], heap := [AObj.map (we.eraseIdx i_1) wc, AObj.map (ge ++ [(i64 j, i64 (IntKind.i64.wrap (a + 1)), gc)]) (gc + 1), AObj.iter 0 wc [n] wc] }) fun i_2 x b => Res.ok { tmps := slots 70 [(0, PV.t (T.sl 6 (List.map Cf.t t))), (4, PV.t (i64 i)), (5, PV.mp 0), (6, PV.mp 1), (9, PV.t (i64 j)), (13, PV.t (i64 (↑(List.map Cf.t t).length : Int))), (14, PV.t (i64 i)), (36, PV.ptr 2 0), (37, PV.t (T.tup [T.bool true, i64 j, i64 v])), (38, PV.t (T.bool true)), (39, PV.t (T.tup [i64 j, i64 v])), (40, PV.t (i64 j)), (41, PV.mp 0), (42, PV.t (i64 j)), (43, PV.mp 1), (44, PV.t (i64 j)), (45, PV.t v_1), (46, PV.t (i64 (IntKind.i64.wrap (a + 1))))], heap := [AObj.map (we.eraseIdx i_1) wc, AObj.map (ge.set i_2 (i64 j, i64 (IntKind.i64.wrap (a + 1)), b)) gc, AObj.iter 0 wc [n] wc] }))) := by kernel_rfl
end Go.Sim

/- What calls come to: printed by wip/tools/eq2.py: topo.Ring: a node's providers wait. -/
namespace Go.Sim
open Go.RowKit Go.Proofs
set_option linter.unusedVariables false
set_option maxRecDepth 100000
variable [Lv]

def sRg1 (t : List Cf) (i : Int) (we : List EntN) (wc : Nat) (ge : List EntN) (gc : Nat) (xs : List T) (n k : Int) (b : Bool) : St := ⟨slots 70 [(0, .t (.sl 6 (t.map Cf.t))), (4, .t (i64 i)), (5, .mp 0), (6, .mp 1), (13, .t (i64 (t.map Cf.t).length)), (14, .t (i64 i)), (49, .t (.sl 1 xs)), (50, .t (i64 n)), (51, .t (i64 k)), (52, .t (.bool b))], [.map we wc, .map ge gc]⟩
def sRh (t : List Cf) (i : Int) (we : List EntN) (wc : Nat) (ge : List EntN) (gc : Nat) (xs : List T) (n k m : Int) (b : Bool) : St := ⟨slots 70 [(0, .t (.sl 6 (t.map Cf.t))), (4, .t (i64 i)), (5, .mp 0), (6, .mp 1), (11, .t (i64 m)), (13, .t (i64 (t.map Cf.t).length)), (14, .t (i64 i)), (49, .t (.sl 1 xs)), (50, .t (i64 n)), (51, .t (i64 k)), (52, .t (.bool b)), (53, .rp 1 (i64 m) 0), (54, .t (i64 m))], [.map we wc, .map ge gc]⟩
def sRh1 (t : List Cf) (i : Int) (we : List EntN) (wc : Nat) (ge : List EntN) (gc : Nat) (xs : List T) (n k m g : Int) (b b2 : Bool) : St := ⟨slots 70 [(0, .t (.sl 6 (t.map Cf.t))), (4, .t (i64 i)), (5, .mp 0), (6, .mp 1), (11, .t (i64 m)), (13, .t (i64 (t.map Cf.t).length)), (14, .t (i64 i)), (49, .t (.sl 1 xs)), (50, .t (i64 n)), (51, .t (i64 k)), (52, .t (.bool b)), (53, .rp 1 (i64 m) 0), (54, .t (i64 m)), (55, .mp 1), (56, .t (i64 m)), (57, .t (i64 g)), (58, .t (.bool b2))], [.map we wc, .map ge gc]⟩
theorem x18_2_2_5_2_1_2_4_0_2 (N : Nat) (t : List Cf) (i : Int) (we : List EntN) (wc : Nat) (ge : List EntN) (gc : Nat) (xs : List T) (n k : Int) : seqX env N 18 [2, 2, 5, 2, 1, 2, 4] 0 2 (sRg t i we wc ge gc xs n k) = bif decide (k < n) then Res.ok (Ex.norm, sRg1 t i we wc ge gc xs n k (decide (k < n))) else Res.ok (Ex.exit 8, sRg1 t i we wc ge gc xs n k (decide (k < n))) := by kernel_rfl
theorem x18_2_2_5_2_1_2_4_2_0_1 (N : Nat) (t : List Cf) (i : Int) (we : List EntN) (wc : Nat) (ge : List EntN) (gc : Nat) (xs : List T) (n k : Int) (b : Bool) : seqX env N 18 [2, 2, 5, 2, 1, 2, 4, 2] 0 1 (sRg1 t i we wc ge gc xs n k b) = atT xs k fun e => Res.ok (Ex.norm, { tmps := slots 70 [(0, PV.t (T.sl 6 (List.map Cf.t t))), (4, PV.t (i64 i)), (5, PV.mp 0), (6, PV.mp 1), (11, PV.t e), (13, PV.t (i64 (↑(List.map Cf.t t).length : Int))), (14, PV.t (i64 i)), (49, PV.t (T.sl 1 xs)), (50, PV.t (i64 n)), (51, PV.t (i64 k)), (52, PV.t (T.bool b)), (53, PV.rp 1 e 0), (54, PV.t e)], heap := [AObj.map we wc, AObj.map ge gc] }) := by kernel_rfl
theorem x18_2_2_5_2_1_2_4_2_1_1 (N : Nat) (t : List Cf) (i : Int) (we : List EntN) (wc : Nat) (ge : List EntN) (gc : Nat) (xs : List T) (n k m : Int) (b : Bool) : seqX env N 18 [2, 2, 5, 2, 1, 2, 4, 2] 1 1 (sRh t i we wc ge gc xs n k m b) = chk (keyT [0] (i64 m)) (entK [0] (i64 m) ge (Res.ok (Ex.norm, sRh1 t i we wc ge gc xs n k m 0 b true)) fun x v x_1 => iT IntKind.i64 v fun a => Res.ok (Ex.norm, { tmps := slots 70 [(0, PV.t (T.sl 6 (List.map Cf.t t))), (4, PV.t (i64 i)), (5, PV.mp 0), (6, PV.mp 1), (11, PV.t (i64 m)), (13, PV.t (i64 (↑(List.map Cf.t t).length : Int))), (14, PV.t (i64 i)), (49, PV.t (T.sl 1 xs)), (50, PV.t (i64 n)), (51, PV.t (i64 k)), (52, PV.t (T.bool b)), (53, PV.rp 1 (i64 m) 0), (54, PV.t (i64 m)), (55, PV.mp 1), (56, PV.t (i64 m)), (57, PV.t v), (58, PV.t (T.bool (a == 0)))], heap := [AObj.map we wc, AObj.map ge gc] })) := by kernel_rfl
theorem zRG0 (N : Nat) (t : List Cf) (i : Int) (we : List EntN) (wc : Nat) (ge : List EntN) (gc : Nat) (xs : List T) (n k m g : Int) (b : Bool) : (seqT env N 18 [2, 2, 5, 2, 1, 2, 4, 2] 2 1 (sRh1 t i we wc ge gc xs n k m g b false) (endT env N 18 [2, 2, 5, 2, 1, 2] 4 9 3 1)) = Res.ok (Ex.norm, { tmps := slots 70 [(0, PV.t (T.sl 6 (List.map Cf.t t))), (4, PV.t (i64 i)), (5, PV.mp 0), (6, PV.mp 1), (13, PV.t (i64 (↑(List.map Cf.t t).length : Int))), (14, PV.t (i64 i)), (49, PV.t (T.sl 1 xs)), (50, PV.t (i64 n)), (51, PV.t (i64 (IntKind.i64.wrap (k + 1))))], heap := [AObj.map we wc, AObj.map ge gc] }) := by kernel_rfl
theorem zRG1 (N : Nat) (t : List Cf) (i : Int) (we : List EntN) (wc : Nat) (ge : List EntN) (gc : Nat) (xs : List T) (n k m g : Int) (b : Bool) : (seqT env N 18 [2, 2, 5, 2, 1, 2, 4, 2] 2 1 (sRh1 t i we wc ge gc xs n k m g b true) (endT env N 18 [2, 2, 5, 2, 1, 2] 4 9 3 1)) = chk (keyT [0] (i64 m)) (entK [0] (i64 m) we (chk (keyT [0] (i64 m)) (entK [0] (i64 m) we (Res.ok (Ex.norm, { tmps := slots 70 [(0, PV.t (T.sl 6 (List.map Cf.t t))), (4, PV.t (i64 i)), (5, PV.mp 0), (6, PV.mp 1), (13, PV.t (i64 (↑(List.map Cf.t t).length : Int))), (14, PV.t (i64 i)), (49, PV.t (T.sl 1 xs)), (50, PV.t (i64 n)), (51, PV.t (i64 (IntKind.i64.wrap (k + 1))))], heap := [AObj.map (we ++ [(i64 m, i64 1, wc)]) (wc + 1), AObj.map ge gc] })) fun i_1 x b => Res.ok (Ex.norm, { tmps := slots 70 [(0, PV.t (T.sl 6 (List.map Cf.t t))), (4, PV.t (i64 i)), (5, PV.mp 0), (6, PV.mp 1), (13, PV.t (i64 (↑(List.map Cf.t t).length : Int))), (14, PV.t (i64 i)), (49, PV.t (T.sl 1 xs)), (50, PV.t (i64 n)), (51, PV.t (i64 (IntKind.i64.wrap (k + 1))))], heap := [AObj.map (we.set i_1 (i64 m, i64 1, b)) wc, AObj.map ge gc] }))) fun x v x_1 => iT IntKind.i64 v fun a => chk (keyT [0] (i64 m)) (entK [0] (i64 m) we (Res.ok (Ex.norm, { tmps := slots 70 [(0, PV.t (T.sl 6 (List.map Cf.t t))), (4, PV.t (i64 i)), (5, PV.mp 0), (6, PV.mp 1), (13, PV.t (i64 (↑(List.map Cf.t t).length : Int))), (14, PV.t (i64 i)), (49, PV.t (T.sl 1 xs)), (50, PV.t (i64 n)), (51, PV.t (i64 (IntKind.i64.wrap (k + 1))))], heap := [AObj.map (we ++ [(i64 m, i64 (IntKind.i64.wrap (a + 1)), wc)]) (wc + 1), AObj.map ge gc] })) fun i_1 x b => Res.ok (Ex.norm, { tmps := slots 70 [(0, PV.t (T.sl 6 (List.map Cf.t t))), (4, PV.t (i64 i)), (5, PV.mp 0), (6, PV.mp 1), (13, PV.t (i64 (↑(List.map Cf.t t).length : Int))), (14, PV.t (i64 i)), (49, PV.t (T.sl 1 xs)), (50, PV.t (i64 n)), (51, PV.t (i64 (IntKind.i64.wrap (k + 1))))], heap := [AObj.map (we.set i_1 (i64 m, i64 (IntKind.i64.wrap (a + 1)), b)) wc, AObj.map ge gc] }))) := by kernel_rfl
end Go.Sim

/- What calls come to: printed by wip/tools/eq2.py: topo.Ring: more. -/
namespace Go.Sim
open Go.RowKit Go.Proofs
set_option linter.unusedVariables false
set_option maxRecDepth 100000
variable [Lv]

def sRd3 (t : List Cf) (i : Int) (we : List EntN) (wc : Nat) (ge : List EntN) (gc : Nat) (j v : Int) (n wd : Nat) : St := ⟨slots 70 [(0, .t (.sl 6 (t.map Cf.t))), (4, .t (i64 i)), (5, .mp 0), (6, .mp 1), (9, .t (i64 j)), (13, .t (i64 (t.map Cf.t).length)), (14, .t (i64 i)), (36, .ptr 2 0), (37, .t (.tup [.bool true, i64 j, i64 v])), (38, .t (.bool true)), (39, .t (.tup [i64 j, i64 v])), (40, .t (i64 j)), (41, .mp 0), (42, .t (i64 j)), (43, .mp 1), (44, .t (i64 j)), (45, .t (i64 0)), (46, .t (i64 1))], [.map we wc, .map ge gc, .iter 0 wd [n] wd]⟩
theorem x18_2_2_5_2_1_2_3_1 (N : Nat) (t : List Cf) (i : Int) (we : List EntN) (wc : Nat) (ge : List EntN) (gc : Nat) (j v : Int) (n wd : Nat) : seqX env N 18 [2, 2, 5, 2, 1, 2] 3 1 (sRd3 t i we wc ge gc j v n wd) = cl N 38 [T.sl 6 (List.map Cf.t t), i64 j] fun x => sllT x fun n_1 => Res.ok (Ex.norm, { tmps := slots 70 [(0, PV.t (T.sl 6 (List.map Cf.t t))), (4, PV.t (i64 i)), (5, PV.mp 0), (6, PV.mp 1), (9, PV.t (i64 j)), (13, PV.t (i64 (↑(List.map Cf.t t).length : Int))), (14, PV.t (i64 i)), (36, PV.ptr 2 0), (37, PV.t (T.tup [T.bool true, i64 j, i64 v])), (38, PV.t (T.bool true)), (39, PV.t (T.tup [i64 j, i64 v])), (40, PV.t (i64 j)), (41, PV.mp 0), (42, PV.t (i64 j)), (43, PV.mp 1), (44, PV.t (i64 j)), (45, PV.t (i64 0)), (46, PV.t (i64 1)), (47, PV.t (T.sl 6 (List.map Cf.t t))), (48, PV.t (i64 j)), (49, PV.t x), (50, PV.t (i64 n_1)), (51, PV.t (i64 0))], heap := [AObj.map we wc, AObj.map ge gc, AObj.iter 0 wd [n] wd] }) := by kernel_rfl
theorem x18_2_2_0_4 (N : Nat) (t : List Cf) (i : Int) (b : Bool) : seqX env N 18 [2, 2] 0 4 (sRa1 t i b) = cl N 38 [T.sl 6 (List.map Cf.t t), i64 i] fun x => sllT x fun n => Res.ok (Ex.norm, { tmps := slots 70 [(0, PV.t (T.sl 6 (List.map Cf.t t))), (4, PV.t (i64 i)), (5, PV.mp 0), (6, PV.mp 1), (13, PV.t (i64 (↑(List.map Cf.t t).length : Int))), (14, PV.t (i64 i)), (15, PV.t (T.bool b)), (16, PV.t (i64 i)), (17, PV.mp 0), (18, PV.mp 1), (19, PV.t (T.sl 6 (List.map Cf.t t))), (20, PV.t (i64 i)), (21, PV.t x), (22, PV.t (i64 n)), (23, PV.t (i64 0))], heap := [AObj.map [] 0, AObj.map [] 0] }) := by kernel_rfl
theorem x18_0_3_2 (N : Nat)  : seqX env N 18 [] 3 2 (⟨slots 70 [], []⟩) = Res.ok (Ex.ret, { tmps := slots 70 [(2, PV.t (i64 0)), (3, PV.t (T.bool false))], heap := [] }) := by kernel_rfl
end Go.Sim

/- topo.Ring: the walk. -/
namespace Go.Sim
open Go.RowKit Go.Proofs
set_option linter.unusedVariables false
set_option linter.unusedSimpArgs false
set_option linter.unusedSectionVars false
set_option maxRecDepth 100000
theorem ex_exit {A C : Prop} {B : Nat → Prop} {j : Nat} (h : B j) : Ex.kP (.exit j) A B C := h
theorem ex_norm {A C : Prop} {B : Nat → Prop} (h : A) : Ex.kP .norm A B C := h
theorem ex_ret {A C : Prop} {B : Nat → Prop} (h : C) : Ex.kP .ret A B C := h
/-- Parts, and parts behind them. -/
theorem seqX_two {E : Env} {n : Nat} {f : FuncId} {p : List Nat} {i : Nat} (a b : Nat) {st s : St} {r : Res (Ex × St)} (h1 : seqX E n f p i a st = .ok (.norm, s)) (h2 : seqX E n f p (i + a) b s = r) : seqX E n f p i (a + b) st = r := by
  unfold seqX at h1 h2 ⊢
  rw [List.take_add, List.drop_drop, seqK_append]
  have := nat_seqK (E := E) (f := f) (fn := funcE E f) (n := n) (base := 0) (runK_nat E n) (Strict.bind fun q : Ex × St => q.1.k (seqK E (recOf E n) f (funcE E f) n 0 (((partsC E f p).drop (i + a)).take b) q.2 fun e s => (.ok (e, s) : Res (Ex × St))) (fun j => .ok (.exit j, q.2)) (.ok (.ret, q.2))) (((partsC E f p).drop i).take a) st fun e s => .ok (e, s)
  rw [h1] at this
  exact this.symm.trans h2
def opNx16 : Oper := { dst := some 37, op := .next (.tmp 36) false, type := 0, pos := "topo.go:64", after := #[], guard := none }
def opEn16 : Oper := { dst := some 39, op := .entry (.tmp 36), type := 0, pos := "topo.go:64", after := #[], guard := none }
/-- A loop that counts into a map. -/
theorem fold_loop {B : St → Res (Ex × St)} {S : List EntN → Nat → Nat → St} {X : List EntN → Nat → St} {id : Nat} (F : List Nat → Nat → List Nat) (xs : List Nat)
    (hs : ∀ we wc ks k x, MapD we wc ks → xs[k]? = some x → ∃ we' wc', MapD we' wc' (F ks x) ∧ B (S we wc k) = .ok (.norm, S we' wc' (k + 1)))
    (he : ∀ we wc, B (S we wc xs.length) = .ok (.exit id, X we wc)) :
    ∀ (m k : Nat) (we : List EntN) (wc : Nat) (ks : List Nat) (n : Nat), k + m = xs.length → MapD we wc ks → m < n → ∃ we' wc', MapD we' wc' ((xs.drop k).foldl F ks) ∧ iterR B n (S we wc k) = .ok (.exit id, X we' wc')
  | 0, k, we, wc, ks, n, hk, h, hn => by
    obtain ⟨n, rfl⟩ : ∃ m, n = m + 1 := ⟨n - 1, by omega⟩
    obtain rfl : k = xs.length := by omega
    refine ⟨we, wc, ?_, iterR_exit (he we wc)⟩
    rw [List.drop_length]; exact h
  | m + 1, k, we, wc, ks, n, hk, h, hn => by
    obtain ⟨n, rfl⟩ : ∃ m, n = m + 1 := ⟨n - 1, by omega⟩
    have hx : xs[k]? = some xs[k] := List.getElem?_eq_getElem (by omega)
    obtain ⟨we1, wc1, h1, h2⟩ := hs we wc ks k _ h hx
    obtain ⟨we2, wc2, h3, h4⟩ := fold_loop F xs hs he m (k + 1) we1 wc1 (F ks xs[k]) n (by omega) h1 (by omega)
    refine ⟨we2, wc2, ?_, by rw [iterR_step h2]; exact h4⟩
    rw [List.drop_eq_getElem_cons (by omega), List.foldl_cons]
    exact h3
variable [Lv]
attribute [local irreducible] partD opD stepD partsC opsX
/-- Loop 2: a node's providers wait. -/
theorem ringL2 {N : Nat} (hN : big + 40 ≤ N) {t : List Cf} {i : Int} (xs : List Nat) (hx : xs.length ≤ big) : ∃ we wc, MapD we wc (xs.foldl addN []) ∧ iterR (bodyX env N 18 [2, 2] 4) N (sRb t i [] 0 [] 0 (natsT xs) ((natsT xs).length : Nat) 0) = .ok (.exit 2, sRb1 t i we wc [] 0) := by
  have hbg := big_val
  have hl : (natsT xs).length = xs.length := by simp [natsT]
  obtain ⟨we, wc, h1, h2⟩ := fold_loop (B := bodyX env N 18 [2, 2] 4) (S := fun we wc (k : Nat) => sRb t i we wc [] 0 (natsT xs) ((natsT xs).length : Nat) (k : Nat)) (X := fun we wc => sRb1 t i we wc [] 0) (id := 2) addN xs
    (fun we wc ks k x h hk => by
      obtain ⟨we', wc', g1, g2⟩ := bumpN_ok h x
      have hkl := (List.getElem?_eq_some_iff.1 hk).1
      refine ⟨we', wc', g1, ?_⟩
      rw [y18_2_2_4, hl, decide_eq_true (by omega), cond_true, atT_get (x := i64 (x : Int)) (by unfold natsT; rw [List.getElem?_map, hk]; rfl)]
      have := g2 fun e c => (Res.ok (Ex.norm, sRb t i e c [] 0 (natsT xs) (xs.length : Nat) (IntKind.i64.wrap ((k : Int) + 1))) : Res (Ex × St))
      unfold bumpN at this
      rw [this, wrap_succ (show k ≤ big by omega)])
    (fun we wc => by
      rw [y18_2_2_4, hl, decide_eq_false (by omega)]; rfl) xs.length 0 [] 0 [] N (by omega) (MapD.nil 0) (by omega)
  exact ⟨we, wc, by simpa using h1, h2⟩
/-- Loop 8: the providers of a node that is done wait, as far as they are not done. -/
theorem ringL8 {N : Nat} (hN : big + 40 ≤ N) {t : List Cf} {i : Int} {we ge : List EntN} {wc gc : Nat} {ws gs : List Nat} (xs : List Nat) (hx : xs.length ≤ big) (hw : MapD we wc ws) (hg : MapD ge gc gs) (ho : Ones ge) :
    ∃ we' wc', MapD we' wc' (xs.foldl (addP gs) ws) ∧ iterR (bodyX env N 18 [2, 2, 5, 2, 1, 2] 4) N (sRg t i we wc ge gc (natsT xs) ((natsT xs).length : Nat) 0) = .ok (.exit 8, sRb1 t i we' wc' ge gc) := by
  have hbg := big_val
  have hl : (natsT xs).length = xs.length := by simp [natsT]
  obtain ⟨we', wc', h1, h2⟩ := fold_loop (B := bodyX env N 18 [2, 2, 5, 2, 1, 2] 4) (S := fun we wc (k : Nat) => sRg t i we wc ge gc (natsT xs) ((natsT xs).length : Nat) (k : Nat)) (X := fun we wc => sRb1 t i we wc ge gc) (id := 8) (addP gs) xs
    (fun we wc ks k x h hk => by
      have hkl := (List.getElem?_eq_some_iff.1 hk).1
      have e0 := x18_2_2_5_2_1_2_4_0_2 N t i we wc ge gc (natsT xs) ((natsT xs).length : Nat) (k : Nat)
      rw [hl, decide_eq_true (by omega), cond_true] at e0
      have e1 := x18_2_2_5_2_1_2_4_2_0_1 N t i we wc ge gc (natsT xs) ((natsT xs).length : Nat) (k : Nat) true
      rw [atT_get (x := i64 (x : Int)) (by unfold natsT; rw [List.getElem?_map, hk]; rfl), hl] at e1
      have e2 := x18_2_2_5_2_1_2_4_2_1_1 N t i we wc ge gc (natsT xs) ((natsT xs).length : Nat) (k : Nat) (x : Nat) true
      rw [keyT_i, chk_true, hl] at e2
      have wr := wrap_succ (show k ≤ big by omega)
      have cut : ∀ {g : Int} {b : Bool}, seqX env N 18 [2, 2, 5, 2, 1, 2, 4, 2] 1 1 (sRh t i we wc ge gc (natsT xs) (xs.length : Nat) (k : Nat) (x : Nat) true) = .ok (.norm, sRh1 t i we wc ge gc (natsT xs) (xs.length : Nat) (k : Nat) (x : Nat) g true b) → seqX env N 18 [2, 2, 5, 2, 1, 2, 4, 2] 0 2 (sRg1 t i we wc ge gc (natsT xs) (xs.length : Nat) (k : Nat) true) = .ok (.norm, sRh1 t i we wc ge gc (natsT xs) (xs.length : Nat) (k : Nat) (x : Nat) g true b) := fun h => by
        exact seqX_two 1 1 e1 h
      have fin : ∀ {g : Int} {b : Bool} {we' : List EntN} {wc' : Nat}, seqX env N 18 [2, 2, 5, 2, 1, 2, 4, 2] 1 1 (sRh t i we wc ge gc (natsT xs) (xs.length : Nat) (k : Nat) (x : Nat) true) = .ok (.norm, sRh1 t i we wc ge gc (natsT xs) (xs.length : Nat) (k : Nat) (x : Nat) g true b) → (seqT env N 18 [2, 2, 5, 2, 1, 2, 4, 2] 2 1 (sRh1 t i we wc ge gc (natsT xs) (xs.length : Nat) (k : Nat) (x : Nat) g true b) (endT env N 18 [2, 2, 5, 2, 1, 2] 4 9 3 1)) = .ok (.norm, sRg t i we' wc' ge gc (natsT xs) (xs.length : Nat) (k + 1 : Nat)) →
          bodyX env N 18 [2, 2, 5, 2, 1, 2] 4 (sRg t i we wc ge gc (natsT xs) ((natsT xs).length : Nat) (k : Nat)) = .ok (.norm, sRg t i we' wc' ge gc (natsT xs) ((natsT xs).length : Nat) (k + 1 : Nat)) := fun h1 h2 => by
        rw [hl]
        exact bodyX_end (p := [2, 2, 5, 2, 1, 2]) (i := 4) (a := 2) (b := 2) (k1 := 1) (k2 := 1) (id := 9) (c := innerC ((partsC env 18 [2, 2, 5, 2, 1, 2, 4]).getD 2 .skip)) (by kernel_rfl) (by kernel_rfl) (by kernel_rfl) (by kernel_rfl) (by kernel_rfl) e0 (cut h1) h2
      unfold addP
      by_cases hn : x ∈ gs
      rotate_left
      · rw [if_neg hn]
        obtain ⟨we', wc', g1, g2⟩ := bumpN_ok h x
        refine ⟨we', wc', g1, fin (g := 0) (b := true) ?_ ?_⟩
        · exact e2.trans ((look_one hg ho x _ _).resolve_right fun h => hn h.1).2
        · rw [zRG1, wr]
          exact g2 fun e c => (Res.ok (Ex.norm, sRg t i e c ge gc (natsT xs) (xs.length : Nat) (k + 1 : Nat)) : Res (Ex × St))
      · rw [if_pos hn]
        refine ⟨we, wc, h, fin (g := 1) (b := false) ?_ ?_⟩
        · obtain ⟨_, _, _, h1⟩ := (look_one hg ho x (Res.ok (Ex.norm, sRh1 t i we wc ge gc (natsT xs) (xs.length : Nat) (k : Nat) (x : Nat) 0 true true)) _).resolve_left fun h => h.1 hn
          exact (e2.trans h1).trans rfl
        · rw [zRG0, wr]; rfl)
    (fun we wc => by
      have e0 := x18_2_2_5_2_1_2_4_0_2 N t i we wc ge gc (natsT xs) ((natsT xs).length : Nat) (xs.length : Nat)
      rw [hl, decide_eq_false (by omega), cond_false] at e0
      rw [hl]
      exact bodyX_exit (p := [2, 2, 5, 2, 1, 2]) (i := 4) (by kernel_rfl) e0 (by kernel_rfl)) xs.length 0 we wc ws N (by omega) hw (by omega)
  exact ⟨we', wc', by simpa using h1, h2⟩
theorem seqT_ok {E : Env} {n : Nat} {f : FuncId} {p : List Nat} {i k : Nat} {st s : St} (h : seqT E n f p i k st (fun e s => e.k (.ok s) (fun _ => .stuck) .stuck) = .ok s) : seqX E n f p i k st = .ok (.norm, s) := by
  rw [seqT_bind] at h
  obtain ⟨⟨e, s'⟩, h1, h2⟩ := bind_ok_inv h
  cases e with
  | norm => simp only [Ex.k, Res.ok.injEq] at h2; subst h2; exact h1
  | exit j => simp [Ex.k] at h2
  | ret => simp [Ex.k] at h2
/-- What holds while nodes wait. -/
def RingI (t : List Cf) (i : Nat) (m : Nat) (st : St) : Prop := ∃ (we : List EntN) (wc : Nat) (ws : List Nat) (ge : List EntN) (gc : Nat) (gs : List Nat), st = sRb1 t (i : Int) we wc ge gc ∧ MapD we wc ws ∧ MapD ge gc gs ∧ Ones ge ∧ (∀ x ∈ ws, x ∉ gs) ∧ Work t i (· ∈ ws) (· ∈ gs) ∧ m + gs.length = t.length
theorem prov_len {t : List Cf} {i : Nat} {c : Cf} (h : t[i]? = some c) : (provR t i).length ≤ c.s.length := by
  unfold provR
  rw [h]
  exact List.length_filterMap_le _ _
theorem cR8 (N : Nat) (t : List Cf) (i : Int) (we : List EntN) (wc : Nat) (ge : List EntN) (gc : Nat) : seqX env N 18 [2, 2, 5, 2, 1, 2] 5 1 (sRb1 t i we wc ge gc) = .ok (.exit 6, sRb1 t i we wc ge gc) := by kernel_rfl
theorem cR5 (t : List Cf) (i : Int) (we : List EntN) (wc : Nat) (ge : List EntN) (gc : Nat) (j v : Int) (n wd : Nat) (xs : List T) (q : Int) : canon 0 (hintX env 18 [2, 2, 5, 2, 1, 2] 4).1 (⟨ slots 70 [(0, PV.t (T.sl 6 (List.map Cf.t t))), (4, PV.t (i64 i)), (5, PV.mp 0), (6, PV.mp 1), (9, PV.t (i64 j)), (13, PV.t (i64 (↑(List.map Cf.t t).length : Int))), (14, PV.t (i64 i)), (36, PV.ptr 2 0), (37, PV.t (T.tup [T.bool true, i64 j, i64 v])), (38, PV.t (T.bool true)), (39, PV.t (T.tup [i64 j, i64 v])), (40, PV.t (i64 j)), (41, PV.mp 0), (42, PV.t (i64 j)), (43, PV.mp 1), (44, PV.t (i64 j)), (45, PV.t (i64 0)), (46, PV.t (i64 1)), (47, PV.t (T.sl 6 (List.map Cf.t t))), (48, PV.t (i64 j)), (49, PV.t (T.sl 1 xs)), (50, PV.t (i64 q)), (51, PV.t (i64 0))], [AObj.map we wc, AObj.map ge gc, AObj.iter 0 wd [n] wd] ⟩) = sRg t i we wc ge gc xs q 0 := by kernel_rfl
theorem cR6 (t : List Cf) (i : Int) (we : List EntN) (wc : Nat) (ge : List EntN) (gc : Nat) : canon 0 (hintX env 18 [2, 2] 5).1 (canon 0 (hintX env 18 [2, 2, 5, 2] 1).2 (sRb1 t i we wc ge gc)) = sRb1 t i we wc ge gc := by kernel_rfl
theorem cRx (t : List Cf) (i : Int) (we : List EntN) (wc : Nat) (ge : List EntN) (gc : Nat) (n : Int) (b : Bool) : canon 0 (hintX env 18 [2, 2] 5).2 (sRw2 t i we wc ge gc n b) = sRx t i ge gc := by kernel_rfl
/-- A node that is done. -/
theorem ring_inner {N : Nat} (hN : big + 80 ≤ N) {t : List Cf} {i x n : Nat} {v : Int} {we ge : List EntN} {wc gc : Nat} {ws gs : List Nat} (ht : okL Cf.ok t) (hts : ∀ c ∈ t, (c.s.length + 1) * 8 ≤ big) (hw : MapD we wc ws) (hg : MapD ge gc gs) (ho : Ones ge) (hx : x ∈ ws) (hxl : x < t.length) (hxg : x ∉ gs) {Q : Ex → St → Prop}
    (hQ : ∀ we2 wc2 ws1 ge1 gc1, (∀ y, y ∈ ws1 ↔ y ∈ ws ∧ y ≠ x) → MapD we2 wc2 ((provR t x).foldl (addP (gs ++ [x])) ws1) → MapD ge1 gc1 (gs ++ [x]) → Ones ge1 → Q (.exit 6) (sRb1 t (i : Int) we2 wc2 ge1 gc1)) :
    partD env N 18 [2, 2, 5, 2, 1, 2] 1 (sRd t (i : Int) we wc ge gc (x : Int) v n) Q := by
  have hbg := big_val
  have z := zRD N t (i : Int) we wc ge gc (x : Int) v n
  rcases findD hw x with ⟨hn, _⟩ | ⟨i1, a, b, hi1, he1, hf1⟩
  · exact absurd hx hn
  have hfg : findE [0] (i64 (x : Int)) ge 0 = some none := by
    rcases findD hg x with ⟨_, h⟩ | ⟨_, _, _, h, _⟩
    · exact h
    · exact absurd (List.mem_of_getElem? h) hxg
  simp only [keyT_i, chk_true, entK, hf1, hfg] at z
  refine partD_x (e := .norm) 2 (seqT_ok z) ?_
  refine ex_norm ?_
  show partD env N 18 [2, 2, 5, 2, 1, 2] 3 (sRd3 t (i : Int) (we.eraseIdx i1) wc (ge ++ [(i64 (x : Int), i64 1, gc)]) (gc + 1) (x : Int) v n wc) _
  have hw1 := hw.strike i1
  have hg1 := hg.add hxg 1
  have ho1 := ho.add (i64 (x : Int)) gc
  have hst : ∀ y, y ∈ ws.eraseIdx i1 ↔ y ∈ ws ∧ y ≠ x := fun y => strike_mem hw.nd hi1
  generalize we.eraseIdx i1 = we1 at hw1
  generalize ge ++ [(i64 (x : Int), i64 1, gc)] = ge1 at hg1 ho1
  generalize ws.eraseIdx i1 = ws1 at hw1 hst
  have hc : t[x]? = some t[x] := List.getElem?_eq_getElem hxl
  obtain ⟨M, rfl⟩ := exM (show 1 ≤ N by omega)
  have z2 := x18_2_2_5_2_1_2_3_1 (M + 1) t (i : Int) we1 wc ge1 (gc + 1) (x : Int) v n wc
  rw [cl_ok (f38_ok (by omega) ht hc (hts _ (List.mem_of_getElem? hc)))] at z2
  simp only [sllT] at z2
  refine partD_x (e := .norm) 1 z2 ?_
  refine ex_norm ?_
  have hpl : (provR t x).length ≤ big := by
    have h1 := prov_len hc
    have h2 := hts _ (List.mem_of_getElem? hc)
    omega
  obtain ⟨we2, wc2, hw2, hit⟩ := ringL8 (N := M + 1) (t := t) (i := (i : Int)) (by omega) (provR t x) hpl hw1 hg1 ho1
  refine partD_loop (p := [2, 2, 5, 2, 1, 2]) (i := 4) (id := 8) (X := sRb1 t (i : Int) we2 wc2 ge1 (gc + 1)) (c := innerC ((partsC env 18 [2, 2, 5, 2, 1, 2]).getD 4 .skip)) (by kernel_rfl) ?_ ?_
  · refine Eq.trans ?_ hit
    exact congrArg _ (cR5 t (i : Int) we1 wc ge1 (gc + 1) (x : Int) v n wc (natsT (provR t x)) ((natsT (provR t x)).length : Nat))
  refine partD_x (e := .exit 6) 1 (cR8 (M + 1) t (i : Int) we2 wc2 ge1 (gc + 1)) ?_
  exact ex_exit (hQ _ _ _ _ _ hst hw2 hg1 ho1)
/-- A range's round: there is none behind it. -/
theorem ring_round {N : Nat} (hN : big + 80 ≤ N) {t : List Cf} {i : Nat} {we ge : List EntN} {wc gc : Nat} {ws gs : List Nat} (ht : okL Cf.ok t) (hts : ∀ c ∈ t, (c.s.length + 1) * 8 ≤ big) (hw : MapD we wc ws) (hg : MapD ge gc gs) (ho : Ones ge) (hne : ws ≠ []) (hwx : ∀ x ∈ ws, x < t.length ∧ x ∉ gs) {Q : Ex → St → Prop}
    (hQ : ∀ x we2 wc2 ws1 ge1 gc1, x ∈ ws → (∀ y, y ∈ ws1 ↔ y ∈ ws ∧ y ≠ x) → MapD we2 wc2 ((provR t x).foldl (addP (gs ++ [x])) ws1) → MapD ge1 gc1 (gs ++ [x]) → Ones ge1 → Q (.exit 6) (sRb1 t (i : Int) we2 wc2 ge1 gc1)) :
    partD env N 18 [2, 2, 5, 2, 1] 0 (sRr t (i : Int) we wc ge gc wc wc []) Q := by
  refine partD_reg (by kernel_rfl) (of_decide_eq_true (by kernel_rfl)) ?_
  refine opD_step (o := opNx16) (by kernel_rfl) ?_
  refine step_next (x := .tmp 36) (l := 2) (m := 0) (since := wc) (last := wc) (c := wc) (seen := []) (es := we) rfl rfl (by kernel_rfl) rfl rfl hw.lt (.inl rfl) (fun hf => ?_) fun e he => ?_
  · exfalso
    have : leftE [] we = we := List.filter_eq_self.2 (by simp)
    rw [this] at hf
    have hlen := hw.len
    rw [hf] at hlen
    exact hne (List.length_eq_zero_iff.1 hlen.symm)
  · have he1 := (List.mem_filter.1 he).1
    obtain ⟨x, v, hx, k2, k3⟩ := hw.mem he1
    generalize e.2.2 = n at k2 k3
    subst k2
    obtain ⟨hxl, hxg⟩ := hwx x hx
    refine opD_y 1 (zRN N t (i : Int) we wc ge gc (x : Int) v n) ?_
    refine ex_norm ?_
    refine partD_block (p := [2, 2, 5, 2, 1]) (i := 2) (id := 7) (c := innerC ((partsC env 18 [2, 2, 5, 2, 1]).getD 2 .skip)) (by kernel_rfl) (by kernel_rfl) ?_
    show partD env N 18 [2, 2, 5, 2, 1, 2] 0 _ _
    refine partD_reg (by kernel_rfl) (of_decide_eq_true (by kernel_rfl)) ?_
    refine opD_step (o := opEn16) (by kernel_rfl) ?_
    refine step_entry (x := .tmp 36) (l := 2) (m := 0) (since := wc) (c := wc) (n := n) (seen := []) (es := we) (e := (i64 (x : Int), i64 v, n)) rfl rfl (by kernel_rfl) rfl rfl k3 ?_
    show opD env N 18 [2, 2, 5, 2, 1, 2] 0 1 (sRe t (i : Int) we wc ge gc (x : Int) v n) _
    refine opD_t (k := 0) (zRE N t (i : Int) we wc ge gc (x : Int) v n) ?_
    refine ring_inner hN ht hts hw hg ho hx hxl hxg fun we2 wc2 ws1 ge1 gc1 h1 h2 h3 h4 => ex_exit ?_
    rw [if_neg (by decide)]
    exact hQ x we2 wc2 ws1 ge1 gc1 hx h1 h2 h3 h4
theorem ring_step {N : Nat} (hN : big + 80 ≤ N) {t : List Cf} {i : Nat} (ht : okL Cf.ok t) (hts : ∀ c ∈ t, (c.s.length + 1) * 8 ≤ big) {Q : Ex → St → Prop}
    (hend : ∀ ge gc gs, MapD ge gc gs → Ones ge → (∀ j, j ∈ gs ↔ Up t i j) → partD env N 18 [2, 2] 6 (sRx t (i : Int) ge gc) Q) (m : Nat) (st : St) (hI : RingI t i m st) :
    partD env N 18 ([2, 2] ++ [5]) 0 st fun e st => e.kP (∃ m', m' < m ∧ RingI t i m' (canon 0 (hintX env 18 [2, 2] 5).1 st))
      (fun j => if j = 4 then partD env N 18 [2, 2] (5 + 1) (canon 0 (hintX env 18 [2, 2] 5).2 st) Q else Q (.exit j) (canon 0 (hintX env 18 [2, 2] 5).2 st)) (Q .ret (canon 0 (resTmps (funcE env 18)) st)) := by
  have hbg := big_val
  have htl := ht.1
  obtain ⟨we, wc, ws, ge, gc, gs, rfl, hw, hg, ho, hd, hk, hm⟩ := hI
  have hwl : ws.length ≤ t.length := nodupN_lt _ _ hw.nd fun x hx => (hk.up x (.inl hx)).lt
  have hlen := hw.len
  show partD env N 18 [2, 2, 5] 0 _ _
  have h1 := x18_2_2_5_0_2 N t (i : Int) we wc ge gc
  rw [decide_eq_true (show we.length ≤ 140737488355328 by omega), chk_true] at h1
  by_cases hne : ws = []
  · rw [hne, List.length_nil] at hlen
    rw [hlen, decide_eq_false (by simp), cond_false] at h1
    refine partD_x (e := .exit 4) 2 h1 ?_
    refine ex_exit (ex_exit ?_)
    rw [if_pos rfl, cRx]
    exact hend ge gc gs hg ho fun j => hk.done (fun j hj => by rw [hne] at hj; cases hj) j
  · rw [decide_eq_true (by have := List.length_pos_iff.2 hne; omega), cond_true] at h1
    refine partD_x (e := .norm) 2 h1 ?_
    refine ex_norm ?_
    refine partD_block (p := [2, 2, 5]) (i := 2) (id := 5) (c := innerC ((partsC env 18 [2, 2, 5]).getD 2 .skip)) (by kernel_rfl) (by kernel_rfl) ?_
    show partD env N 18 [2, 2, 5, 2] 0 _ _
    obtain ⟨st1, g1, g2⟩ := canX_inv (zRR N t (i : Int) we wc ge gc (we.length : Int) true)
    refine partD_y 1 g1 ?_
    refine ex_norm ?_
    refine partD_rloop (p := [2, 2, 5, 2]) (i := 1) (id := 6) (c := innerC ((partsC env 18 [2, 2, 5, 2]).getD 1 .skip)) (by kernel_rfl) (by kernel_rfl) (fun _ st => st = sRr t (i : Int) we wc ge gc wc wc []) (m := 0) g2 ?_
    rintro _ st rfl
    refine ring_round hN ht hts hw hg ho hne (fun x hx => ⟨(hk.up x (.inl hx)).lt, hd x hx⟩) fun x we2 wc2 ws1 ge1 gc1 hx hst hw2 hg1 ho1 => ex_exit ?_
    rw [if_pos rfl]
    refine partD_end (by kernel_rfl) (ex_norm (partD_end (by kernel_rfl) (ex_norm ?_)))
    rw [cR6]
    have hmem : ∀ y, y ∈ (provR t x).foldl (addP (gs ++ [x])) ws1 ↔ (y ∈ ws ∧ y ≠ x) ∨ (y ∈ provR t x ∧ ¬ (y ∈ gs ∨ y = x)) := fun y => by
      rw [addP_mem, hst]; simp
    have hgl : (gs ++ [x]).length ≤ t.length := nodupN_lt _ _ hg1.nd fun y hy => by
      rcases List.mem_append.1 hy with hy | hy
      · exact (hk.up y (.inr hy)).lt
      · rw [List.mem_singleton.1 hy]; exact (hk.up x (.inl hx)).lt
    rw [List.length_append, List.length_singleton] at hgl
    refine ⟨m - 1, by omega, we2, wc2, _, ge1, gc1, gs ++ [x], rfl, hw2, hg1, ho1, fun y hy hy2 => ?_, ?_, by rw [List.length_append, List.length_singleton]; omega⟩
    · have h3 : y ∈ gs ∨ y = x := by simpa using hy2
      rcases (hmem y).1 hy with ⟨h1, h2⟩ | ⟨_, h2⟩
      · exact h3.elim (hd y h1) h2
      · exact h2 h3
    · have e1 : (fun y => y ∈ (provR t x).foldl (addP (gs ++ [x])) ws1) = fun y => (y ∈ ws ∧ y ≠ x) ∨ (y ∈ provR t x ∧ ¬ (y ∈ gs ∨ y = x)) := funext fun y => propext (hmem y)
      have e2 : (fun y => y ∈ gs ++ [x]) = fun y => y ∈ gs ∨ y = x := funext fun y => propext (by simp)
      rw [e1, e2]
      exact hk.step hx
theorem cR0 (N : Nat) (t : List Cf) : canX env 18 [] 2 (seqX env N 18 [] 0 2 (startS env 18 [.t (.sl 6 (t.map Cf.t))])) = .ok (.norm, sRa t 0) := by kernel_rfl
theorem cRz (t : List Cf) (i : Int) (b : Bool) : canon 0 (hintX env 18 [] 2).2 (sRa1 t i b) = ⟨slots 70 [], []⟩ := by kernel_rfl
theorem cR4 (t : List Cf) (i : Int) (b : Bool) (x : List T) (n : Int) : canon 0 (hintX env 18 [2, 2] 4).1 ⟨slots 70 [(0, PV.t (T.sl 6 (List.map Cf.t t))), (4, PV.t (i64 i)), (5, PV.mp 0), (6, PV.mp 1), (13, PV.t (i64 (↑(List.map Cf.t t).length : Int))), (14, PV.t (i64 i)), (15, PV.t (T.bool b)), (16, PV.t (i64 i)), (17, PV.mp 0), (18, PV.mp 1), (19, PV.t (T.sl 6 (List.map Cf.t t))), (20, PV.t (i64 i)), (21, PV.t (.sl 1 x)), (22, PV.t (i64 n)), (23, PV.t (i64 0))], [AObj.map [] 0, AObj.map [] 0]⟩ = sRb t i [] 0 [] 0 x n 0 := by kernel_rfl
theorem cR5b (t : List Cf) (i : Int) (we : List EntN) (wc : Nat) (ge : List EntN) (gc : Nat) : canon 0 (hintX env 18 [2, 2] 5).1 (sRb1 t i we wc ge gc) = sRb1 t i we wc ge gc := by kernel_rfl
theorem addN_mem {y : Nat} : ∀ (l ks : List Nat), y ∈ l.foldl addN ks ↔ y ∈ ks ∨ y ∈ l
  | [], ks => by simp
  | x :: l, ks => by
    rw [List.foldl_cons, addN_mem l, mem_addN, List.mem_cons]
    constructor
    · rintro ((h | h) | h)
      · exact .inl h
      · exact .inr (.inl h)
      · exact .inr (.inr h)
    · rintro (h | h | h)
      · exact .inl (.inl h)
      · exact .inl (.inr h)
      · exact .inr h
/-- A node: what is above it is looked for, and is it there itself? -/
theorem ring_node {N : Nat} (hN : big + 80 ≤ N) {t : List Cf} {i : Nat} (ht : okL Cf.ok t) (hts : ∀ c ∈ t, (c.s.length + 1) * 8 ≤ big) (hi : i < t.length) {Q : Ex → St → Prop}
    (hend : ∀ ge gc gs, MapD ge gc gs → Ones ge → (∀ j, j ∈ gs ↔ Up t i j) → partD env N 18 [2, 2] 6 (sRx t (i : Int) ge gc) Q) : partD env N 18 [2, 2] 0 (sRa1 t (i : Int) true) Q := by
  have hbg := big_val
  obtain ⟨M, rfl⟩ := exM (show 1 ≤ N by omega)
  have hc : t[i]? = some t[i] := List.getElem?_eq_getElem hi
  have z := x18_2_2_0_4 (M + 1) t (i : Int) true
  rw [cl_ok (f38_ok (by omega) ht hc (hts _ (List.mem_of_getElem? hc)))] at z
  simp only [sllT] at z
  refine partD_x (e := .norm) 4 z ?_
  refine ex_norm ?_
  have hpl : (provR t i).length ≤ big := by
    have h1 := prov_len hc
    have h2 := hts _ (List.mem_of_getElem? hc)
    omega
  obtain ⟨we, wc, hw, hit⟩ := ringL2 (N := M + 1) (t := t) (i := (i : Int)) (by omega) (provR t i) hpl
  refine partD_loop (p := [2, 2]) (i := 4) (id := 2) (X := sRb1 t (i : Int) we wc [] 0) (c := innerC ((partsC env 18 [2, 2]).getD 4 .skip)) (by kernel_rfl) ?_ ?_
  · refine Eq.trans ?_ hit
    exact congrArg _ (cR4 t (i : Int) true (natsT (provR t i)) ((natsT (provR t i)).length : Nat))
  have hm : ∀ y, y ∈ (provR t i).foldl addN [] ↔ y ∈ provR t i := fun y => by rw [addN_mem]; simp
  refine partD_rloop (p := [2, 2]) (i := 5) (id := 4) (c := innerC ((partsC env 18 [2, 2]).getD 5 .skip)) (by kernel_rfl) (by kernel_rfl) (RingI t i) (m := t.length) ?_ (ring_step hN ht hts hend)
  rw [cR5b]
  exact ⟨we, wc, _, [], 0, [], rfl, hw, MapD.nil 0, fun e he => (by cases he), fun x _ h => (by cases h), ⟨fun j hj => hj.elim (fun h => .one ((hm j).1 h)) (fun h => (by cases h)), fun j hj => .inl ((hm j).2 hj), fun j hj => (by cases hj)⟩, by simp⟩
/-- What it answers, told by the first node that is above itself. -/
theorem ring_some {t : List Cf} {i : Nat} (hi : i < t.length) (h : Up t i i) (hb : ∀ j < i, ¬ Up t j j) : ringR t = some i := by
  unfold ringR
  rw [List.find?_eq_some_iff_getElem]
  refine ⟨(steps_iff hi).2 h, i, by rw [List.length_range]; exact hi, List.getElem_range _, fun j hj => ?_⟩
  rw [List.getElem_range]
  cases hs : stepsU t j t.length j with
  | true => exact absurd ((steps_iff (by omega)).1 hs) (hb j hj)
  | false => rfl
theorem ring_none {t : List Cf} (hb : ∀ j < t.length, ¬ Up t j j) : ringR t = none := by
  unfold ringR
  rw [List.find?_eq_none]
  intro j hj
  rw [List.mem_range] at hj
  intro h
  exact hb j hj ((steps_iff hj).1 h)
theorem cRend1 (i : Nat) (R : PV → List AObj → Prop) (h : ∀ r H', outK env 18 r H' = .ok (oneT (some i)) → R r H') : endD env (funcE env 18) R ⟨slots 70 [(2, PV.t (i64 (i : Int))), (3, PV.t (T.bool true))], []⟩ := ⟨.tup [.t (i64 (i : Int)), .t (.bool true)], [], by kernel_rfl, h _ _ (by kernel_rfl)⟩
theorem cRend0 (R : PV → List AObj → Prop) (h : ∀ r H', outK env 18 r H' = .ok (oneT none) → R r H') : endD env (funcE env 18) R ⟨slots 70 [(2, PV.t (i64 0)), (3, PV.t (T.bool false))], []⟩ := ⟨.tup [.t (i64 0), .t (.bool false)], [], by kernel_rfl, h _ _ (by kernel_rfl)⟩
theorem ring_funD {N : Nat} (hN : big + 80 ≤ N) {t : List Cf} (ht : okL Cf.ok t) (hts : ∀ c ∈ t, (c.s.length + 1) * 8 ≤ big) : funD env (recOf env N) 18 ([T.sl 6 (t.map Cf.t)].map .t) [] (fun r H' => outK env 18 r H' = .ok (oneT (ringR t))) := by
  have hbg := big_val
  have htl := ht.1
  refine funD_parts ⟨funcE env 18, by kernel_rfl, by kernel_rfl⟩ ?_
  refine partD_xrloop (i := 0) 2 (id := 0) (c := innerC ((partsC env 18 []).getD 2 .skip)) (cR0 N t) (by kernel_rfl) (by kernel_rfl) (fun k st => ∃ i : Nat, i + k = t.length ∧ st = sRa t (i : Nat) ∧ ∀ j < i, ¬ Up t j j) (m := t.length) ⟨0, by omega, rfl, by simp⟩ ?_
  rintro k st ⟨i, hik, rfl, hb⟩
  show partD env N 18 [2] 0 _ _
  have h1 := x18_2_0_2 N t (i : Nat)
  by_cases hi : i < t.length
  · rw [decide_eq_true (by rw [List.length_map]; omega), cond_true] at h1
    refine partD_x (e := .norm) 2 h1 ?_
    refine ex_norm ?_
    refine partD_block (p := [2]) (i := 2) (id := 1) (c := innerC ((partsC env 18 [2]).getD 2 .skip)) (by kernel_rfl) (by kernel_rfl) ?_
    refine ring_node hN ht hts hi fun ge gc gs hg ho hup => ?_
    have z := zRX N t (i : Nat) ge gc
    rw [keyT_i, chk_true, wrap_succ (show i ≤ big by omega)] at z
    by_cases hr : i ∈ gs
    · obtain ⟨_, _, _, hk⟩ := (look_one hg ho i (Res.ok (Ex.norm, sRa t (i + 1 : Nat))) _).resolve_left fun h => h.1 hr
      refine partD_endT (p := []) (i := 2) (a := 2) (b := 6) (k1 := 2) (k2 := 1) (id := 1) (by kernel_rfl) (by kernel_rfl) (z.trans hk) fun e' s' he => ?_
      cases e' with
      | norm => simp [endC, Ex.k] at he
      | exit j => simp [endC, Ex.k] at he
      | ret =>
        simp only [endC, Ex.k, Res.ok.injEq, Prod.mk.injEq, true_and] at he
        refine ex_ret ?_
        refine ex_ret ?_
        rw [he]
        exact cRend1 i _ fun r H' h => by rw [ring_some hi ((hup i).1 hr) hb]; exact h
    · have hk : ∀ B, entK [0] (i64 (i : Int)) ge (Res.ok (Ex.norm, sRa t (i + 1 : Nat))) B = Res.ok (Ex.norm, sRa t (i + 1 : Nat)) := fun B => ((look_one hg ho i (Res.ok (Ex.norm, sRa t (i + 1 : Nat))) B).resolve_right fun h => hr h.1).2
      refine partD_endT (p := []) (i := 2) (a := 2) (b := 6) (k1 := 2) (k2 := 1) (id := 1) (by kernel_rfl) (by kernel_rfl) (z.trans (hk _)) fun e' s' he => ?_
      cases e' with
      | norm =>
        simp only [endC, Ex.k, Res.ok.injEq, Prod.mk.injEq, true_and] at he
        refine ex_norm ⟨k - 1, by omega, i + 1, by omega, he, fun j hj => ?_⟩
        rcases Nat.lt_succ_iff_lt_or_eq.1 hj with h | rfl
        · exact hb j h
        · exact fun h => hr ((hup _).2 h)
      | exit j => simp [endC, Ex.k] at he
      | ret => simp [endC, Ex.k] at he
  · rw [decide_eq_false (by rw [List.length_map]; omega), cond_false] at h1
    refine partD_x (e := .exit 0) 2 h1 ?_
    refine ex_exit (ex_exit ?_)
    rw [if_pos rfl, cRz]
    refine partD_x (e := .ret) 2 (x18_0_3_2 N) ?_
    refine ex_ret ?_
    refine cRend0 _ fun r H' h => ?_
    rw [ring_none fun j hj => hb j (by omega)]; exact h
end Go.Sim

/- topo.Gao: what it answers, on plain data; its states. -/
namespace Go.Sim
open Go.RowKit Go.Proofs
set_option linter.unusedVariables false
set_option linter.unusedSimpArgs false
set_option linter.unusedSectionVars false
set_option maxRecDepth 100000

/-- A side of a node that takes and tells as customers, peers and providers do. -/
def sideG (a r : Int) : Sd := ⟨a, r, [⟨0, ⟨0, 0⟩, 0, 2, 400 - 100 * r⟩], if r = 1 then [⟨0, ⟨0, 0⟩, 0, 1, 0⟩] else [⟨4, ⟨0, 0⟩, 0, 1, 0⟩, ⟨4, ⟨0, 0⟩, 1, 1, 0⟩]⟩
def ownG (own : List Px) (i : Nat) : List Px := match own[i]? with | some p => if psane p then [p] else [] | none => []
def nodeG (own : List Px) (i : Nat) : Cf := ⟨65001 + (i : Int), 167772161 + (i : Int), 90, 1000, ownG own i, []⟩
def numG (n : Int) : Nat := (max 1 (min n 8)).toNat
def goodL (m : Nat) (x : Lk) : Bool := decide (0 ≤ x.a) && decide (x.a < m) && decide (0 ≤ x.b) && decide (x.b < m) && !(x.a == x.b) && decide (1 ≤ x.r) && decide (x.r ≤ 3)
/-- One side more. -/
def addS (c : Cf) (s : Sd) : Cf := { c with s := c.s ++ [s] }
def linkG (t : List Cf) (x : Lk) : List Cf := if goodL t.length x then (match t[x.a.toNat]?, t[x.b.toNat]? with
  | some c, some d => if (idxOf c d.a).isSome then t else (t.set x.a.toNat (addS c (sideG d.a x.r))).set x.b.toNat (addS d (sideG c.a (4 - x.r)))
  | _, _ => t) else t
def gaoR (n : Int) (own : List Px) (l : List Lk) : List Cf := l.foldl linkG ((List.range (numG n)).map (nodeG own))

/-! ### states -/
def cellsG : Nat → List Cf → List PV
  | _, [] => []
  | b, c :: r => .t (i64 c.a) :: .t (i64 c.d) :: .t (i64 c.h) :: .t (i64 c.k) :: .t (.sl 2 (c.w.map Px.t)) :: .own b :: cellsG (b + 1) r
def zerosG : Nat → List PV
  | 0 => []
  | n + 1 => .t (i64 0) :: .t (i64 0) :: .t (i64 0) :: .t (i64 0) :: .nil 66 2 :: .nil 48 4 :: zerosG n
def rowsG : List Cf → List AObj
  | [] => []
  | c :: r => .row 48 4 (c.s.map Sd.t) :: rowsG r
def heapG (m : Nat) (t : List Cf) (H : List AObj) : List AObj := .box 22 1 (.own 1) :: .vec 45 6 m (cellsG 2 t ++ zerosG (m - t.length)) :: (rowsG t ++ H)
def sG1 (own : List Px) (l : List Lk) (m : Nat) (t : List Cf) : St := ⟨slots 153 [(1, .t (.sl 2 (own.map Px.t))), (2, .t (.sl 3 (l.map Lk.t))), (7, .ptr 0 0), (19, .t (i64 m)), (20, .t (i64 t.length))], heapG m t []⟩
def sG1x (l : List Lk) (t : List Cf) : St := ⟨slots 153 [(2, .t (.sl 3 (l.map Lk.t))), (7, .ptr 0 0)], heapG t.length t []⟩
def lvG (l : List Lk) (j : Int) : List (Nat × PV) := [(7, .ptr 0 0), (9, .fn 42 [] [.ptr 0 0]), (55, .t (.sl 3 (l.map Lk.t))), (56, .t (i64 (l.map Lk.t).length)), (57, .t (i64 j))]
def sG2 (l : List Lk) (t : List Cf) (j : Int) : St := ⟨slots 153 (lvG l j), heapG t.length t []⟩
def sG2x (t : List Cf) : St := ⟨slots 153 [(7, .ptr 0 0)], heapG t.length t []⟩
/-- In a round: the link lies in a box. -/
def sG3 (l : List Lk) (t : List Cf) (j : Int) (x : Lk) (d : Nat → PV) : St := ⟨slotsD 153 d ((11, .ptr (t.length + 2) 0) :: lvG l j), heapG t.length t [.box 40 3 (.t x.t)]⟩
def sG4 (l : List Lk) (t : List Cf) (j : Int) (x : Lk) (b : Bool) (d : Nat → PV) : St := ⟨slotsD 153 d ((11, .ptr (t.length + 2) 0) :: (13, .t (.bool b)) :: lvG l j), heapG t.length t [.box 40 3 (.t x.t)]⟩
variable [Lv]
end Go.Sim

/- What calls come to: printed by wip/tools/eq2.py: topo.Gao, its nodes. -/
namespace Go.Sim
open Go.RowKit Go.Proofs
set_option linter.unusedVariables false
set_option maxRecDepth 100000
variable [Lv]

def sG1b (own : List Px) (l : List Lk) (m i : Nat) (H : List AObj) : St := ⟨slots 153 [(1, .t (.sl 2 (own.map Px.t))), (2, .t (.sl 3 (l.map Lk.t))), (7, .ptr 0 0), (8, .t (i64 i)), (19, .t (i64 m)), (20, .t (i64 i))], H⟩
theorem zGE2 (N : Nat) (own : List Px) (l : List Lk) (m i : Nat) (H : List AObj) : (seqX env N 21 [3, 2] 2 1 (sG1b own l m i H)) = bif decide ((↑i : Int) < (↑(List.map Px.t own).length : Int)) then atT (List.map Px.t own) (↑i : Int) fun e => cl N 41 [e] fun x => Res.ok (Ex.norm, { tmps := slots 153 [(1, PV.t (T.sl 2 (List.map Px.t own))), (2, PV.t (T.sl 3 (List.map Lk.t l))), (7, PV.ptr 0 0), (8, PV.t (i64 (↑i : Int))), (19, PV.t (i64 (↑m : Int))), (20, PV.t (i64 (↑i : Int))), (31, PV.t (i64 (↑i : Int))), (32, PV.t (T.sl 2 (List.map Px.t own))), (33, PV.t (i64 (↑(List.map Px.t own).length : Int))), (34, PV.t (T.bool (decide ((↑i : Int) < (↑(List.map Px.t own).length : Int))))), (35, PV.t (T.bool true)), (36, PV.t (T.sl 2 (List.map Px.t own))), (37, PV.t (i64 (↑i : Int))), (38, PV.rp 2 e 0), (39, PV.t e), (40, PV.t x), (41, PV.t x)], heap := H }) else Res.ok (Ex.norm, { tmps := slots 153 [(1, PV.t (T.sl 2 (List.map Px.t own))), (2, PV.t (T.sl 3 (List.map Lk.t l))), (7, PV.ptr 0 0), (8, PV.t (i64 (↑i : Int))), (19, PV.t (i64 (↑m : Int))), (20, PV.t (i64 (↑i : Int))), (31, PV.t (i64 (↑i : Int))), (32, PV.t (T.sl 2 (List.map Px.t own))), (33, PV.t (i64 (↑(List.map Px.t own).length : Int))), (34, PV.t (T.bool (decide ((↑i : Int) < (↑(List.map Px.t own).length : Int))))), (35, PV.t (T.bool false)), (36, PV.tup []), (37, PV.tup []), (38, PV.tup []), (39, PV.tup []), (40, PV.tup []), (41, PV.t (T.bool false))], heap := H }) := by kernel_rfl
def sG1c (own : List Px) (l : List Lk) (m i : Nat) (H : List AObj) : St := ⟨slots 153 [(1, .t (.sl 2 (own.map Px.t))), (2, .t (.sl 3 (l.map Lk.t))), (7, .ptr 0 0), (8, .t (i64 i)), (19, .t (i64 m)), (20, .t (i64 i)), (41, .t (.bool true))], H⟩
end Go.Sim

/- topo.Gao's round over a node (printed by wip/tools/geng16e.py). -/
namespace Go.Sim
open Go.RowKit Go.Proofs
set_option linter.unusedVariables false
set_option linter.unusedSimpArgs false
set_option linter.unusedSectionVars false
set_option maxRecDepth 100000
variable [Lv]
/-- A node, as it is laid first. -/
def node0 (i : Nat) : Cf := ⟨65001 + (i : Int), 167772161 + (i : Int), 90, 1000, [], []⟩
def lv1G (own : List Px) (l : List Lk) (m i : Nat) : List (Nat × PV) := [(1, .t (.sl 2 (own.map Px.t))), (2, .t (.sl 3 (l.map Lk.t))), (7, .ptr 0 0), (19, .t (i64 m)), (20, .t (i64 i))]
def sG1e (own : List Px) (l : List Lk) (m i : Nat) (H : List AObj) (d : Nat → PV) : St := ⟨slotsD 153 d (lv1G own l m i), H⟩
/-- The nodes' heap, with one cell written. -/
def heapW (m : Nat) (t : List Cf) (W : List T) : List AObj := (heapG m t []).set 1 (.vec 45 6 m ((cellsG 2 t ++ zerosG (m - t.length)).set (6 * (t.length - 1) + 4) (.full 2 W)))
def sG1d (own : List Px) (l : List Lk) (m i : Nat) (H : List AObj) : St := ⟨slots 153 [(1, .t (.sl 2 (own.map Px.t))), (2, .t (.sl 3 (l.map Lk.t))), (7, .ptr 0 0), (8, .t (i64 i)), (19, .t (i64 m)), (20, .t (i64 i)), (41, .t (.bool true)), (42, .own 1), (43, .t (i64 i)), (44, .t (.sl 2 (own.map Px.t))), (45, .t (i64 i)), (46, .t (i64 i)), (47, .t (i64 ((i + 1 : Nat) : Int))), (48, .t (i64 i)), (49, .t (i64 ((i + 1 : Nat) : Int))), (50, .full 2 (((own.map Px.t).take (i + 1)).drop i)), (51, .eptr 1 6 i 0), (52, .eptr 1 6 i 4)], H⟩
def lastW (t : List Cf) (W : List Px) : List Cf := t.take (t.length - 1) ++ (t.drop (t.length - 1)).map fun c => { c with w := W }
noncomputable def op5 : Array Oper := opsX env 21 [3, 2] 1
noncomputable def op8 : Array Oper := opsX env 21 [3] 3
/-- t0: the nodes ahead of this one; t: with this one. -/
structure NodeA (N : Nat) (own : List Px) (l : List Lk) (m : Nat) (t0 : List Cf) : Prop where
  n1 : (opsK env (recOf env N) op5 (op5.toList.map fun o => (o, false)) (sG1b own l m t0.length (heapG m t0 [])) fun s => (.ok s : Res St)).bind (fun s => (.ok ⟨keepOnly [1, 2, 7, 8, 19, 20] s.tmps, thawCell 1 (6 * t0.length + 4) (nilCell 1 (6 * t0.length + 5) s.heap)⟩ : Res St)) = .ok (sG1b own l m t0.length (heapG m (t0 ++ [node0 t0.length]) []))
structure NodeB (N : Nat) (own : List Px) (l : List Lk) (m i : Nat) (t : List Cf) : Prop where
  n3 : seqX env N 21 [3, 2] 3 1 (sG1c own l m i (heapG m t [])) = chk (decide ((0 : Int) ≤ ((i + 1 : Nat) : Int)) && decide (((i + 1 : Nat) : Int) ≤ (((own.map Px.t).length : Nat) : Int))) (.ok (.norm, sG1d own l m i (heapW m t (((own.map Px.t).take (i + 1)).drop i))))
  n4 : ∀ (W : List Px) (d : Nat → PV), (opsK env (recOf env N) op8 (op8.toList.map fun o => (o, false)) (sG1e own l m i (heapW m t (W.map Px.t)) d) fun s => (.ok s : Res St)).bind (fun s => (.ok ⟨keepOnly [1, 2, 7, 19, 20] s.tmps, thawCell 1 (6 * i + 4) s.heap⟩ : Res St)) = .ok (sG1 own l m (lastW t W))
  n6 : ∀ (d : Nat → PV), (opsK env (recOf env N) op8 (op8.toList.map fun o => (o, false)) (sG1e own l m i (heapG m t []) d) fun s => (.ok s : Res St)).bind (fun s => (.ok ⟨keepOnly [1, 2, 7, 19, 20] s.tmps, thawCell 1 (6 * i + 4) s.heap⟩ : Res St)) = .ok (sG1 own l m t)
  n5 : canon 0 (hintX env 21 [] 3).1 (sG1 own l m t) = sG1 own l m t
theorem na0_1 (N : Nat) (own : List Px) (l : List Lk)  : NodeA N own l 1 [] := ⟨by kernel_rfl⟩
theorem nb0_1 (N : Nat) (own : List Px) (l : List Lk) (c0 : Cf) : NodeB N own l 1 0 [c0] := ⟨by kernel_rfl, fun W d => by kernel_rfl, fun d => by kernel_rfl, by kernel_rfl⟩
theorem na0_2 (N : Nat) (own : List Px) (l : List Lk)  : NodeA N own l 2 [] := ⟨by kernel_rfl⟩
theorem nb0_2 (N : Nat) (own : List Px) (l : List Lk) (c0 : Cf) : NodeB N own l 2 0 [c0] := ⟨by kernel_rfl, fun W d => by kernel_rfl, fun d => by kernel_rfl, by kernel_rfl⟩
theorem na0_3 (N : Nat) (own : List Px) (l : List Lk)  : NodeA N own l 3 [] := ⟨by kernel_rfl⟩
theorem nb0_3 (N : Nat) (own : List Px) (l : List Lk) (c0 : Cf) : NodeB N own l 3 0 [c0] := ⟨by kernel_rfl, fun W d => by kernel_rfl, fun d => by kernel_rfl, by kernel_rfl⟩
theorem na0_4 (N : Nat) (own : List Px) (l : List Lk)  : NodeA N own l 4 [] := ⟨by kernel_rfl⟩
theorem nb0_4 (N : Nat) (own : List Px) (l : List Lk) (c0 : Cf) : NodeB N own l 4 0 [c0] := ⟨by kernel_rfl, fun W d => by kernel_rfl, fun d => by kernel_rfl, by kernel_rfl⟩
theorem na0_5 (N : Nat) (own : List Px) (l : List Lk)  : NodeA N own l 5 [] := ⟨by kernel_rfl⟩
theorem nb0_5 (N : Nat) (own : List Px) (l : List Lk) (c0 : Cf) : NodeB N own l 5 0 [c0] := ⟨by kernel_rfl, fun W d => by kernel_rfl, fun d => by kernel_rfl, by kernel_rfl⟩
theorem na0_6 (N : Nat) (own : List Px) (l : List Lk)  : NodeA N own l 6 [] := ⟨by kernel_rfl⟩
theorem nb0_6 (N : Nat) (own : List Px) (l : List Lk) (c0 : Cf) : NodeB N own l 6 0 [c0] := ⟨by kernel_rfl, fun W d => by kernel_rfl, fun d => by kernel_rfl, by kernel_rfl⟩
theorem na0_7 (N : Nat) (own : List Px) (l : List Lk)  : NodeA N own l 7 [] := ⟨by kernel_rfl⟩
theorem nb0_7 (N : Nat) (own : List Px) (l : List Lk) (c0 : Cf) : NodeB N own l 7 0 [c0] := ⟨by kernel_rfl, fun W d => by kernel_rfl, fun d => by kernel_rfl, by kernel_rfl⟩
theorem na0_8 (N : Nat) (own : List Px) (l : List Lk)  : NodeA N own l 8 [] := ⟨by kernel_rfl⟩
theorem nb0_8 (N : Nat) (own : List Px) (l : List Lk) (c0 : Cf) : NodeB N own l 8 0 [c0] := ⟨by kernel_rfl, fun W d => by kernel_rfl, fun d => by kernel_rfl, by kernel_rfl⟩
theorem na1_2 (N : Nat) (own : List Px) (l : List Lk) (c0 : Cf) : NodeA N own l 2 [c0] := ⟨by kernel_rfl⟩
theorem nb1_2 (N : Nat) (own : List Px) (l : List Lk) (c0 c1 : Cf) : NodeB N own l 2 1 [c0, c1] := ⟨by kernel_rfl, fun W d => by kernel_rfl, fun d => by kernel_rfl, by kernel_rfl⟩
theorem na1_3 (N : Nat) (own : List Px) (l : List Lk) (c0 : Cf) : NodeA N own l 3 [c0] := ⟨by kernel_rfl⟩
theorem nb1_3 (N : Nat) (own : List Px) (l : List Lk) (c0 c1 : Cf) : NodeB N own l 3 1 [c0, c1] := ⟨by kernel_rfl, fun W d => by kernel_rfl, fun d => by kernel_rfl, by kernel_rfl⟩
theorem na1_4 (N : Nat) (own : List Px) (l : List Lk) (c0 : Cf) : NodeA N own l 4 [c0] := ⟨by kernel_rfl⟩
theorem nb1_4 (N : Nat) (own : List Px) (l : List Lk) (c0 c1 : Cf) : NodeB N own l 4 1 [c0, c1] := ⟨by kernel_rfl, fun W d => by kernel_rfl, fun d => by kernel_rfl, by kernel_rfl⟩
theorem na1_5 (N : Nat) (own : List Px) (l : List Lk) (c0 : Cf) : NodeA N own l 5 [c0] := ⟨by kernel_rfl⟩
theorem nb1_5 (N : Nat) (own : List Px) (l : List Lk) (c0 c1 : Cf) : NodeB N own l 5 1 [c0, c1] := ⟨by kernel_rfl, fun W d => by kernel_rfl, fun d => by kernel_rfl, by kernel_rfl⟩
theorem na1_6 (N : Nat) (own : List Px) (l : List Lk) (c0 : Cf) : NodeA N own l 6 [c0] := ⟨by kernel_rfl⟩
theorem nb1_6 (N : Nat) (own : List Px) (l : List Lk) (c0 c1 : Cf) : NodeB N own l 6 1 [c0, c1] := ⟨by kernel_rfl, fun W d => by kernel_rfl, fun d => by kernel_rfl, by kernel_rfl⟩
theorem na1_7 (N : Nat) (own : List Px) (l : List Lk) (c0 : Cf) : NodeA N own l 7 [c0] := ⟨by kernel_rfl⟩
theorem nb1_7 (N : Nat) (own : List Px) (l : List Lk) (c0 c1 : Cf) : NodeB N own l 7 1 [c0, c1] := ⟨by kernel_rfl, fun W d => by kernel_rfl, fun d => by kernel_rfl, by kernel_rfl⟩
theorem na1_8 (N : Nat) (own : List Px) (l : List Lk) (c0 : Cf) : NodeA N own l 8 [c0] := ⟨by kernel_rfl⟩
theorem nb1_8 (N : Nat) (own : List Px) (l : List Lk) (c0 c1 : Cf) : NodeB N own l 8 1 [c0, c1] := ⟨by kernel_rfl, fun W d => by kernel_rfl, fun d => by kernel_rfl, by kernel_rfl⟩
theorem na2_3 (N : Nat) (own : List Px) (l : List Lk) (c0 c1 : Cf) : NodeA N own l 3 [c0, c1] := ⟨by kernel_rfl⟩
theorem nb2_3 (N : Nat) (own : List Px) (l : List Lk) (c0 c1 c2 : Cf) : NodeB N own l 3 2 [c0, c1, c2] := ⟨by kernel_rfl, fun W d => by kernel_rfl, fun d => by kernel_rfl, by kernel_rfl⟩
theorem na2_4 (N : Nat) (own : List Px) (l : List Lk) (c0 c1 : Cf) : NodeA N own l 4 [c0, c1] := ⟨by kernel_rfl⟩
theorem nb2_4 (N : Nat) (own : List Px) (l : List Lk) (c0 c1 c2 : Cf) : NodeB N own l 4 2 [c0, c1, c2] := ⟨by kernel_rfl, fun W d => by kernel_rfl, fun d => by kernel_rfl, by kernel_rfl⟩
theorem na2_5 (N : Nat) (own : List Px) (l : List Lk) (c0 c1 : Cf) : NodeA N own l 5 [c0, c1] := ⟨by kernel_rfl⟩
theorem nb2_5 (N : Nat) (own : List Px) (l : List Lk) (c0 c1 c2 : Cf) : NodeB N own l 5 2 [c0, c1, c2] := ⟨by kernel_rfl, fun W d => by kernel_rfl, fun d => by kernel_rfl, by kernel_rfl⟩
theorem na2_6 (N : Nat) (own : List Px) (l : List Lk) (c0 c1 : Cf) : NodeA N own l 6 [c0, c1] := ⟨by kernel_rfl⟩
theorem nb2_6 (N : Nat) (own : List Px) (l : List Lk) (c0 c1 c2 : Cf) : NodeB N own l 6 2 [c0, c1, c2] := ⟨by kernel_rfl, fun W d => by kernel_rfl, fun d => by kernel_rfl, by kernel_rfl⟩
theorem na2_7 (N : Nat) (own : List Px) (l : List Lk) (c0 c1 : Cf) : NodeA N own l 7 [c0, c1] := ⟨by kernel_rfl⟩
theorem nb2_7 (N : Nat) (own : List Px) (l : List Lk) (c0 c1 c2 : Cf) : NodeB N own l 7 2 [c0, c1, c2] := ⟨by kernel_rfl, fun W d => by kernel_rfl, fun d => by kernel_rfl, by kernel_rfl⟩
theorem na2_8 (N : Nat) (own : List Px) (l : List Lk) (c0 c1 : Cf) : NodeA N own l 8 [c0, c1] := ⟨by kernel_rfl⟩
theorem nb2_8 (N : Nat) (own : List Px) (l : List Lk) (c0 c1 c2 : Cf) : NodeB N own l 8 2 [c0, c1, c2] := ⟨by kernel_rfl, fun W d => by kernel_rfl, fun d => by kernel_rfl, by kernel_rfl⟩
theorem na3_4 (N : Nat) (own : List Px) (l : List Lk) (c0 c1 c2 : Cf) : NodeA N own l 4 [c0, c1, c2] := ⟨by kernel_rfl⟩
theorem nb3_4 (N : Nat) (own : List Px) (l : List Lk) (c0 c1 c2 c3 : Cf) : NodeB N own l 4 3 [c0, c1, c2, c3] := ⟨by kernel_rfl, fun W d => by kernel_rfl, fun d => by kernel_rfl, by kernel_rfl⟩
theorem na3_5 (N : Nat) (own : List Px) (l : List Lk) (c0 c1 c2 : Cf) : NodeA N own l 5 [c0, c1, c2] := ⟨by kernel_rfl⟩
theorem nb3_5 (N : Nat) (own : List Px) (l : List Lk) (c0 c1 c2 c3 : Cf) : NodeB N own l 5 3 [c0, c1, c2, c3] := ⟨by kernel_rfl, fun W d => by kernel_rfl, fun d => by kernel_rfl, by kernel_rfl⟩
theorem na3_6 (N : Nat) (own : List Px) (l : List Lk) (c0 c1 c2 : Cf) : NodeA N own l 6 [c0, c1, c2] := ⟨by kernel_rfl⟩
theorem nb3_6 (N : Nat) (own : List Px) (l : List Lk) (c0 c1 c2 c3 : Cf) : NodeB N own l 6 3 [c0, c1, c2, c3] := ⟨by kernel_rfl, fun W d => by kernel_rfl, fun d => by kernel_rfl, by kernel_rfl⟩
theorem na3_7 (N : Nat) (own : List Px) (l : List Lk) (c0 c1 c2 : Cf) : NodeA N own l 7 [c0, c1, c2] := ⟨by kernel_rfl⟩
theorem nb3_7 (N : Nat) (own : List Px) (l : List Lk) (c0 c1 c2 c3 : Cf) : NodeB N own l 7 3 [c0, c1, c2, c3] := ⟨by kernel_rfl, fun W d => by kernel_rfl, fun d => by kernel_rfl, by kernel_rfl⟩
theorem na3_8 (N : Nat) (own : List Px) (l : List Lk) (c0 c1 c2 : Cf) : NodeA N own l 8 [c0, c1, c2] := ⟨by kernel_rfl⟩
theorem nb3_8 (N : Nat) (own : List Px) (l : List Lk) (c0 c1 c2 c3 : Cf) : NodeB N own l 8 3 [c0, c1, c2, c3] := ⟨by kernel_rfl, fun W d => by kernel_rfl, fun d => by kernel_rfl, by kernel_rfl⟩
theorem na4_5 (N : Nat) (own : List Px) (l : List Lk) (c0 c1 c2 c3 : Cf) : NodeA N own l 5 [c0, c1, c2, c3] := ⟨by kernel_rfl⟩
theorem nb4_5 (N : Nat) (own : List Px) (l : List Lk) (c0 c1 c2 c3 c4 : Cf) : NodeB N own l 5 4 [c0, c1, c2, c3, c4] := ⟨by kernel_rfl, fun W d => by kernel_rfl, fun d => by kernel_rfl, by kernel_rfl⟩
theorem na4_6 (N : Nat) (own : List Px) (l : List Lk) (c0 c1 c2 c3 : Cf) : NodeA N own l 6 [c0, c1, c2, c3] := ⟨by kernel_rfl⟩
theorem nb4_6 (N : Nat) (own : List Px) (l : List Lk) (c0 c1 c2 c3 c4 : Cf) : NodeB N own l 6 4 [c0, c1, c2, c3, c4] := ⟨by kernel_rfl, fun W d => by kernel_rfl, fun d => by kernel_rfl, by kernel_rfl⟩
theorem na4_7 (N : Nat) (own : List Px) (l : List Lk) (c0 c1 c2 c3 : Cf) : NodeA N own l 7 [c0, c1, c2, c3] := ⟨by kernel_rfl⟩
theorem nb4_7 (N : Nat) (own : List Px) (l : List Lk) (c0 c1 c2 c3 c4 : Cf) : NodeB N own l 7 4 [c0, c1, c2, c3, c4] := ⟨by kernel_rfl, fun W d => by kernel_rfl, fun d => by kernel_rfl, by kernel_rfl⟩
theorem na4_8 (N : Nat) (own : List Px) (l : List Lk) (c0 c1 c2 c3 : Cf) : NodeA N own l 8 [c0, c1, c2, c3] := ⟨by kernel_rfl⟩
theorem nb4_8 (N : Nat) (own : List Px) (l : List Lk) (c0 c1 c2 c3 c4 : Cf) : NodeB N own l 8 4 [c0, c1, c2, c3, c4] := ⟨by kernel_rfl, fun W d => by kernel_rfl, fun d => by kernel_rfl, by kernel_rfl⟩
theorem na5_6 (N : Nat) (own : List Px) (l : List Lk) (c0 c1 c2 c3 c4 : Cf) : NodeA N own l 6 [c0, c1, c2, c3, c4] := ⟨by kernel_rfl⟩
theorem nb5_6 (N : Nat) (own : List Px) (l : List Lk) (c0 c1 c2 c3 c4 c5 : Cf) : NodeB N own l 6 5 [c0, c1, c2, c3, c4, c5] := ⟨by kernel_rfl, fun W d => by kernel_rfl, fun d => by kernel_rfl, by kernel_rfl⟩
theorem na5_7 (N : Nat) (own : List Px) (l : List Lk) (c0 c1 c2 c3 c4 : Cf) : NodeA N own l 7 [c0, c1, c2, c3, c4] := ⟨by kernel_rfl⟩
theorem nb5_7 (N : Nat) (own : List Px) (l : List Lk) (c0 c1 c2 c3 c4 c5 : Cf) : NodeB N own l 7 5 [c0, c1, c2, c3, c4, c5] := ⟨by kernel_rfl, fun W d => by kernel_rfl, fun d => by kernel_rfl, by kernel_rfl⟩
theorem na5_8 (N : Nat) (own : List Px) (l : List Lk) (c0 c1 c2 c3 c4 : Cf) : NodeA N own l 8 [c0, c1, c2, c3, c4] := ⟨by kernel_rfl⟩
theorem nb5_8 (N : Nat) (own : List Px) (l : List Lk) (c0 c1 c2 c3 c4 c5 : Cf) : NodeB N own l 8 5 [c0, c1, c2, c3, c4, c5] := ⟨by kernel_rfl, fun W d => by kernel_rfl, fun d => by kernel_rfl, by kernel_rfl⟩
theorem na6_7 (N : Nat) (own : List Px) (l : List Lk) (c0 c1 c2 c3 c4 c5 : Cf) : NodeA N own l 7 [c0, c1, c2, c3, c4, c5] := ⟨by kernel_rfl⟩
theorem nb6_7 (N : Nat) (own : List Px) (l : List Lk) (c0 c1 c2 c3 c4 c5 c6 : Cf) : NodeB N own l 7 6 [c0, c1, c2, c3, c4, c5, c6] := ⟨by kernel_rfl, fun W d => by kernel_rfl, fun d => by kernel_rfl, by kernel_rfl⟩
theorem na6_8 (N : Nat) (own : List Px) (l : List Lk) (c0 c1 c2 c3 c4 c5 : Cf) : NodeA N own l 8 [c0, c1, c2, c3, c4, c5] := ⟨by kernel_rfl⟩
theorem nb6_8 (N : Nat) (own : List Px) (l : List Lk) (c0 c1 c2 c3 c4 c5 c6 : Cf) : NodeB N own l 8 6 [c0, c1, c2, c3, c4, c5, c6] := ⟨by kernel_rfl, fun W d => by kernel_rfl, fun d => by kernel_rfl, by kernel_rfl⟩
theorem na7_8 (N : Nat) (own : List Px) (l : List Lk) (c0 c1 c2 c3 c4 c5 c6 : Cf) : NodeA N own l 8 [c0, c1, c2, c3, c4, c5, c6] := ⟨by kernel_rfl⟩
theorem nb7_8 (N : Nat) (own : List Px) (l : List Lk) (c0 c1 c2 c3 c4 c5 c6 c7 : Cf) : NodeB N own l 8 7 [c0, c1, c2, c3, c4, c5, c6, c7] := ⟨by kernel_rfl, fun W d => by kernel_rfl, fun d => by kernel_rfl, by kernel_rfl⟩
theorem nodeA {N : Nat} {own : List Px} {l : List Lk} : ∀ {m : Nat} {t : List Cf}, t.length < m → m ≤ 8 → NodeA N own l m t
  | 1, [], _, _ => na0_1 N own l 
  | 1, _ :: _, h, _ => by simp at h
  | 2, [], _, _ => na0_2 N own l 
  | 2, [c0], _, _ => na1_2 N own l c0
  | 2, _ :: _ :: _, h, _ => by simp at h <;> omega
  | 3, [], _, _ => na0_3 N own l 
  | 3, [c0], _, _ => na1_3 N own l c0
  | 3, [c0, c1], _, _ => na2_3 N own l c0 c1
  | 3, _ :: _ :: _ :: _, h, _ => by simp at h <;> omega
  | 4, [], _, _ => na0_4 N own l 
  | 4, [c0], _, _ => na1_4 N own l c0
  | 4, [c0, c1], _, _ => na2_4 N own l c0 c1
  | 4, [c0, c1, c2], _, _ => na3_4 N own l c0 c1 c2
  | 4, _ :: _ :: _ :: _ :: _, h, _ => by simp at h <;> omega
  | 5, [], _, _ => na0_5 N own l 
  | 5, [c0], _, _ => na1_5 N own l c0
  | 5, [c0, c1], _, _ => na2_5 N own l c0 c1
  | 5, [c0, c1, c2], _, _ => na3_5 N own l c0 c1 c2
  | 5, [c0, c1, c2, c3], _, _ => na4_5 N own l c0 c1 c2 c3
  | 5, _ :: _ :: _ :: _ :: _ :: _, h, _ => by simp at h <;> omega
  | 6, [], _, _ => na0_6 N own l 
  | 6, [c0], _, _ => na1_6 N own l c0
  | 6, [c0, c1], _, _ => na2_6 N own l c0 c1
  | 6, [c0, c1, c2], _, _ => na3_6 N own l c0 c1 c2
  | 6, [c0, c1, c2, c3], _, _ => na4_6 N own l c0 c1 c2 c3
  | 6, [c0, c1, c2, c3, c4], _, _ => na5_6 N own l c0 c1 c2 c3 c4
  | 6, _ :: _ :: _ :: _ :: _ :: _ :: _, h, _ => by simp at h <;> omega
  | 7, [], _, _ => na0_7 N own l 
  | 7, [c0], _, _ => na1_7 N own l c0
  | 7, [c0, c1], _, _ => na2_7 N own l c0 c1
  | 7, [c0, c1, c2], _, _ => na3_7 N own l c0 c1 c2
  | 7, [c0, c1, c2, c3], _, _ => na4_7 N own l c0 c1 c2 c3
  | 7, [c0, c1, c2, c3, c4], _, _ => na5_7 N own l c0 c1 c2 c3 c4
  | 7, [c0, c1, c2, c3, c4, c5], _, _ => na6_7 N own l c0 c1 c2 c3 c4 c5
  | 7, _ :: _ :: _ :: _ :: _ :: _ :: _ :: _, h, _ => by simp at h <;> omega
  | 8, [], _, _ => na0_8 N own l 
  | 8, [c0], _, _ => na1_8 N own l c0
  | 8, [c0, c1], _, _ => na2_8 N own l c0 c1
  | 8, [c0, c1, c2], _, _ => na3_8 N own l c0 c1 c2
  | 8, [c0, c1, c2, c3], _, _ => na4_8 N own l c0 c1 c2 c3
  | 8, [c0, c1, c2, c3, c4], _, _ => na5_8 N own l c0 c1 c2 c3 c4
  | 8, [c0, c1, c2, c3, c4, c5], _, _ => na6_8 N own l c0 c1 c2 c3 c4 c5
  | 8, [c0, c1, c2, c3, c4, c5, c6], _, _ => na7_8 N own l c0 c1 c2 c3 c4 c5 c6
  | 8, _ :: _ :: _ :: _ :: _ :: _ :: _ :: _ :: _, h, _ => by simp at h <;> omega
  | 0, _, h, _ => absurd h (Nat.not_lt_zero _)
  | m + 9, _, _, h => absurd h (by omega)
theorem nodeB {N : Nat} {own : List Px} {l : List Lk} : ∀ {m i : Nat} {t : List Cf}, t.length = i + 1 → t.length ≤ m → m ≤ 8 → NodeB N own l m i t
  | 1, _, [c0], h, _, _ => by cases h; exact nb0_1 N own l c0
  | 1, _, _ :: _ :: _, _, h, _ => by simp at h
  | 2, _, [c0], h, _, _ => by cases h; exact nb0_2 N own l c0
  | 2, _, [c0, c1], h, _, _ => by cases h; exact nb1_2 N own l c0 c1
  | 2, _, _ :: _ :: _ :: _, _, h, _ => by simp at h <;> omega
  | 3, _, [c0], h, _, _ => by cases h; exact nb0_3 N own l c0
  | 3, _, [c0, c1], h, _, _ => by cases h; exact nb1_3 N own l c0 c1
  | 3, _, [c0, c1, c2], h, _, _ => by cases h; exact nb2_3 N own l c0 c1 c2
  | 3, _, _ :: _ :: _ :: _ :: _, _, h, _ => by simp at h <;> omega
  | 4, _, [c0], h, _, _ => by cases h; exact nb0_4 N own l c0
  | 4, _, [c0, c1], h, _, _ => by cases h; exact nb1_4 N own l c0 c1
  | 4, _, [c0, c1, c2], h, _, _ => by cases h; exact nb2_4 N own l c0 c1 c2
  | 4, _, [c0, c1, c2, c3], h, _, _ => by cases h; exact nb3_4 N own l c0 c1 c2 c3
  | 4, _, _ :: _ :: _ :: _ :: _ :: _, _, h, _ => by simp at h <;> omega
  | 5, _, [c0], h, _, _ => by cases h; exact nb0_5 N own l c0
  | 5, _, [c0, c1], h, _, _ => by cases h; exact nb1_5 N own l c0 c1
  | 5, _, [c0, c1, c2], h, _, _ => by cases h; exact nb2_5 N own l c0 c1 c2
  | 5, _, [c0, c1, c2, c3], h, _, _ => by cases h; exact nb3_5 N own l c0 c1 c2 c3
  | 5, _, [c0, c1, c2, c3, c4], h, _, _ => by cases h; exact nb4_5 N own l c0 c1 c2 c3 c4
  | 5, _, _ :: _ :: _ :: _ :: _ :: _ :: _, _, h, _ => by simp at h <;> omega
  | 6, _, [c0], h, _, _ => by cases h; exact nb0_6 N own l c0
  | 6, _, [c0, c1], h, _, _ => by cases h; exact nb1_6 N own l c0 c1
  | 6, _, [c0, c1, c2], h, _, _ => by cases h; exact nb2_6 N own l c0 c1 c2
  | 6, _, [c0, c1, c2, c3], h, _, _ => by cases h; exact nb3_6 N own l c0 c1 c2 c3
  | 6, _, [c0, c1, c2, c3, c4], h, _, _ => by cases h; exact nb4_6 N own l c0 c1 c2 c3 c4
  | 6, _, [c0, c1, c2, c3, c4, c5], h, _, _ => by cases h; exact nb5_6 N own l c0 c1 c2 c3 c4 c5
  | 6, _, _ :: _ :: _ :: _ :: _ :: _ :: _ :: _, _, h, _ => by simp at h <;> omega
  | 7, _, [c0], h, _, _ => by cases h; exact nb0_7 N own l c0
  | 7, _, [c0, c1], h, _, _ => by cases h; exact nb1_7 N own l c0 c1
  | 7, _, [c0, c1, c2], h, _, _ => by cases h; exact nb2_7 N own l c0 c1 c2
  | 7, _, [c0, c1, c2, c3], h, _, _ => by cases h; exact nb3_7 N own l c0 c1 c2 c3
  | 7, _, [c0, c1, c2, c3, c4], h, _, _ => by cases h; exact nb4_7 N own l c0 c1 c2 c3 c4
  | 7, _, [c0, c1, c2, c3, c4, c5], h, _, _ => by cases h; exact nb5_7 N own l c0 c1 c2 c3 c4 c5
  | 7, _, [c0, c1, c2, c3, c4, c5, c6], h, _, _ => by cases h; exact nb6_7 N own l c0 c1 c2 c3 c4 c5 c6
  | 7, _, _ :: _ :: _ :: _ :: _ :: _ :: _ :: _ :: _, _, h, _ => by simp at h <;> omega
  | 8, _, [c0], h, _, _ => by cases h; exact nb0_8 N own l c0
  | 8, _, [c0, c1], h, _, _ => by cases h; exact nb1_8 N own l c0 c1
  | 8, _, [c0, c1, c2], h, _, _ => by cases h; exact nb2_8 N own l c0 c1 c2
  | 8, _, [c0, c1, c2, c3], h, _, _ => by cases h; exact nb3_8 N own l c0 c1 c2 c3
  | 8, _, [c0, c1, c2, c3, c4], h, _, _ => by cases h; exact nb4_8 N own l c0 c1 c2 c3 c4
  | 8, _, [c0, c1, c2, c3, c4, c5], h, _, _ => by cases h; exact nb5_8 N own l c0 c1 c2 c3 c4 c5
  | 8, _, [c0, c1, c2, c3, c4, c5, c6], h, _, _ => by cases h; exact nb6_8 N own l c0 c1 c2 c3 c4 c5 c6
  | 8, _, [c0, c1, c2, c3, c4, c5, c6, c7], h, _, _ => by cases h; exact nb7_8 N own l c0 c1 c2 c3 c4 c5 c6 c7
  | 8, _, _ :: _ :: _ :: _ :: _ :: _ :: _ :: _ :: _ :: _, _, h, _ => by simp at h <;> omega
  | m, _, [], h, _, _ => by simp at h
  | 0, _, _ :: _, _, h, _ => by simp at h
  | m + 9, _, _ :: _, _, _, h => absurd h (by omega)
end Go.Sim

/- A loop's round, part by part along a path. -/
namespace Go.Sim
open Go.RowKit
set_option linter.unusedVariables false
set_option linter.unusedSimpArgs false
set_option linter.unusedSectionVars false
section
variable {E : Env} {n : Nat} {f : FuncId} {p : List Nat}
end
end Go.Sim

/- topo.Gao: its first loop. -/
namespace Go.Sim
open Go.RowKit Go.Proofs
set_option linter.unusedVariables false
set_option linter.unusedSimpArgs false
set_option linter.unusedSectionVars false
set_option maxRecDepth 100000
theorem RegSem.runTo {E : Env} {rc : Caller} {ops : Array Oper} (hrc : rc.Nat) (hc : CallerOk E rc) {id : Nat} {st s' : St} {Q : St → Prop} {live : List Nat} {g : List AObj → List AObj} (h : (opsK E rc ops (ops.toList.map fun o => (o, false)) st (fun s => (.ok s : Res St))).bind (fun s => (.ok ⟨keepOnly live s.tmps, g s.heap⟩ : Res St)) = .ok s')
    (hg : ∀ tm H, TurnS ⟨tm, H⟩ ⟨tm, g H⟩) (hQ : Q s') : RegSem E (.region id ops false) st Q := by
  obtain ⟨s1, h1, h2⟩ := bind_ok_inv h
  simp only [Res.ok.injEq] at h2
  refine RegSem.turn (Q' := fun s => s = s1) (RegSem.run hrc hc h1 rfl) fun s hs => ?_
  subst hs
  exact ⟨s', h2 ▸ (TurnS.keep live s.tmps s.heap).trans (hg _ _), hQ⟩
theorem isReg {c : Code} (h : drC c = false) : ∃ id, c = .region id (opsC c) false := by
  cases c with
  | region id ops dr => simp only [drC] at h; subst h; exact ⟨id, rfl⟩
  | _ => cases h
/-- A part that is a region, as it is run, and told otherwise behind it. -/
theorem partD_run {E : Env} {n : Nat} {f : FuncId} {p : List Nat} (he : EnvOk E) {i : Nat} {st s' : St} {Q : Ex → St → Prop} {live : List Nat} {g : List AObj → List AObj} (hd : drC ((partsC E f p).getD i .skip) = false) (hl : i < (partsC E f p).length)
    (h : (opsK E (recOf E n) (opsX E f p i) ((opsX E f p i).toList.map fun o => (o, false)) st (fun s => (.ok s : Res St))).bind (fun s => (.ok ⟨keepOnly live s.tmps, g s.heap⟩ : Res St)) = .ok s') (hg : ∀ tm H, TurnS ⟨tm, H⟩ ⟨tm, g H⟩) (hQ : partD E n f p (i + 1) s' Q) : partD E n f p i st Q := by
  obtain ⟨n1, n2⟩ := runK_ok he n
  have hc : CallerOk E (recOf E n) := callerOk_of he n1 n2
  obtain ⟨id, e⟩ := isReg hd
  have hp : (partsC E f p)[i]? = some (.region id (opsX E f p i) false) := by
    rw [List.getD_eq_getElem?_getD, List.getElem?_eq_getElem hl] at e
    rw [List.getElem?_eq_getElem hl]
    simp only [Option.getD_some] at e
    rw [e]
    unfold opsX
    rw [List.getD_eq_getElem?_getD, List.getElem?_eq_getElem hl]
    simp only [Option.getD_some]
  exact partD_sem hp ⟨_, _, _, rfl⟩ (RegSem.runTo n1 hc h hg hQ)
theorem opsK_of_seqX {E : Env} {n : Nat} {f : FuncId} {p : List Nat} {i : Nat} {st s : St} (hd : drC ((partsC E f p).getD i .skip) = false) (hl : i < (partsC E f p).length) (h : seqX E n f p i 1 st = .ok (.norm, s)) : opsK E (recOf E n) (opsX E f p i) ((opsX E f p i).toList.map fun o => (o, false)) st (fun s => (.ok s : Res St)) = .ok s := by
  obtain ⟨id, e⟩ := isReg hd
  have hp : (partsC E f p)[i]? = some (.region id (opsX E f p i) false) := by
    rw [List.getD_eq_getElem?_getD, List.getElem?_eq_getElem hl] at e
    rw [List.getElem?_eq_getElem hl]
    simp only [Option.getD_some] at e
    rw [e]
    unfold opsX
    rw [List.getD_eq_getElem?_getD, List.getElem?_eq_getElem hl]
    simp only [Option.getD_some]
  unfold seqX at h
  rw [drop_one hp] at h
  have h : opsK E (recOf E n) (opsX E f p i) ((opsX E f p i).toList.map fun o => (o, false)) st (fun s => (.ok (.norm, s) : Res (Ex × St))) = .ok (.norm, s) := h
  obtain ⟨s1, h1, h2⟩ := opsK_ok (runK_nat E n) h
  simp only [Res.ok.injEq, Prod.mk.injEq, true_and] at h2
  rw [h1, h2]
theorem seqX_condF {E : Env} {n : Nat} {f : FuncId} {p : List Nat} {i : Nat} {c : Operand} {a : Code} {st : St} (h : (partsC E f p)[i]? = some (.cond c a .skip)) (hv : evalO E.P st.tmps 0 c = some (.t (.bool false))) : seqX E n f p i 1 st = .ok (.norm, st) := by
  unfold seqX
  rw [drop_one h]
  show codeK E (recOf E n) f (funcE E f) n 0 (.cond c a .skip) st _ = _
  simp only [codeK, hv, someK, bT, cond_false]
  rfl
theorem turn_id (tm : List PV) (H : List AObj) : TurnS ⟨tm, H⟩ ⟨tm, id H⟩ := TurnS.refl _
def getOkX (r : Res (Ex × St)) : St := match r with | .ok q => q.2 | _ => ⟨[], []⟩
def thenC : Code → Code
  | .cond _ a _ => a
  | _ => .skip
variable [Lv]
def sG1q (own : List Px) (l : List Lk) (m i : Nat) (v : Bool) (H : List AObj) : St := ⟨slots 153 [(1, .t (.sl 2 (own.map Px.t))), (2, .t (.sl 3 (l.map Lk.t))), (7, .ptr 0 0), (8, .t (i64 i)), (19, .t (i64 m)), (20, .t (i64 i)), (41, .t (.bool v))], H⟩
def sG1a (own : List Px) (l : List Lk) (m : Nat) (t : List Cf) (b : Bool) : St := ⟨slots 153 [(1, .t (.sl 2 (own.map Px.t))), (2, .t (.sl 3 (l.map Lk.t))), (7, .ptr 0 0), (19, .t (i64 m)), (20, .t (i64 t.length)), (21, .t (.bool b))], heapG m t []⟩
theorem g1_head (N : Nat) (own : List Px) (l : List Lk) (m : Nat) (t : List Cf) : seqX env N 21 [3] 0 2 (sG1 own l m t) = bif decide (((t.length : Nat) : Int) < (m : Int)) then .ok (.norm, sG1a own l m t (decide (((t.length : Nat) : Int) < (m : Int)))) else .ok (.exit 0, sG1a own l m t (decide (((t.length : Nat) : Int) < (m : Int)))) := by kernel_rfl
theorem g1_r4 (N : Nat) (own : List Px) (l : List Lk) (m : Nat) (t : List Cf) (b : Bool) : (opsK env (recOf env N) (opsX env 21 [3, 2] 0) ((opsX env 21 [3, 2] 0).toList.map fun o => (o, false)) (sG1a own l m t b) (fun s => (.ok s : Res St))).bind (fun s => (.ok ⟨keepOnly [1, 2, 7, 8, 19, 20] s.tmps, id s.heap⟩ : Res St)) = .ok (sG1b own l m t.length (heapG m t [])) := by kernel_rfl
/-- One node more. -/
theorem nodeG_eq (own : List Px) (i : Nat) : nodeG own i = { node0 i with w := ownG own i } := rfl
theorem lastW_one (t : List Cf) (c : Cf) (W : List Px) : lastW (t ++ [c]) W = t ++ [{ c with w := W }] := by
  unfold lastW
  rw [List.length_append, List.length_singleton, Nat.add_sub_cancel, List.take_left, List.drop_left]
  rfl
theorem turn_nt (l i j : Nat) (tm : List PV) (H : List AObj) : TurnS ⟨tm, H⟩ ⟨tm, thawCell l i (nilCell l j H)⟩ := (turn_nilCell l j).trans (turn_thawCell l i)
theorem g1_round {N : Nat} (he : EnvOk env) (hN : 2 ≤ N) {own : List Px} {l : List Lk} {m : Nat} {t : List Cf} {Q : Ex → St → Prop} (ho : okL Px.ok own) (hm : m ≤ 8) (ht : t.length < m) (hQ : Q .norm (sG1 own l m (t ++ [nodeG own t.length]))) : partD env N 21 [3] 0 (sG1 own l m t) Q := by
  have hbg := big_val
  have hol := ho.1
  have h1 := g1_head N own l m t
  rw [decide_eq_true (show ((t.length : Nat) : Int) < (m : Int) by omega)] at h1
  refine partD_x (e := .norm) 2 h1 ?_
  refine partD_block (p := [3]) (i := 2) (id := 1) (c := innerC ((partsC env 21 [3]).getD 2 .skip)) (by kernel_rfl) (by kernel_rfl) ?_
  show partD env N 21 [3, 2] 0 _ _
  refine partD_run (i := 0) he (by kernel_rfl) (of_decide_eq_true (by kernel_rfl)) (g1_r4 N own l m t true) turn_id ?_
  refine partD_run (i := 1) (g := fun H => thawCell 1 (6 * t.length + 4) (nilCell 1 (6 * t.length + 5) H)) he (by kernel_rfl) (of_decide_eq_true (by kernel_rfl)) (nodeA (N := N) (own := own) (l := l) ht hm).n1 (turn_nt _ _ _) ?_
  have hlen : (t ++ [node0 t.length]).length = t.length + 1 := by simp
  have hB := nodeB (N := N) (own := own) (l := l) (i := t.length) (t := t ++ [node0 t.length]) hlen (by omega) hm
  have hend : ∀ (H : List AObj) (d : Nat → PV) (s : St), (opsK env (recOf env N) op8 (op8.toList.map fun o => (o, false)) (sG1e own l m t.length H d) fun s => (.ok s : Res St)).bind (fun s => (.ok ⟨keepOnly [1, 2, 7, 19, 20] s.tmps, thawCell 1 (6 * t.length + 4) s.heap⟩ : Res St)) = .ok s → Q .norm s → partD env N 21 [3] 3 (sG1e own l m t.length H d) Q := fun H d s h hq => by
    refine partD_run (i := 3) (g := fun H => thawCell 1 (6 * t.length + 4) H) he (by kernel_rfl) (of_decide_eq_true (by kernel_rfl)) h (fun tm H => turn_thawCell _ _) ?_
    exact partD_end (by kernel_rfl) hq
  have e2 := zGE2 N own l m t.length (heapG m (t ++ [node0 t.length]) [])
  -- what is behind the question
  have quest : ∀ v : Bool, seqX env N 21 [3, 2] 2 1 (sG1b own l m t.length (heapG m (t ++ [node0 t.length]) [])) = .ok (.norm, getOkX (seqX env N 21 [3, 2] 2 1 (sG1b own l m t.length (heapG m (t ++ [node0 t.length]) [])))) → keepOnly [1, 2, 7, 8, 19, 20, 41] (getOkX (seqX env N 21 [3, 2] 2 1 (sG1b own l m t.length (heapG m (t ++ [node0 t.length]) [])))).tmps = (sG1q own l m t.length v []).tmps → (getOkX (seqX env N 21 [3, 2] 2 1 (sG1b own l m t.length (heapG m (t ++ [node0 t.length]) [])))).heap = heapG m (t ++ [node0 t.length]) [] → ownG own t.length = (if v then (match own[t.length]? with | some p => [p] | none => []) else []) → (v = true → t.length < own.length) →
      partD env N 21 [3, 2] 2 (sG1b own l m t.length (heapG m (t ++ [node0 t.length]) [])) fun e st => e.kP (partD env N 21 [3] (2 + 1) st Q) (fun j => if j = 1 then partD env N 21 [3] (2 + 1) st Q else Q (.exit j) st) (Q .ret st) := fun v h k1 k2 hw hv => by
    have h5 := opsK_of_seqX (i := 2) (by kernel_rfl) (of_decide_eq_true (by kernel_rfl)) h
    refine partD_run (i := 2) (live := [1, 2, 7, 8, 19, 20, 41]) (g := id) (s' := sG1q own l m t.length v (heapG m (t ++ [node0 t.length]) [])) he (by kernel_rfl) (of_decide_eq_true (by kernel_rfl)) (by rw [h5]; simp only [Res.bind_ok, k1, k2, id]; rfl) turn_id ?_
    cases v with
    | false =>
      refine partD_x (e := .norm) 1 (seqX_condF (i := 3) (c := .tmp 41) (a := thenC ((partsC env 21 [3, 2]).getD 3 .skip)) (by kernel_rfl) (by kernel_rfl)) (partD_end (by kernel_rfl) ?_)
      have hd : sG1q own l m t.length false (heapG m (t ++ [node0 t.length]) []) = sG1e own l m t.length (heapG m (t ++ [node0 t.length]) []) (dOf (sG1q own l m t.length false [])) := by kernel_rfl
      show partD env N 21 [3] 3 _ Q
      rw [hd]
      refine hend _ _ _ (hB.n6 _) ?_
      have : t ++ [nodeG own t.length] = t ++ [node0 t.length] := by rw [nodeG_eq, hw]; rfl
      rw [this] at hQ; exact hQ
    | true =>
      have hi := hv rfl
      have hp : own[t.length]? = some own[t.length] := List.getElem?_eq_getElem hi
      have h3 := hB.n3
      have hdec : (decide ((0 : Int) ≤ ((t.length + 1 : Nat) : Int)) && decide (((t.length + 1 : Nat) : Int) ≤ (((own.map Px.t).length : Nat) : Int))) = true := by rw [decide_eq_true (by omega), decide_eq_true (by rw [List.length_map]; omega)]; rfl
      rw [hdec, chk_true] at h3
      have hys : ((own.map Px.t).take (t.length + 1)).drop t.length = [own[t.length]].map Px.t := by
        rw [List.take_add_one, List.getElem?_map, hp]
        simp [List.drop_append, List.length_take, Nat.min_eq_left (Nat.le_of_lt hi)]
      refine partD_x (e := .norm) 1 (show seqX env N 21 [3, 2] 3 1 (sG1c own l m t.length (heapG m (t ++ [node0 t.length]) [])) = _ from h3) (partD_end (by kernel_rfl) ?_)
      have hd : ∀ H : List AObj, sG1d own l m t.length H = sG1e own l m t.length H (dOf (sG1d own l m t.length [])) := fun H => by kernel_rfl
      show partD env N 21 [3] 3 _ Q
      rw [hd, hys]
      refine hend _ _ _ (hB.n4 [own[t.length]] _) ?_
      rw [lastW_one]
      rw [hp] at hw
      simp only [if_true] at hw
      rw [nodeG_eq, hw] at hQ
      exact hQ
  by_cases hi : t.length < own.length
  case neg =>
    have hw : ownG own t.length = [] := by unfold ownG; rw [List.getElem?_eq_none (by omega)]
    rw [decide_eq_false (by rw [List.length_map]; omega), cond_false] at e2
    refine quest false (by rw [e2]; rfl) (by rw [e2]; kernel_rfl) (by rw [e2]; rfl) hw (fun h => by cases h)
  have hp : own[t.length]? = some own[t.length] := List.getElem?_eq_getElem hi
  have hpo := ho.2 _ (List.mem_of_getElem? hp)
  generalize own[t.length] = px at hp hpo
  obtain ⟨n1, rfl⟩ : ∃ n1, N = n1 + 1 := ⟨N - 1, by omega⟩
  rw [decide_eq_true (by rw [List.length_map]; omega), cond_true, atT_get (map_get hp), cl_ok (f41_ok hpo (by omega))] at e2
  refine quest (psane px) (by rw [e2]; rfl) (by rw [e2]; kernel_rfl) (by rw [e2]; rfl) ?_ (fun _ => hi)
  unfold ownG
  rw [hp]
end Go.Sim

/- What calls come to: printed by wip/tools/eq2.py: topo.Gao, a link. -/
namespace Go.Sim
open Go.RowKit Go.Proofs
set_option linter.unusedVariables false
set_option maxRecDepth 100000
variable [Lv]

theorem zGB1 (N : Nat) (c0 : Cf) (l : List Lk) (j : Int) (b : Bool) : (seqX env (N + 1) 21 [6, 2] 0 3 ⟨slots 153 ((58, .t (.bool b)) :: lvG l j), heapG 1 [c0] []⟩) = atT (List.map Lk.t l) j fun e => chk (e.cells.length == 3 && !e.isTup) (iT IntKind.i64 (e.partD 0 1 false) fun a => bif decide (a ≥ 0) then iT IntKind.i64 (e.partD 0 1 false) fun a => bif !decide (a < 1) then Res.ok (Ex.exit 3, { tmps := slots 153 [(7, PV.ptr 0 0), (9, PV.fn 42 [] [PV.ptr 0 0]), (11, PV.ptr 3 0), (55, PV.t (T.sl 3 (List.map Lk.t l))), (56, PV.t (i64 (↑(List.map Lk.t l).length : Int))), (57, PV.t (i64 j)), (58, PV.t (T.bool b)), (59, PV.rp 3 e 0), (60, PV.t e), (61, PV.fn 42 [] [PV.ptr 0 0]), (62, PV.ptr 3 0), (63, PV.t (e.partD 0 1 false)), (64, PV.t (T.bool (decide (a < 1)))), (65, PV.t (T.bool !decide (a < 1))), (66, PV.t (T.bool true)), (67, PV.tup []), (68, PV.tup []), (69, PV.tup []), (70, PV.tup []), (71, PV.tup []), (72, PV.t (T.bool true)), (73, PV.t (T.bool true)), (74, PV.tup []), (75, PV.tup []), (76, PV.tup []), (77, PV.tup []), (78, PV.tup []), (79, PV.t (T.bool true)), (80, PV.t (T.bool true)), (81, PV.tup []), (82, PV.tup []), (83, PV.tup []), (84, PV.t (T.bool true)), (85, PV.t (T.bool true)), (86, PV.tup []), (87, PV.tup []), (88, PV.tup []), (89, PV.t (T.bool true))], heap := heapG 1 [c0] [.box 40 3 (.t e)] }) else iT IntKind.i64 (e.partD 1 1 false) fun a_1 => bif decide (a_1 ≥ 0) then iT IntKind.i64 (e.partD 1 1 false) fun a_2 => bif !decide (a_2 < 1) then Res.ok (Ex.exit 3, { tmps := slots 153 [(7, PV.ptr 0 0), (9, PV.fn 42 [] [PV.ptr 0 0]), (11, PV.ptr 3 0), (55, PV.t (T.sl 3 (List.map Lk.t l))), (56, PV.t (i64 (↑(List.map Lk.t l).length : Int))), (57, PV.t (i64 j)), (58, PV.t (T.bool b)), (59, PV.rp 3 e 0), (60, PV.t e), (61, PV.fn 42 [] [PV.ptr 0 0]), (62, PV.ptr 3 0), (63, PV.t (e.partD 0 1 false)), (64, PV.t (T.bool (decide (a < 1)))), (65, PV.t (T.bool !decide (a < 1))), (66, PV.t (T.bool false)), (67, PV.fn 42 [] [PV.ptr 0 0]), (68, PV.ptr 3 1), (69, PV.t (e.partD 1 1 false)), (70, PV.t (T.bool (decide (a_2 < 1)))), (71, PV.t (T.bool !decide (a_2 < 1))), (72, PV.t (T.bool !decide (a_2 < 1))), (73, PV.t (T.bool true)), (74, PV.tup []), (75, PV.tup []), (76, PV.tup []), (77, PV.tup []), (78, PV.tup []), (79, PV.t (T.bool true)), (80, PV.t (T.bool true)), (81, PV.tup []), (82, PV.tup []), (83, PV.tup []), (84, PV.t (T.bool true)), (85, PV.t (T.bool true)), (86, PV.tup []), (87, PV.tup []), (88, PV.tup []), (89, PV.t (T.bool true))], heap := heapG 1 [c0] [.box 40 3 (.t e)] }) else iT IntKind.i64 (e.partD 0 1 false) fun a_3 => iT IntKind.i64 (e.partD 1 1 false) fun b_1 => bif a_3 == b_1 then Res.ok (Ex.exit 3, { tmps := slots 153 [(7, PV.ptr 0 0), (9, PV.fn 42 [] [PV.ptr 0 0]), (11, PV.ptr 3 0), (55, PV.t (T.sl 3 (List.map Lk.t l))), (56, PV.t (i64 (↑(List.map Lk.t l).length : Int))), (57, PV.t (i64 j)), (58, PV.t (T.bool b)), (59, PV.rp 3 e 0), (60, PV.t e), (61, PV.fn 42 [] [PV.ptr 0 0]), (62, PV.ptr 3 0), (63, PV.t (e.partD 0 1 false)), (64, PV.t (T.bool (decide (a < 1)))), (65, PV.t (T.bool !decide (a < 1))), (66, PV.t (T.bool false)), (67, PV.fn 42 [] [PV.ptr 0 0]), (68, PV.ptr 3 1), (69, PV.t (e.partD 1 1 false)), (70, PV.t (T.bool (decide (a_2 < 1)))), (71, PV.t (T.bool !decide (a_2 < 1))), (72, PV.t (T.bool !decide (a_2 < 1))), (73, PV.t (T.bool false)), (74, PV.ptr 3 0), (75, PV.t (e.partD 0 1 false)), (76, PV.ptr 3 1), (77, PV.t (e.partD 1 1 false)), (78, PV.t (T.bool (a_3 == b_1))), (79, PV.t (T.bool (a_3 == b_1))), (80, PV.t (T.bool true)), (81, PV.tup []), (82, PV.tup []), (83, PV.tup []), (84, PV.t (T.bool true)), (85, PV.t (T.bool true)), (86, PV.tup []), (87, PV.tup []), (88, PV.tup []), (89, PV.t (T.bool true))], heap := heapG 1 [c0] [.box 40 3 (.t e)] }) else iT IntKind.i64 (e.partD 2 1 false) fun a_4 => bif decide (a_4 < 1) then Res.ok (Ex.exit 3, { tmps := slots 153 [(7, PV.ptr 0 0), (9, PV.fn 42 [] [PV.ptr 0 0]), (11, PV.ptr 3 0), (55, PV.t (T.sl 3 (List.map Lk.t l))), (56, PV.t (i64 (↑(List.map Lk.t l).length : Int))), (57, PV.t (i64 j)), (58, PV.t (T.bool b)), (59, PV.rp 3 e 0), (60, PV.t e), (61, PV.fn 42 [] [PV.ptr 0 0]), (62, PV.ptr 3 0), (63, PV.t (e.partD 0 1 false)), (64, PV.t (T.bool (decide (a < 1)))), (65, PV.t (T.bool !decide (a < 1))), (66, PV.t (T.bool false)), (67, PV.fn 42 [] [PV.ptr 0 0]), (68, PV.ptr 3 1), (69, PV.t (e.partD 1 1 false)), (70, PV.t (T.bool (decide (a_2 < 1)))), (71, PV.t (T.bool !decide (a_2 < 1))), (72, PV.t (T.bool !decide (a_2 < 1))), (73, PV.t (T.bool false)), (74, PV.ptr 3 0), (75, PV.t (e.partD 0 1 false)), (76, PV.ptr 3 1), (77, PV.t (e.partD 1 1 false)), (78, PV.t (T.bool (a_3 == b_1))), (79, PV.t (T.bool (a_3 == b_1))), (80, PV.t (T.bool false)), (81, PV.ptr 3 2), (82, PV.t (e.partD 2 1 false)), (83, PV.t (T.bool (decide (a_4 < 1)))), (84, PV.t (T.bool (decide (a_4 < 1)))), (85, PV.t (T.bool true)), (86, PV.tup []), (87, PV.tup []), (88, PV.tup []), (89, PV.t (T.bool true))], heap := heapG 1 [c0] [.box 40 3 (.t e)] }) else iT IntKind.i64 (e.partD 2 1 false) fun a_5 => bif decide (a_5 > 3) then Res.ok (Ex.exit 3, { tmps := slots 153 [(7, PV.ptr 0 0), (9, PV.fn 42 [] [PV.ptr 0 0]), (11, PV.ptr 3 0), (55, PV.t (T.sl 3 (List.map Lk.t l))), (56, PV.t (i64 (↑(List.map Lk.t l).length : Int))), (57, PV.t (i64 j)), (58, PV.t (T.bool b)), (59, PV.rp 3 e 0), (60, PV.t e), (61, PV.fn 42 [] [PV.ptr 0 0]), (62, PV.ptr 3 0), (63, PV.t (e.partD 0 1 false)), (64, PV.t (T.bool (decide (a < 1)))), (65, PV.t (T.bool !decide (a < 1))), (66, PV.t (T.bool false)), (67, PV.fn 42 [] [PV.ptr 0 0]), (68, PV.ptr 3 1), (69, PV.t (e.partD 1 1 false)), (70, PV.t (T.bool (decide (a_2 < 1)))), (71, PV.t (T.bool !decide (a_2 < 1))), (72, PV.t (T.bool !decide (a_2 < 1))), (73, PV.t (T.bool false)), (74, PV.ptr 3 0), (75, PV.t (e.partD 0 1 false)), (76, PV.ptr 3 1), (77, PV.t (e.partD 1 1 false)), (78, PV.t (T.bool (a_3 == b_1))), (79, PV.t (T.bool (a_3 == b_1))), (80, PV.t (T.bool false)), (81, PV.ptr 3 2), (82, PV.t (e.partD 2 1 false)), (83, PV.t (T.bool (decide (a_4 < 1)))), (84, PV.t (T.bool (decide (a_4 < 1)))), (85, PV.t (T.bool false)), (86, PV.ptr 3 2), (87, PV.t (e.partD 2 1 false)), (88, PV.t (T.bool (decide (a_5 > 3)))), (89, PV.t (T.bool (decide (a_5 > 3))))], heap := heapG 1 [c0] [.box 40 3 (.t e)] }) else Res.ok (Ex.norm, { tmps := slots 153 [(7, PV.ptr 0 0), (9, PV.fn 42 [] [PV.ptr 0 0]), (11, PV.ptr 3 0), (55, PV.t (T.sl 3 (List.map Lk.t l))), (56, PV.t (i64 (↑(List.map Lk.t l).length : Int))), (57, PV.t (i64 j)), (58, PV.t (T.bool b)), (59, PV.rp 3 e 0), (60, PV.t e), (61, PV.fn 42 [] [PV.ptr 0 0]), (62, PV.ptr 3 0), (63, PV.t (e.partD 0 1 false)), (64, PV.t (T.bool (decide (a < 1)))), (65, PV.t (T.bool !decide (a < 1))), (66, PV.t (T.bool false)), (67, PV.fn 42 [] [PV.ptr 0 0]), (68, PV.ptr 3 1), (69, PV.t (e.partD 1 1 false)), (70, PV.t (T.bool (decide (a_2 < 1)))), (71, PV.t (T.bool !decide (a_2 < 1))), (72, PV.t (T.bool !decide (a_2 < 1))), (73, PV.t (T.bool false)), (74, PV.ptr 3 0), (75, PV.t (e.partD 0 1 false)), (76, PV.ptr 3 1), (77, PV.t (e.partD 1 1 false)), (78, PV.t (T.bool (a_3 == b_1))), (79, PV.t (T.bool (a_3 == b_1))), (80, PV.t (T.bool false)), (81, PV.ptr 3 2), (82, PV.t (e.partD 2 1 false)), (83, PV.t (T.bool (decide (a_4 < 1)))), (84, PV.t (T.bool (decide (a_4 < 1)))), (85, PV.t (T.bool false)), (86, PV.ptr 3 2), (87, PV.t (e.partD 2 1 false)), (88, PV.t (T.bool (decide (a_5 > 3)))), (89, PV.t (T.bool (decide (a_5 > 3))))], heap := heapG 1 [c0] [.box 40 3 (.t e)] }) else Res.ok (Ex.exit 3, { tmps := slots 153 [(7, PV.ptr 0 0), (9, PV.fn 42 [] [PV.ptr 0 0]), (11, PV.ptr 3 0), (55, PV.t (T.sl 3 (List.map Lk.t l))), (56, PV.t (i64 (↑(List.map Lk.t l).length : Int))), (57, PV.t (i64 j)), (58, PV.t (T.bool b)), (59, PV.rp 3 e 0), (60, PV.t e), (61, PV.fn 42 [] [PV.ptr 0 0]), (62, PV.ptr 3 0), (63, PV.t (e.partD 0 1 false)), (64, PV.t (T.bool (decide (a < 1)))), (65, PV.t (T.bool !decide (a < 1))), (66, PV.t (T.bool false)), (67, PV.fn 42 [] [PV.ptr 0 0]), (68, PV.ptr 3 1), (69, PV.t (e.partD 1 1 false)), (70, PV.t (T.bool false)), (71, PV.t (T.bool true)), (72, PV.t (T.bool true)), (73, PV.t (T.bool true)), (74, PV.tup []), (75, PV.tup []), (76, PV.tup []), (77, PV.tup []), (78, PV.tup []), (79, PV.t (T.bool true)), (80, PV.t (T.bool true)), (81, PV.tup []), (82, PV.tup []), (83, PV.tup []), (84, PV.t (T.bool true)), (85, PV.t (T.bool true)), (86, PV.tup []), (87, PV.tup []), (88, PV.tup []), (89, PV.t (T.bool true))], heap := heapG 1 [c0] [.box 40 3 (.t e)] }) else Res.ok (Ex.exit 3, { tmps := slots 153 [(7, PV.ptr 0 0), (9, PV.fn 42 [] [PV.ptr 0 0]), (11, PV.ptr 3 0), (55, PV.t (T.sl 3 (List.map Lk.t l))), (56, PV.t (i64 (↑(List.map Lk.t l).length : Int))), (57, PV.t (i64 j)), (58, PV.t (T.bool b)), (59, PV.rp 3 e 0), (60, PV.t e), (61, PV.fn 42 [] [PV.ptr 0 0]), (62, PV.ptr 3 0), (63, PV.t (e.partD 0 1 false)), (64, PV.t (T.bool false)), (65, PV.t (T.bool true)), (66, PV.t (T.bool true)), (67, PV.tup []), (68, PV.tup []), (69, PV.tup []), (70, PV.tup []), (71, PV.tup []), (72, PV.t (T.bool true)), (73, PV.t (T.bool true)), (74, PV.tup []), (75, PV.tup []), (76, PV.tup []), (77, PV.tup []), (78, PV.tup []), (79, PV.t (T.bool true)), (80, PV.t (T.bool true)), (81, PV.tup []), (82, PV.tup []), (83, PV.tup []), (84, PV.t (T.bool true)), (85, PV.t (T.bool true)), (86, PV.tup []), (87, PV.tup []), (88, PV.tup []), (89, PV.t (T.bool true))], heap := heapG 1 [c0] [.box 40 3 (.t e)] })) := by kernel_rfl
theorem zGB2 (N : Nat) (c0 c1 : Cf) (l : List Lk) (j : Int) (b : Bool) : (seqX env (N + 1) 21 [6, 2] 0 3 ⟨slots 153 ((58, .t (.bool b)) :: lvG l j), heapG 2 [c0, c1] []⟩) = atT (List.map Lk.t l) j fun e => chk (e.cells.length == 3 && !e.isTup) (iT IntKind.i64 (e.partD 0 1 false) fun a => bif decide (a ≥ 0) then iT IntKind.i64 (e.partD 0 1 false) fun a => bif !decide (a < 2) then Res.ok (Ex.exit 3, { tmps := slots 153 [(7, PV.ptr 0 0), (9, PV.fn 42 [] [PV.ptr 0 0]), (11, PV.ptr 4 0), (55, PV.t (T.sl 3 (List.map Lk.t l))), (56, PV.t (i64 (↑(List.map Lk.t l).length : Int))), (57, PV.t (i64 j)), (58, PV.t (T.bool b)), (59, PV.rp 3 e 0), (60, PV.t e), (61, PV.fn 42 [] [PV.ptr 0 0]), (62, PV.ptr 4 0), (63, PV.t (e.partD 0 1 false)), (64, PV.t (T.bool (decide (a < 2)))), (65, PV.t (T.bool !decide (a < 2))), (66, PV.t (T.bool true)), (67, PV.tup []), (68, PV.tup []), (69, PV.tup []), (70, PV.tup []), (71, PV.tup []), (72, PV.t (T.bool true)), (73, PV.t (T.bool true)), (74, PV.tup []), (75, PV.tup []), (76, PV.tup []), (77, PV.tup []), (78, PV.tup []), (79, PV.t (T.bool true)), (80, PV.t (T.bool true)), (81, PV.tup []), (82, PV.tup []), (83, PV.tup []), (84, PV.t (T.bool true)), (85, PV.t (T.bool true)), (86, PV.tup []), (87, PV.tup []), (88, PV.tup []), (89, PV.t (T.bool true))], heap := heapG 2 [c0, c1] [.box 40 3 (.t e)] }) else iT IntKind.i64 (e.partD 1 1 false) fun a_1 => bif decide (a_1 ≥ 0) then iT IntKind.i64 (e.partD 1 1 false) fun a_2 => bif !decide (a_2 < 2) then Res.ok (Ex.exit 3, { tmps := slots 153 [(7, PV.ptr 0 0), (9, PV.fn 42 [] [PV.ptr 0 0]), (11, PV.ptr 4 0), (55, PV.t (T.sl 3 (List.map Lk.t l))), (56, PV.t (i64 (↑(List.map Lk.t l).length : Int))), (57, PV.t (i64 j)), (58, PV.t (T.bool b)), (59, PV.rp 3 e 0), (60, PV.t e), (61, PV.fn 42 [] [PV.ptr 0 0]), (62, PV.ptr 4 0), (63, PV.t (e.partD 0 1 false)), (64, PV.t (T.bool (decide (a < 2)))), (65, PV.t (T.bool !decide (a < 2))), (66, PV.t (T.bool false)), (67, PV.fn 42 [] [PV.ptr 0 0]), (68, PV.ptr 4 1), (69, PV.t (e.partD 1 1 false)), (70, PV.t (T.bool (decide (a_2 < 2)))), (71, PV.t (T.bool !decide (a_2 < 2))), (72, PV.t (T.bool !decide (a_2 < 2))), (73, PV.t (T.bool true)), (74, PV.tup []), (75, PV.tup []), (76, PV.tup []), (77, PV.tup []), (78, PV.tup []), (79, PV.t (T.bool true)), (80, PV.t (T.bool true)), (81, PV.tup []), (82, PV.tup []), (83, PV.tup []), (84, PV.t (T.bool true)), (85, PV.t (T.bool true)), (86, PV.tup []), (87, PV.tup []), (88, PV.tup []), (89, PV.t (T.bool true))], heap := heapG 2 [c0, c1] [.box 40 3 (.t e)] }) else iT IntKind.i64 (e.partD 0 1 false) fun a_3 => iT IntKind.i64 (e.partD 1 1 false) fun b_1 => bif a_3 == b_1 then Res.ok (Ex.exit 3, { tmps := slots 153 [(7, PV.ptr 0 0), (9, PV.fn 42 [] [PV.ptr 0 0]), (11, PV.ptr 4 0), (55, PV.t (T.sl 3 (List.map Lk.t l))), (56, PV.t (i64 (↑(List.map Lk.t l).length : Int))), (57, PV.t (i64 j)), (58, PV.t (T.bool b)), (59, PV.rp 3 e 0), (60, PV.t e), (61, PV.fn 42 [] [PV.ptr 0 0]), (62, PV.ptr 4 0), (63, PV.t (e.partD 0 1 false)), (64, PV.t (T.bool (decide (a < 2)))), (65, PV.t (T.bool !decide (a < 2))), (66, PV.t (T.bool false)), (67, PV.fn 42 [] [PV.ptr 0 0]), (68, PV.ptr 4 1), (69, PV.t (e.partD 1 1 false)), (70, PV.t (T.bool (decide (a_2 < 2)))), (71, PV.t (T.bool !decide (a_2 < 2))), (72, PV.t (T.bool !decide (a_2 < 2))), (73, PV.t (T.bool false)), (74, PV.ptr 4 0), (75, PV.t (e.partD 0 1 false)), (76, PV.ptr 4 1), (77, PV.t (e.partD 1 1 false)), (78, PV.t (T.bool (a_3 == b_1))), (79, PV.t (T.bool (a_3 == b_1))), (80, PV.t (T.bool true)), (81, PV.tup []), (82, PV.tup []), (83, PV.tup []), (84, PV.t (T.bool true)), (85, PV.t (T.bool true)), (86, PV.tup []), (87, PV.tup []), (88, PV.tup []), (89, PV.t (T.bool true))], heap := heapG 2 [c0, c1] [.box 40 3 (.t e)] }) else iT IntKind.i64 (e.partD 2 1 false) fun a_4 => bif decide (a_4 < 1) then Res.ok (Ex.exit 3, { tmps := slots 153 [(7, PV.ptr 0 0), (9, PV.fn 42 [] [PV.ptr 0 0]), (11, PV.ptr 4 0), (55, PV.t (T.sl 3 (List.map Lk.t l))), (56, PV.t (i64 (↑(List.map Lk.t l).length : Int))), (57, PV.t (i64 j)), (58, PV.t (T.bool b)), (59, PV.rp 3 e 0), (60, PV.t e), (61, PV.fn 42 [] [PV.ptr 0 0]), (62, PV.ptr 4 0), (63, PV.t (e.partD 0 1 false)), (64, PV.t (T.bool (decide (a < 2)))), (65, PV.t (T.bool !decide (a < 2))), (66, PV.t (T.bool false)), (67, PV.fn 42 [] [PV.ptr 0 0]), (68, PV.ptr 4 1), (69, PV.t (e.partD 1 1 false)), (70, PV.t (T.bool (decide (a_2 < 2)))), (71, PV.t (T.bool !decide (a_2 < 2))), (72, PV.t (T.bool !decide (a_2 < 2))), (73, PV.t (T.bool false)), (74, PV.ptr 4 0), (75, PV.t (e.partD 0 1 false)), (76, PV.ptr 4 1), (77, PV.t (e.partD 1 1 false)), (78, PV.t (T.bool (a_3 == b_1))), (79, PV.t (T.bool (a_3 == b_1))), (80, PV.t (T.bool false)), (81, PV.ptr 4 2), (82, PV.t (e.partD 2 1 false)), (83, PV.t (T.bool (decide (a_4 < 1)))), (84, PV.t (T.bool (decide (a_4 < 1)))), (85, PV.t (T.bool true)), (86, PV.tup []), (87, PV.tup []), (88, PV.tup []), (89, PV.t (T.bool true))], heap := heapG 2 [c0, c1] [.box 40 3 (.t e)] }) else iT IntKind.i64 (e.partD 2 1 false) fun a_5 => bif decide (a_5 > 3) then Res.ok (Ex.exit 3, { tmps := slots 153 [(7, PV.ptr 0 0), (9, PV.fn 42 [] [PV.ptr 0 0]), (11, PV.ptr 4 0), (55, PV.t (T.sl 3 (List.map Lk.t l))), (56, PV.t (i64 (↑(List.map Lk.t l).length : Int))), (57, PV.t (i64 j)), (58, PV.t (T.bool b)), (59, PV.rp 3 e 0), (60, PV.t e), (61, PV.fn 42 [] [PV.ptr 0 0]), (62, PV.ptr 4 0), (63, PV.t (e.partD 0 1 false)), (64, PV.t (T.bool (decide (a < 2)))), (65, PV.t (T.bool !decide (a < 2))), (66, PV.t (T.bool false)), (67, PV.fn 42 [] [PV.ptr 0 0]), (68, PV.ptr 4 1), (69, PV.t (e.partD 1 1 false)), (70, PV.t (T.bool (decide (a_2 < 2)))), (71, PV.t (T.bool !decide (a_2 < 2))), (72, PV.t (T.bool !decide (a_2 < 2))), (73, PV.t (T.bool false)), (74, PV.ptr 4 0), (75, PV.t (e.partD 0 1 false)), (76, PV.ptr 4 1), (77, PV.t (e.partD 1 1 false)), (78, PV.t (T.bool (a_3 == b_1))), (79, PV.t (T.bool (a_3 == b_1))), (80, PV.t (T.bool false)), (81, PV.ptr 4 2), (82, PV.t (e.partD 2 1 false)), (83, PV.t (T.bool (decide (a_4 < 1)))), (84, PV.t (T.bool (decide (a_4 < 1)))), (85, PV.t (T.bool false)), (86, PV.ptr 4 2), (87, PV.t (e.partD 2 1 false)), (88, PV.t (T.bool (decide (a_5 > 3)))), (89, PV.t (T.bool (decide (a_5 > 3))))], heap := heapG 2 [c0, c1] [.box 40 3 (.t e)] }) else Res.ok (Ex.norm, { tmps := slots 153 [(7, PV.ptr 0 0), (9, PV.fn 42 [] [PV.ptr 0 0]), (11, PV.ptr 4 0), (55, PV.t (T.sl 3 (List.map Lk.t l))), (56, PV.t (i64 (↑(List.map Lk.t l).length : Int))), (57, PV.t (i64 j)), (58, PV.t (T.bool b)), (59, PV.rp 3 e 0), (60, PV.t e), (61, PV.fn 42 [] [PV.ptr 0 0]), (62, PV.ptr 4 0), (63, PV.t (e.partD 0 1 false)), (64, PV.t (T.bool (decide (a < 2)))), (65, PV.t (T.bool !decide (a < 2))), (66, PV.t (T.bool false)), (67, PV.fn 42 [] [PV.ptr 0 0]), (68, PV.ptr 4 1), (69, PV.t (e.partD 1 1 false)), (70, PV.t (T.bool (decide (a_2 < 2)))), (71, PV.t (T.bool !decide (a_2 < 2))), (72, PV.t (T.bool !decide (a_2 < 2))), (73, PV.t (T.bool false)), (74, PV.ptr 4 0), (75, PV.t (e.partD 0 1 false)), (76, PV.ptr 4 1), (77, PV.t (e.partD 1 1 false)), (78, PV.t (T.bool (a_3 == b_1))), (79, PV.t (T.bool (a_3 == b_1))), (80, PV.t (T.bool false)), (81, PV.ptr 4 2), (82, PV.t (e.partD 2 1 false)), (83, PV.t (T.bool (decide (a_4 < 1)))), (84, PV.t (T.bool (decide (a_4 < 1)))), (85, PV.t (T.bool false)), (86, PV.ptr 4 2), (87, PV.t (e.partD 2 1 false)), (88, PV.t (T.bool (decide (a_5 > 3)))), (89, PV.t (T.bool (decide (a_5 > 3))))], heap := heapG 2 [c0, c1] [.box 40 3 (.t e)] }) else Res.ok (Ex.exit 3, { tmps := slots 153 [(7, PV.ptr 0 0), (9, PV.fn 42 [] [PV.ptr 0 0]), (11, PV.ptr 4 0), (55, PV.t (T.sl 3 (List.map Lk.t l))), (56, PV.t (i64 (↑(List.map Lk.t l).length : Int))), (57, PV.t (i64 j)), (58, PV.t (T.bool b)), (59, PV.rp 3 e 0), (60, PV.t e), (61, PV.fn 42 [] [PV.ptr 0 0]), (62, PV.ptr 4 0), (63, PV.t (e.partD 0 1 false)), (64, PV.t (T.bool (decide (a < 2)))), (65, PV.t (T.bool !decide (a < 2))), (66, PV.t (T.bool false)), (67, PV.fn 42 [] [PV.ptr 0 0]), (68, PV.ptr 4 1), (69, PV.t (e.partD 1 1 false)), (70, PV.t (T.bool false)), (71, PV.t (T.bool true)), (72, PV.t (T.bool true)), (73, PV.t (T.bool true)), (74, PV.tup []), (75, PV.tup []), (76, PV.tup []), (77, PV.tup []), (78, PV.tup []), (79, PV.t (T.bool true)), (80, PV.t (T.bool true)), (81, PV.tup []), (82, PV.tup []), (83, PV.tup []), (84, PV.t (T.bool true)), (85, PV.t (T.bool true)), (86, PV.tup []), (87, PV.tup []), (88, PV.tup []), (89, PV.t (T.bool true))], heap := heapG 2 [c0, c1] [.box 40 3 (.t e)] }) else Res.ok (Ex.exit 3, { tmps := slots 153 [(7, PV.ptr 0 0), (9, PV.fn 42 [] [PV.ptr 0 0]), (11, PV.ptr 4 0), (55, PV.t (T.sl 3 (List.map Lk.t l))), (56, PV.t (i64 (↑(List.map Lk.t l).length : Int))), (57, PV.t (i64 j)), (58, PV.t (T.bool b)), (59, PV.rp 3 e 0), (60, PV.t e), (61, PV.fn 42 [] [PV.ptr 0 0]), (62, PV.ptr 4 0), (63, PV.t (e.partD 0 1 false)), (64, PV.t (T.bool false)), (65, PV.t (T.bool true)), (66, PV.t (T.bool true)), (67, PV.tup []), (68, PV.tup []), (69, PV.tup []), (70, PV.tup []), (71, PV.tup []), (72, PV.t (T.bool true)), (73, PV.t (T.bool true)), (74, PV.tup []), (75, PV.tup []), (76, PV.tup []), (77, PV.tup []), (78, PV.tup []), (79, PV.t (T.bool true)), (80, PV.t (T.bool true)), (81, PV.tup []), (82, PV.tup []), (83, PV.tup []), (84, PV.t (T.bool true)), (85, PV.t (T.bool true)), (86, PV.tup []), (87, PV.tup []), (88, PV.tup []), (89, PV.t (T.bool true))], heap := heapG 2 [c0, c1] [.box 40 3 (.t e)] })) := by kernel_rfl
theorem zGB3 (N : Nat) (c0 c1 c2 : Cf) (l : List Lk) (j : Int) (b : Bool) : (seqX env (N + 1) 21 [6, 2] 0 3 ⟨slots 153 ((58, .t (.bool b)) :: lvG l j), heapG 3 [c0, c1, c2] []⟩) = atT (List.map Lk.t l) j fun e => chk (e.cells.length == 3 && !e.isTup) (iT IntKind.i64 (e.partD 0 1 false) fun a => bif decide (a ≥ 0) then iT IntKind.i64 (e.partD 0 1 false) fun a => bif !decide (a < 3) then Res.ok (Ex.exit 3, { tmps := slots 153 [(7, PV.ptr 0 0), (9, PV.fn 42 [] [PV.ptr 0 0]), (11, PV.ptr 5 0), (55, PV.t (T.sl 3 (List.map Lk.t l))), (56, PV.t (i64 (↑(List.map Lk.t l).length : Int))), (57, PV.t (i64 j)), (58, PV.t (T.bool b)), (59, PV.rp 3 e 0), (60, PV.t e), (61, PV.fn 42 [] [PV.ptr 0 0]), (62, PV.ptr 5 0), (63, PV.t (e.partD 0 1 false)), (64, PV.t (T.bool (decide (a < 3)))), (65, PV.t (T.bool !decide (a < 3))), (66, PV.t (T.bool true)), (67, PV.tup []), (68, PV.tup []), (69, PV.tup []), (70, PV.tup []), (71, PV.tup []), (72, PV.t (T.bool true)), (73, PV.t (T.bool true)), (74, PV.tup []), (75, PV.tup []), (76, PV.tup []), (77, PV.tup []), (78, PV.tup []), (79, PV.t (T.bool true)), (80, PV.t (T.bool true)), (81, PV.tup []), (82, PV.tup []), (83, PV.tup []), (84, PV.t (T.bool true)), (85, PV.t (T.bool true)), (86, PV.tup []), (87, PV.tup []), (88, PV.tup []), (89, PV.t (T.bool true))], heap := heapG 3 [c0, c1, c2] [.box 40 3 (.t e)] }) else iT IntKind.i64 (e.partD 1 1 false) fun a_1 => bif decide (a_1 ≥ 0) then iT IntKind.i64 (e.partD 1 1 false) fun a_2 => bif !decide (a_2 < 3) then Res.ok (Ex.exit 3, { tmps := slots 153 [(7, PV.ptr 0 0), (9, PV.fn 42 [] [PV.ptr 0 0]), (11, PV.ptr 5 0), (55, PV.t (T.sl 3 (List.map Lk.t l))), (56, PV.t (i64 (↑(List.map Lk.t l).length : Int))), (57, PV.t (i64 j)), (58, PV.t (T.bool b)), (59, PV.rp 3 e 0), (60, PV.t e), (61, PV.fn 42 [] [PV.ptr 0 0]), (62, PV.ptr 5 0), (63, PV.t (e.partD 0 1 false)), (64, PV.t (T.bool (decide (a < 3)))), (65, PV.t (T.bool !decide (a < 3))), (66, PV.t (T.bool false)), (67, PV.fn 42 [] [PV.ptr 0 0]), (68, PV.ptr 5 1), (69, PV.t (e.partD 1 1 false)), (70, PV.t (T.bool (decide (a_2 < 3)))), (71, PV.t (T.bool !decide (a_2 < 3))), (72, PV.t (T.bool !decide (a_2 < 3))), (73, PV.t (T.bool true)), (74, PV.tup []), (75, PV.tup []), (76, PV.tup []), (77, PV.tup []), (78, PV.tup []), (79, PV.t (T.bool true)), (80, PV.t (T.bool true)), (81, PV.tup []), (82, PV.tup []), (83, PV.tup []), (84, PV.t (T.bool true)), (85, PV.t (T.bool true)), (86, PV.tup []), (87, PV.tup []), (88, PV.tup []), (89, PV.t (T.bool true))], heap := heapG 3 [c0, c1, c2] [.box 40 3 (.t e)] }) else iT IntKind.i64 (e.partD 0 1 false) fun a_3 => iT IntKind.i64 (e.partD 1 1 false) fun b_1 => bif a_3 == b_1 then Res.ok (Ex.exit 3, { tmps := slots 153 [(7, PV.ptr 0 0), (9, PV.fn 42 [] [PV.ptr 0 0]), (11, PV.ptr 5 0), (55, PV.t (T.sl 3 (List.map Lk.t l))), (56, PV.t (i64 (↑(List.map Lk.t l).length : Int))), (57, PV.t (i64 j)), (58, PV.t (T.bool b)), (59, PV.rp 3 e 0), (60, PV.t e), (61, PV.fn 42 [] [PV.ptr 0 0]), (62, PV.ptr 5 0), (63, PV.t (e.partD 0 1 false)), (64, PV.t (T.bool (decide (a < 3)))), (65, PV.t (T.bool !decide (a < 3))), (66, PV.t (T.bool false)), (67, PV.fn 42 [] [PV.ptr 0 0]), (68, PV.ptr 5 1), (69, PV.t (e.partD 1 1 false)), (70, PV.t (T.bool (decide (a_2 < 3)))), (71, PV.t (T.bool !decide (a_2 < 3))), (72, PV.t (T.bool !decide (a_2 < 3))), (73, PV.t (T.bool false)), (74, PV.ptr 5 0), (75, PV.t (e.partD 0 1 false)), (76, PV.ptr 5 1), (77, PV.t (e.partD 1 1 false)), (78, PV.t (T.bool (a_3 == b_1))), (79, PV.t (T.bool (a_3 == b_1))), (80, PV.t (T.bool true)), (81, PV.tup []), (82, PV.tup []), (83, PV.tup []), (84, PV.t (T.bool true)), (85, PV.t (T.bool true)), (86, PV.tup []), (87, PV.tup []), (88, PV.tup []), (89, PV.t (T.bool true))], heap := heapG 3 [c0, c1, c2] [.box 40 3 (.t e)] }) else iT IntKind.i64 (e.partD 2 1 false) fun a_4 => bif decide (a_4 < 1) then Res.ok (Ex.exit 3, { tmps := slots 153 [(7, PV.ptr 0 0), (9, PV.fn 42 [] [PV.ptr 0 0]), (11, PV.ptr 5 0), (55, PV.t (T.sl 3 (List.map Lk.t l))), (56, PV.t (i64 (↑(List.map Lk.t l).length : Int))), (57, PV.t (i64 j)), (58, PV.t (T.bool b)), (59, PV.rp 3 e 0), (60, PV.t e), (61, PV.fn 42 [] [PV.ptr 0 0]), (62, PV.ptr 5 0), (63, PV.t (e.partD 0 1 false)), (64, PV.t (T.bool (decide (a < 3)))), (65, PV.t (T.bool !decide (a < 3))), (66, PV.t (T.bool false)), (67, PV.fn 42 [] [PV.ptr 0 0]), (68, PV.ptr 5 1), (69, PV.t (e.partD 1 1 false)), (70, PV.t (T.bool (decide (a_2 < 3)))), (71, PV.t (T.bool !decide (a_2 < 3))), (72, PV.t (T.bool !decide (a_2 < 3))), (73, PV.t (T.bool false)), (74, PV.ptr 5 0), (75, PV.t (e.partD 0 1 false)), (76, PV.ptr 5 1), (77, PV.t (e.partD 1 1 false)), (78, PV.t (T.bool (a_3 == b_1))), (79, PV.t (T.bool (a_3 == b_1))), (80, PV.t (T.bool false)), (81, PV.ptr 5 2), (82, PV.t (e.partD 2 1 false)), (83, PV.t (T.bool (decide (a_4 < 1)))), (84, PV.t (T.bool (decide (a_4 < 1)))), (85, PV.t (T.bool true)), (86, PV.tup []), (87, PV.tup []), (88, PV.tup []), (89, PV.t (T.bool true))], heap := heapG 3 [c0, c1, c2] [.box 40 3 (.t e)] }) else iT IntKind.i64 (e.partD 2 1 false) fun a_5 => bif decide (a_5 > 3) then Res.ok (Ex.exit 3, { tmps := slots 153 [(7, PV.ptr 0 0), (9, PV.fn 42 [] [PV.ptr 0 0]), (11, PV.ptr 5 0), (55, PV.t (T.sl 3 (List.map Lk.t l))), (56, PV.t (i64 (↑(List.map Lk.t l).length : Int))), (57, PV.t (i64 j)), (58, PV.t (T.bool b)), (59, PV.rp 3 e 0), (60, PV.t e), (61, PV.fn 42 [] [PV.ptr 0 0]), (62, PV.ptr 5 0), (63, PV.t (e.partD 0 1 false)), (64, PV.t (T.bool (decide (a < 3)))), (65, PV.t (T.bool !decide (a < 3))), (66, PV.t (T.bool false)), (67, PV.fn 42 [] [PV.ptr 0 0]), (68, PV.ptr 5 1), (69, PV.t (e.partD 1 1 false)), (70, PV.t (T.bool (decide (a_2 < 3)))), (71, PV.t (T.bool !decide (a_2 < 3))), (72, PV.t (T.bool !decide (a_2 < 3))), (73, PV.t (T.bool false)), (74, PV.ptr 5 0), (75, PV.t (e.partD 0 1 false)), (76, PV.ptr 5 1), (77, PV.t (e.partD 1 1 false)), (78, PV.t (T.bool (a_3 == b_1))), (79, PV.t (T.bool (a_3 == b_1))), (80, PV.t (T.bool false)), (81, PV.ptr 5 2), (82, PV.t (e.partD 2 1 false)), (83, PV.t (T.bool (decide (a_4 < 1)))), (84, PV.t (T.bool (decide (a_4 < 1)))), (85, PV.t (T.bool false)), (86, PV.ptr 5 2), (87, PV.t (e.partD 2 1 false)), (88, PV.t (T.bool (decide (a_5 > 3)))), (89, PV.t (T.bool (decide (a_5 > 3))))], heap := heapG 3 [c0, c1, c2] [.box 40 3 (.t e)] }) else Res.ok (Ex.norm, { tmps := slots 153 [(7, PV.ptr 0 0), (9, PV.fn 42 [] [PV.ptr 0 0]), (11, PV.ptr 5 0), (55, PV.t (T.sl 3 (List.map Lk.t l))), (56, PV.t (i64 (↑(List.map Lk.t l).length : Int))), (57, PV.t (i64 j)), (58, PV.t (T.bool b)), (59, PV.rp 3 e 0), (60, PV.t e), (61, PV.fn 42 [] [PV.ptr 0 0]), (62, PV.ptr 5 0), (63, PV.t (e.partD 0 1 false)), (64, PV.t (T.bool (decide (a < 3)))), (65, PV.t (T.bool !decide (a < 3))), (66, PV.t (T.bool false)), (67, PV.fn 42 [] [PV.ptr 0 0]), (68, PV.ptr 5 1), (69, PV.t (e.partD 1 1 false)), (70, PV.t (T.bool (decide (a_2 < 3)))), (71, PV.t (T.bool !decide (a_2 < 3))), (72, PV.t (T.bool !decide (a_2 < 3))), (73, PV.t (T.bool false)), (74, PV.ptr 5 0), (75, PV.t (e.partD 0 1 false)), (76, PV.ptr 5 1), (77, PV.t (e.partD 1 1 false)), (78, PV.t (T.bool (a_3 == b_1))), (79, PV.t (T.bool (a_3 == b_1))), (80, PV.t (T.bool false)), (81, PV.ptr 5 2), (82, PV.t (e.partD 2 1 false)), (83, PV.t (T.bool (decide (a_4 < 1)))), (84, PV.t (T.bool (decide (a_4 < 1)))), (85, PV.t (T.bool false)), (86, PV.ptr 5 2), (87, PV.t (e.partD 2 1 false)), (88, PV.t (T.bool (decide (a_5 > 3)))), (89, PV.t (T.bool (decide (a_5 > 3))))], heap := heapG 3 [c0, c1, c2] [.box 40 3 (.t e)] }) else Res.ok (Ex.exit 3, { tmps := slots 153 [(7, PV.ptr 0 0), (9, PV.fn 42 [] [PV.ptr 0 0]), (11, PV.ptr 5 0), (55, PV.t (T.sl 3 (List.map Lk.t l))), (56, PV.t (i64 (↑(List.map Lk.t l).length : Int))), (57, PV.t (i64 j)), (58, PV.t (T.bool b)), (59, PV.rp 3 e 0), (60, PV.t e), (61, PV.fn 42 [] [PV.ptr 0 0]), (62, PV.ptr 5 0), (63, PV.t (e.partD 0 1 false)), (64, PV.t (T.bool (decide (a < 3)))), (65, PV.t (T.bool !decide (a < 3))), (66, PV.t (T.bool false)), (67, PV.fn 42 [] [PV.ptr 0 0]), (68, PV.ptr 5 1), (69, PV.t (e.partD 1 1 false)), (70, PV.t (T.bool false)), (71, PV.t (T.bool true)), (72, PV.t (T.bool true)), (73, PV.t (T.bool true)), (74, PV.tup []), (75, PV.tup []), (76, PV.tup []), (77, PV.tup []), (78, PV.tup []), (79, PV.t (T.bool true)), (80, PV.t (T.bool true)), (81, PV.tup []), (82, PV.tup []), (83, PV.tup []), (84, PV.t (T.bool true)), (85, PV.t (T.bool true)), (86, PV.tup []), (87, PV.tup []), (88, PV.tup []), (89, PV.t (T.bool true))], heap := heapG 3 [c0, c1, c2] [.box 40 3 (.t e)] }) else Res.ok (Ex.exit 3, { tmps := slots 153 [(7, PV.ptr 0 0), (9, PV.fn 42 [] [PV.ptr 0 0]), (11, PV.ptr 5 0), (55, PV.t (T.sl 3 (List.map Lk.t l))), (56, PV.t (i64 (↑(List.map Lk.t l).length : Int))), (57, PV.t (i64 j)), (58, PV.t (T.bool b)), (59, PV.rp 3 e 0), (60, PV.t e), (61, PV.fn 42 [] [PV.ptr 0 0]), (62, PV.ptr 5 0), (63, PV.t (e.partD 0 1 false)), (64, PV.t (T.bool false)), (65, PV.t (T.bool true)), (66, PV.t (T.bool true)), (67, PV.tup []), (68, PV.tup []), (69, PV.tup []), (70, PV.tup []), (71, PV.tup []), (72, PV.t (T.bool true)), (73, PV.t (T.bool true)), (74, PV.tup []), (75, PV.tup []), (76, PV.tup []), (77, PV.tup []), (78, PV.tup []), (79, PV.t (T.bool true)), (80, PV.t (T.bool true)), (81, PV.tup []), (82, PV.tup []), (83, PV.tup []), (84, PV.t (T.bool true)), (85, PV.t (T.bool true)), (86, PV.tup []), (87, PV.tup []), (88, PV.tup []), (89, PV.t (T.bool true))], heap := heapG 3 [c0, c1, c2] [.box 40 3 (.t e)] })) := by kernel_rfl
theorem zGB4 (N : Nat) (c0 c1 c2 c3 : Cf) (l : List Lk) (j : Int) (b : Bool) : (seqX env (N + 1) 21 [6, 2] 0 3 ⟨slots 153 ((58, .t (.bool b)) :: lvG l j), heapG 4 [c0, c1, c2, c3] []⟩) = atT (List.map Lk.t l) j fun e => chk (e.cells.length == 3 && !e.isTup) (iT IntKind.i64 (e.partD 0 1 false) fun a => bif decide (a ≥ 0) then iT IntKind.i64 (e.partD 0 1 false) fun a => bif !decide (a < 4) then Res.ok (Ex.exit 3, { tmps := slots 153 [(7, PV.ptr 0 0), (9, PV.fn 42 [] [PV.ptr 0 0]), (11, PV.ptr 6 0), (55, PV.t (T.sl 3 (List.map Lk.t l))), (56, PV.t (i64 (↑(List.map Lk.t l).length : Int))), (57, PV.t (i64 j)), (58, PV.t (T.bool b)), (59, PV.rp 3 e 0), (60, PV.t e), (61, PV.fn 42 [] [PV.ptr 0 0]), (62, PV.ptr 6 0), (63, PV.t (e.partD 0 1 false)), (64, PV.t (T.bool (decide (a < 4)))), (65, PV.t (T.bool !decide (a < 4))), (66, PV.t (T.bool true)), (67, PV.tup []), (68, PV.tup []), (69, PV.tup []), (70, PV.tup []), (71, PV.tup []), (72, PV.t (T.bool true)), (73, PV.t (T.bool true)), (74, PV.tup []), (75, PV.tup []), (76, PV.tup []), (77, PV.tup []), (78, PV.tup []), (79, PV.t (T.bool true)), (80, PV.t (T.bool true)), (81, PV.tup []), (82, PV.tup []), (83, PV.tup []), (84, PV.t (T.bool true)), (85, PV.t (T.bool true)), (86, PV.tup []), (87, PV.tup []), (88, PV.tup []), (89, PV.t (T.bool true))], heap := heapG 4 [c0, c1, c2, c3] [.box 40 3 (.t e)] }) else iT IntKind.i64 (e.partD 1 1 false) fun a_1 => bif decide (a_1 ≥ 0) then iT IntKind.i64 (e.partD 1 1 false) fun a_2 => bif !decide (a_2 < 4) then Res.ok (Ex.exit 3, { tmps := slots 153 [(7, PV.ptr 0 0), (9, PV.fn 42 [] [PV.ptr 0 0]), (11, PV.ptr 6 0), (55, PV.t (T.sl 3 (List.map Lk.t l))), (56, PV.t (i64 (↑(List.map Lk.t l).length : Int))), (57, PV.t (i64 j)), (58, PV.t (T.bool b)), (59, PV.rp 3 e 0), (60, PV.t e), (61, PV.fn 42 [] [PV.ptr 0 0]), (62, PV.ptr 6 0), (63, PV.t (e.partD 0 1 false)), (64, PV.t (T.bool (decide (a < 4)))), (65, PV.t (T.bool !decide (a < 4))), (66, PV.t (T.bool false)), (67, PV.fn 42 [] [PV.ptr 0 0]), (68, PV.ptr 6 1), (69, PV.t (e.partD 1 1 false)), (70, PV.t (T.bool (decide (a_2 < 4)))), (71, PV.t (T.bool !decide (a_2 < 4))), (72, PV.t (T.bool !decide (a_2 < 4))), (73, PV.t (T.bool true)), (74, PV.tup []), (75, PV.tup []), (76, PV.tup []), (77, PV.tup []), (78, PV.tup []), (79, PV.t (T.bool true)), (80, PV.t (T.bool true)), (81, PV.tup []), (82, PV.tup []), (83, PV.tup []), (84, PV.t (T.bool true)), (85, PV.t (T.bool true)), (86, PV.tup []), (87, PV.tup []), (88, PV.tup []), (89, PV.t (T.bool true))], heap := heapG 4 [c0, c1, c2, c3] [.box 40 3 (.t e)] }) else iT IntKind.i64 (e.partD 0 1 false) fun a_3 => iT IntKind.i64 (e.partD 1 1 false) fun b_1 => bif a_3 == b_1 then Res.ok (Ex.exit 3, { tmps := slots 153 [(7, PV.ptr 0 0), (9, PV.fn 42 [] [PV.ptr 0 0]), (11, PV.ptr 6 0), (55, PV.t (T.sl 3 (List.map Lk.t l))), (56, PV.t (i64 (↑(List.map Lk.t l).length : Int))), (57, PV.t (i64 j)), (58, PV.t (T.bool b)), (59, PV.rp 3 e 0), (60, PV.t e), (61, PV.fn 42 [] [PV.ptr 0 0]), (62, PV.ptr 6 0), (63, PV.t (e.partD 0 1 false)), (64, PV.t (T.bool (decide (a < 4)))), (65, PV.t (T.bool !decide (a < 4))), (66, PV.t (T.bool false)), (67, PV.fn 42 [] [PV.ptr 0 0]), (68, PV.ptr 6 1), (69, PV.t (e.partD 1 1 false)), (70, PV.t (T.bool (decide (a_2 < 4)))), (71, PV.t (T.bool !decide (a_2 < 4))), (72, PV.t (T.bool !decide (a_2 < 4))), (73, PV.t (T.bool false)), (74, PV.ptr 6 0), (75, PV.t (e.partD 0 1 false)), (76, PV.ptr 6 1), (77, PV.t (e.partD 1 1 false)), (78, PV.t (T.bool (a_3 == b_1))), (79, PV.t (T.bool (a_3 == b_1))), (80, PV.t (T.bool true)), (81, PV.tup []), (82, PV.tup []), (83, PV.tup []), (84, PV.t (T.bool true)), (85, PV.t (T.bool true)), (86, PV.tup []), (87, PV.tup []), (88, PV.tup []), (89, PV.t (T.bool true))], heap := heapG 4 [c0, c1, c2, c3] [.box 40 3 (.t e)] }) else iT IntKind.i64 (e.partD 2 1 false) fun a_4 => bif decide (a_4 < 1) then Res.ok (Ex.exit 3, { tmps := slots 153 [(7, PV.ptr 0 0), (9, PV.fn 42 [] [PV.ptr 0 0]), (11, PV.ptr 6 0), (55, PV.t (T.sl 3 (List.map Lk.t l))), (56, PV.t (i64 (↑(List.map Lk.t l).length : Int))), (57, PV.t (i64 j)), (58, PV.t (T.bool b)), (59, PV.rp 3 e 0), (60, PV.t e), (61, PV.fn 42 [] [PV.ptr 0 0]), (62, PV.ptr 6 0), (63, PV.t (e.partD 0 1 false)), (64, PV.t (T.bool (decide (a < 4)))), (65, PV.t (T.bool !decide (a < 4))), (66, PV.t (T.bool false)), (67, PV.fn 42 [] [PV.ptr 0 0]), (68, PV.ptr 6 1), (69, PV.t (e.partD 1 1 false)), (70, PV.t (T.bool (decide (a_2 < 4)))), (71, PV.t (T.bool !decide (a_2 < 4))), (72, PV.t (T.bool !decide (a_2 < 4))), (73, PV.t (T.bool false)), (74, PV.ptr 6 0), (75, PV.t (e.partD 0 1 false)), (76, PV.ptr 6 1), (77, PV.t (e.partD 1 1 false)), (78, PV.t (T.bool (a_3 == b_1))), (79, PV.t (T.bool (a_3 == b_1))), (80, PV.t (T.bool false)), (81, PV.ptr 6 2), (82, PV.t (e.partD 2 1 false)), (83, PV.t (T.bool (decide (a_4 < 1)))), (84, PV.t (T.bool (decide (a_4 < 1)))), (85, PV.t (T.bool true)), (86, PV.tup []), (87, PV.tup []), (88, PV.tup []), (89, PV.t (T.bool true))], heap := heapG 4 [c0, c1, c2, c3] [.box 40 3 (.t e)] }) else iT IntKind.i64 (e.partD 2 1 false) fun a_5 => bif decide (a_5 > 3) then Res.ok (Ex.exit 3, { tmps := slots 153 [(7, PV.ptr 0 0), (9, PV.fn 42 [] [PV.ptr 0 0]), (11, PV.ptr 6 0), (55, PV.t (T.sl 3 (List.map Lk.t l))), (56, PV.t (i64 (↑(List.map Lk.t l).length : Int))), (57, PV.t (i64 j)), (58, PV.t (T.bool b)), (59, PV.rp 3 e 0), (60, PV.t e), (61, PV.fn 42 [] [PV.ptr 0 0]), (62, PV.ptr 6 0), (63, PV.t (e.partD 0 1 false)), (64, PV.t (T.bool (decide (a < 4)))), (65, PV.t (T.bool !decide (a < 4))), (66, PV.t (T.bool false)), (67, PV.fn 42 [] [PV.ptr 0 0]), (68, PV.ptr 6 1), (69, PV.t (e.partD 1 1 false)), (70, PV.t (T.bool (decide (a_2 < 4)))), (71, PV.t (T.bool !decide (a_2 < 4))), (72, PV.t (T.bool !decide (a_2 < 4))), (73, PV.t (T.bool false)), (74, PV.ptr 6 0), (75, PV.t (e.partD 0 1 false)), (76, PV.ptr 6 1), (77, PV.t (e.partD 1 1 false)), (78, PV.t (T.bool (a_3 == b_1))), (79, PV.t (T.bool (a_3 == b_1))), (80, PV.t (T.bool false)), (81, PV.ptr 6 2), (82, PV.t (e.partD 2 1 false)), (83, PV.t (T.bool (decide (a_4 < 1)))), (84, PV.t (T.bool (decide (a_4 < 1)))), (85, PV.t (T.bool false)), (86, PV.ptr 6 2), (87, PV.t (e.partD 2 1 false)), (88, PV.t (T.bool (decide (a_5 > 3)))), (89, PV.t (T.bool (decide (a_5 > 3))))], heap := heapG 4 [c0, c1, c2, c3] [.box 40 3 (.t e)] }) else Res.ok (Ex.norm, { tmps := slots 153 [(7, PV.ptr 0 0), (9, PV.fn 42 [] [PV.ptr 0 0]), (11, PV.ptr 6 0), (55, PV.t (T.sl 3 (List.map Lk.t l))), (56, PV.t (i64 (↑(List.map Lk.t l).length : Int))), (57, PV.t (i64 j)), (58, PV.t (T.bool b)), (59, PV.rp 3 e 0), (60, PV.t e), (61, PV.fn 42 [] [PV.ptr 0 0]), (62, PV.ptr 6 0), (63, PV.t (e.partD 0 1 false)), (64, PV.t (T.bool (decide (a < 4)))), (65, PV.t (T.bool !decide (a < 4))), (66, PV.t (T.bool false)), (67, PV.fn 42 [] [PV.ptr 0 0]), (68, PV.ptr 6 1), (69, PV.t (e.partD 1 1 false)), (70, PV.t (T.bool (decide (a_2 < 4)))), (71, PV.t (T.bool !decide (a_2 < 4))), (72, PV.t (T.bool !decide (a_2 < 4))), (73, PV.t (T.bool false)), (74, PV.ptr 6 0), (75, PV.t (e.partD 0 1 false)), (76, PV.ptr 6 1), (77, PV.t (e.partD 1 1 false)), (78, PV.t (T.bool (a_3 == b_1))), (79, PV.t (T.bool (a_3 == b_1))), (80, PV.t (T.bool false)), (81, PV.ptr 6 2), (82, PV.t (e.partD 2 1 false)), (83, PV.t (T.bool (decide (a_4 < 1)))), (84, PV.t (T.bool (decide (a_4 < 1)))), (85, PV.t (T.bool false)), (86, PV.ptr 6 2), (87, PV.t (e.partD 2 1 false)), (88, PV.t (T.bool (decide (a_5 > 3)))), (89, PV.t (T.bool (decide (a_5 > 3))))], heap := heapG 4 [c0, c1, c2, c3] [.box 40 3 (.t e)] }) else Res.ok (Ex.exit 3, { tmps := slots 153 [(7, PV.ptr 0 0), (9, PV.fn 42 [] [PV.ptr 0 0]), (11, PV.ptr 6 0), (55, PV.t (T.sl 3 (List.map Lk.t l))), (56, PV.t (i64 (↑(List.map Lk.t l).length : Int))), (57, PV.t (i64 j)), (58, PV.t (T.bool b)), (59, PV.rp 3 e 0), (60, PV.t e), (61, PV.fn 42 [] [PV.ptr 0 0]), (62, PV.ptr 6 0), (63, PV.t (e.partD 0 1 false)), (64, PV.t (T.bool (decide (a < 4)))), (65, PV.t (T.bool !decide (a < 4))), (66, PV.t (T.bool false)), (67, PV.fn 42 [] [PV.ptr 0 0]), (68, PV.ptr 6 1), (69, PV.t (e.partD 1 1 false)), (70, PV.t (T.bool false)), (71, PV.t (T.bool true)), (72, PV.t (T.bool true)), (73, PV.t (T.bool true)), (74, PV.tup []), (75, PV.tup []), (76, PV.tup []), (77, PV.tup []), (78, PV.tup []), (79, PV.t (T.bool true)), (80, PV.t (T.bool true)), (81, PV.tup []), (82, PV.tup []), (83, PV.tup []), (84, PV.t (T.bool true)), (85, PV.t (T.bool true)), (86, PV.tup []), (87, PV.tup []), (88, PV.tup []), (89, PV.t (T.bool true))], heap := heapG 4 [c0, c1, c2, c3] [.box 40 3 (.t e)] }) else Res.ok (Ex.exit 3, { tmps := slots 153 [(7, PV.ptr 0 0), (9, PV.fn 42 [] [PV.ptr 0 0]), (11, PV.ptr 6 0), (55, PV.t (T.sl 3 (List.map Lk.t l))), (56, PV.t (i64 (↑(List.map Lk.t l).length : Int))), (57, PV.t (i64 j)), (58, PV.t (T.bool b)), (59, PV.rp 3 e 0), (60, PV.t e), (61, PV.fn 42 [] [PV.ptr 0 0]), (62, PV.ptr 6 0), (63, PV.t (e.partD 0 1 false)), (64, PV.t (T.bool false)), (65, PV.t (T.bool true)), (66, PV.t (T.bool true)), (67, PV.tup []), (68, PV.tup []), (69, PV.tup []), (70, PV.tup []), (71, PV.tup []), (72, PV.t (T.bool true)), (73, PV.t (T.bool true)), (74, PV.tup []), (75, PV.tup []), (76, PV.tup []), (77, PV.tup []), (78, PV.tup []), (79, PV.t (T.bool true)), (80, PV.t (T.bool true)), (81, PV.tup []), (82, PV.tup []), (83, PV.tup []), (84, PV.t (T.bool true)), (85, PV.t (T.bool true)), (86, PV.tup []), (87, PV.tup []), (88, PV.tup []), (89, PV.t (T.bool true))], heap := heapG 4 [c0, c1, c2, c3] [.box 40 3 (.t e)] })) := by kernel_rfl
theorem zGB5 (N : Nat) (c0 c1 c2 c3 c4 : Cf) (l : List Lk) (j : Int) (b : Bool) : (seqX env (N + 1) 21 [6, 2] 0 3 ⟨slots 153 ((58, .t (.bool b)) :: lvG l j), heapG 5 [c0, c1, c2, c3, c4] []⟩) = atT (List.map Lk.t l) j fun e => chk (e.cells.length == 3 && !e.isTup) (iT IntKind.i64 (e.partD 0 1 false) fun a => bif decide (a ≥ 0) then iT IntKind.i64 (e.partD 0 1 false) fun a => bif !decide (a < 5) then Res.ok (Ex.exit 3, { tmps := slots 153 [(7, PV.ptr 0 0), (9, PV.fn 42 [] [PV.ptr 0 0]), (11, PV.ptr 7 0), (55, PV.t (T.sl 3 (List.map Lk.t l))), (56, PV.t (i64 (↑(List.map Lk.t l).length : Int))), (57, PV.t (i64 j)), (58, PV.t (T.bool b)), (59, PV.rp 3 e 0), (60, PV.t e), (61, PV.fn 42 [] [PV.ptr 0 0]), (62, PV.ptr 7 0), (63, PV.t (e.partD 0 1 false)), (64, PV.t (T.bool (decide (a < 5)))), (65, PV.t (T.bool !decide (a < 5))), (66, PV.t (T.bool true)), (67, PV.tup []), (68, PV.tup []), (69, PV.tup []), (70, PV.tup []), (71, PV.tup []), (72, PV.t (T.bool true)), (73, PV.t (T.bool true)), (74, PV.tup []), (75, PV.tup []), (76, PV.tup []), (77, PV.tup []), (78, PV.tup []), (79, PV.t (T.bool true)), (80, PV.t (T.bool true)), (81, PV.tup []), (82, PV.tup []), (83, PV.tup []), (84, PV.t (T.bool true)), (85, PV.t (T.bool true)), (86, PV.tup []), (87, PV.tup []), (88, PV.tup []), (89, PV.t (T.bool true))], heap := heapG 5 [c0, c1, c2, c3, c4] [.box 40 3 (.t e)] }) else iT IntKind.i64 (e.partD 1 1 false) fun a_1 => bif decide (a_1 ≥ 0) then iT IntKind.i64 (e.partD 1 1 false) fun a_2 => bif !decide (a_2 < 5) then Res.ok (Ex.exit 3, { tmps := slots 153 [(7, PV.ptr 0 0), (9, PV.fn 42 [] [PV.ptr 0 0]), (11, PV.ptr 7 0), (55, PV.t (T.sl 3 (List.map Lk.t l))), (56, PV.t (i64 (↑(List.map Lk.t l).length : Int))), (57, PV.t (i64 j)), (58, PV.t (T.bool b)), (59, PV.rp 3 e 0), (60, PV.t e), (61, PV.fn 42 [] [PV.ptr 0 0]), (62, PV.ptr 7 0), (63, PV.t (e.partD 0 1 false)), (64, PV.t (T.bool (decide (a < 5)))), (65, PV.t (T.bool !decide (a < 5))), (66, PV.t (T.bool false)), (67, PV.fn 42 [] [PV.ptr 0 0]), (68, PV.ptr 7 1), (69, PV.t (e.partD 1 1 false)), (70, PV.t (T.bool (decide (a_2 < 5)))), (71, PV.t (T.bool !decide (a_2 < 5))), (72, PV.t (T.bool !decide (a_2 < 5))), (73, PV.t (T.bool true)), (74, PV.tup []), (75, PV.tup []), (76, PV.tup []), (77, PV.tup []), (78, PV.tup []), (79, PV.t (T.bool true)), (80, PV.t (T.bool true)), (81, PV.tup []), (82, PV.tup []), (83, PV.tup []), (84, PV.t (T.bool true)), (85, PV.t (T.bool true)), (86, PV.tup []), (87, PV.tup []), (88, PV.tup []), (89, PV.t (T.bool true))], heap := heapG 5 [c0, c1, c2, c3, c4] [.box 40 3 (.t e)] }) else iT IntKind.i64 (e.partD 0 1 false) fun a_3 => iT IntKind.i64 (e.partD 1 1 false) fun b_1 => bif a_3 == b_1 then Res.ok (Ex.exit 3, { tmps := slots 153 [(7, PV.ptr 0 0), (9, PV.fn 42 [] [PV.ptr 0 0]), (11, PV.ptr 7 0), (55, PV.t (T.sl 3 (List.map Lk.t l))), (56, PV.t (i64 (↑(List.map Lk.t l).length : Int))), (57, PV.t (i64 j)), (58, PV.t (T.bool b)), (59, PV.rp 3 e 0), (60, PV.t e), (61, PV.fn 42 [] [PV.ptr 0 0]), (62, PV.ptr 7 0), (63, PV.t (e.partD 0 1 false)), (64, PV.t (T.bool (decide (a < 5)))), (65, PV.t (T.bool !decide (a < 5))), (66, PV.t (T.bool false)), (67, PV.fn 42 [] [PV.ptr 0 0]), (68, PV.ptr 7 1), (69, PV.t (e.partD 1 1 false)), (70, PV.t (T.bool (decide (a_2 < 5)))), (71, PV.t (T.bool !decide (a_2 < 5))), (72, PV.t (T.bool !decide (a_2 < 5))), (73, PV.t (T.bool false)), (74, PV.ptr 7 0), (75, PV.t (e.partD 0 1 false)), (76, PV.ptr 7 1), (77, PV.t (e.partD 1 1 false)), (78, PV.t (T.bool (a_3 == b_1))), (79, PV.t (T.bool (a_3 == b_1))), (80, PV.t (T.bool true)), (81, PV.tup []), (82, PV.tup []), (83, PV.tup []), (84, PV.t (T.bool true)), (85, PV.t (T.bool true)), (86, PV.tup []), (87, PV.tup []), (88, PV.tup []), (89, PV.t (T.bool true))], heap := heapG 5 [c0, c1, c2, c3, c4] [.box 40 3 (.t e)] }) else iT IntKind.i64 (e.partD 2 1 false) fun a_4 => bif decide (a_4 < 1) then Res.ok (Ex.exit 3, { tmps := slots 153 [(7, PV.ptr 0 0), (9, PV.fn 42 [] [PV.ptr 0 0]), (11, PV.ptr 7 0), (55, PV.t (T.sl 3 (List.map Lk.t l))), (56, PV.t (i64 (↑(List.map Lk.t l).length : Int))), (57, PV.t (i64 j)), (58, PV.t (T.bool b)), (59, PV.rp 3 e 0), (60, PV.t e), (61, PV.fn 42 [] [PV.ptr 0 0]), (62, PV.ptr 7 0), (63, PV.t (e.partD 0 1 false)), (64, PV.t (T.bool (decide (a < 5)))), (65, PV.t (T.bool !decide (a < 5))), (66, PV.t (T.bool false)), (67, PV.fn 42 [] [PV.ptr 0 0]), (68, PV.ptr 7 1), (69, PV.t (e.partD 1 1 false)), (70, PV.t (T.bool (decide (a_2 < 5)))), (71, PV.t (T.bool !decide (a_2 < 5))), (72, PV.t (T.bool !decide (a_2 < 5))), (73, PV.t (T.bool false)), (74, PV.ptr 7 0), (75, PV.t (e.partD 0 1 false)), (76, PV.ptr 7 1), (77, PV.t (e.partD 1 1 false)), (78, PV.t (T.bool (a_3 == b_1))), (79, PV.t (T.bool (a_3 == b_1))), (80, PV.t (T.bool false)), (81, PV.ptr 7 2), (82, PV.t (e.partD 2 1 false)), (83, PV.t (T.bool (decide (a_4 < 1)))), (84, PV.t (T.bool (decide (a_4 < 1)))), (85, PV.t (T.bool true)), (86, PV.tup []), (87, PV.tup []), (88, PV.tup []), (89, PV.t (T.bool true))], heap := heapG 5 [c0, c1, c2, c3, c4] [.box 40 3 (.t e)] }) else iT IntKind.i64 (e.partD 2 1 false) fun a_5 => bif decide (a_5 > 3) then Res.ok (Ex.exit 3, { tmps := slots 153 [(7, PV.ptr 0 0), (9, PV.fn 42 [] [PV.ptr 0 0]), (11, PV.ptr 7 0), (55, PV.t (T.sl 3 (List.map Lk.t l))), (56, PV.t (i64 (↑(List.map Lk.t l).length : Int))), (57, PV.t (i64 j)), (58, PV.t (T.bool b)), (59, PV.rp 3 e 0), (60, PV.t e), (61, PV.fn 42 [] [PV.ptr 0 0]), (62, PV.ptr 7 0), (63, PV.t (e.partD 0 1 false)), (64, PV.t (T.bool (decide (a < 5)))), (65, PV.t (T.bool !decide (a < 5))), (66, PV.t (T.bool false)), (67, PV.fn 42 [] [PV.ptr 0 0]), (68, PV.ptr 7 1), (69, PV.t (e.partD 1 1 false)), (70, PV.t (T.bool (decide (a_2 < 5)))), (71, PV.t (T.bool !decide (a_2 < 5))), (72, PV.t (T.bool !decide (a_2 < 5))), (73, PV.t (T.bool false)), (74, PV.ptr 7 0), (75, PV.t (e.partD 0 1 false)), (76, PV.ptr 7 1), (77, PV.t (e.partD 1 1 false)), (78, PV.t (T.bool (a_3 == b_1))), (79, PV.t (T.bool (a_3 == b_1))), (80, PV.t (T.bool false)), (81, PV.ptr 7 2), (82, PV.t (e.partD 2 1 false)), (83, PV.t (T.bool (decide (a_4 < 1)))), (84, PV.t (T.bool (decide (a_4 < 1)))), (85, PV.t (T.bool false)), (86, PV.ptr 7 2), (87, PV.t (e.partD 2 1 false)), (88, PV.t (T.bool (decide (a_5 > 3)))), (89, PV.t (T.bool (decide (a_5 > 3))))], heap := heapG 5 [c0, c1, c2, c3, c4] [.box 40 3 (.t e)] }) else Res.ok (Ex.norm, { tmps := slots 153 [(7, PV.ptr 0 0), (9, PV.fn 42 [] [PV.ptr 0 0]), (11, PV.ptr 7 0), (55, PV.t (T.sl 3 (List.map Lk.t l))), (56, PV.t (i64 (↑(List.map Lk.t l).length : Int))), (57, PV.t (i64 j)), (58, PV.t (T.bool b)), (59, PV.rp 3 e 0), (60, PV.t e), (61, PV.fn 42 [] [PV.ptr 0 0]), (62, PV.ptr 7 0), (63, PV.t (e.partD 0 1 false)), (64, PV.t (T.bool (decide (a < 5)))), (65, PV.t (T.bool !decide (a < 5))), (66, PV.t (T.bool false)), (67, PV.fn 42 [] [PV.ptr 0 0]), (68, PV.ptr 7 1), (69, PV.t (e.partD 1 1 false)), (70, PV.t (T.bool (decide (a_2 < 5)))), (71, PV.t (T.bool !decide (a_2 < 5))), (72, PV.t (T.bool !decide (a_2 < 5))), (73, PV.t (T.bool false)), (74, PV.ptr 7 0), (75, PV.t (e.partD 0 1 false)), (76, PV.ptr 7 1), (77, PV.t (e.partD 1 1 false)), (78, PV.t (T.bool (a_3 == b_1))), (79, PV.t (T.bool (a_3 == b_1))), (80, PV.t (T.bool false)), (81, PV.ptr 7 2), (82, PV.t (e.partD 2 1 false)), (83, PV.t (T.bool (decide (a_4 < 1)))), (84, PV.t (T.bool (decide (a_4 < 1)))), (85, PV.t (T.bool false)), (86, PV.ptr 7 2), (87, PV.t (e.partD 2 1 false)), (88, PV.t (T.bool (decide (a_5 > 3)))), (89, PV.t (T.bool (decide (a_5 > 3))))], heap := heapG 5 [c0, c1, c2, c3, c4] [.box 40 3 (.t e)] }) else Res.ok (Ex.exit 3, { tmps := slots 153 [(7, PV.ptr 0 0), (9, PV.fn 42 [] [PV.ptr 0 0]), (11, PV.ptr 7 0), (55, PV.t (T.sl 3 (List.map Lk.t l))), (56, PV.t (i64 (↑(List.map Lk.t l).length : Int))), (57, PV.t (i64 j)), (58, PV.t (T.bool b)), (59, PV.rp 3 e 0), (60, PV.t e), (61, PV.fn 42 [] [PV.ptr 0 0]), (62, PV.ptr 7 0), (63, PV.t (e.partD 0 1 false)), (64, PV.t (T.bool (decide (a < 5)))), (65, PV.t (T.bool !decide (a < 5))), (66, PV.t (T.bool false)), (67, PV.fn 42 [] [PV.ptr 0 0]), (68, PV.ptr 7 1), (69, PV.t (e.partD 1 1 false)), (70, PV.t (T.bool false)), (71, PV.t (T.bool true)), (72, PV.t (T.bool true)), (73, PV.t (T.bool true)), (74, PV.tup []), (75, PV.tup []), (76, PV.tup []), (77, PV.tup []), (78, PV.tup []), (79, PV.t (T.bool true)), (80, PV.t (T.bool true)), (81, PV.tup []), (82, PV.tup []), (83, PV.tup []), (84, PV.t (T.bool true)), (85, PV.t (T.bool true)), (86, PV.tup []), (87, PV.tup []), (88, PV.tup []), (89, PV.t (T.bool true))], heap := heapG 5 [c0, c1, c2, c3, c4] [.box 40 3 (.t e)] }) else Res.ok (Ex.exit 3, { tmps := slots 153 [(7, PV.ptr 0 0), (9, PV.fn 42 [] [PV.ptr 0 0]), (11, PV.ptr 7 0), (55, PV.t (T.sl 3 (List.map Lk.t l))), (56, PV.t (i64 (↑(List.map Lk.t l).length : Int))), (57, PV.t (i64 j)), (58, PV.t (T.bool b)), (59, PV.rp 3 e 0), (60, PV.t e), (61, PV.fn 42 [] [PV.ptr 0 0]), (62, PV.ptr 7 0), (63, PV.t (e.partD 0 1 false)), (64, PV.t (T.bool false)), (65, PV.t (T.bool true)), (66, PV.t (T.bool true)), (67, PV.tup []), (68, PV.tup []), (69, PV.tup []), (70, PV.tup []), (71, PV.tup []), (72, PV.t (T.bool true)), (73, PV.t (T.bool true)), (74, PV.tup []), (75, PV.tup []), (76, PV.tup []), (77, PV.tup []), (78, PV.tup []), (79, PV.t (T.bool true)), (80, PV.t (T.bool true)), (81, PV.tup []), (82, PV.tup []), (83, PV.tup []), (84, PV.t (T.bool true)), (85, PV.t (T.bool true)), (86, PV.tup []), (87, PV.tup []), (88, PV.tup []), (89, PV.t (T.bool true))], heap := heapG 5 [c0, c1, c2, c3, c4] [.box 40 3 (.t e)] })) := by kernel_rfl
theorem zGB6 (N : Nat) (c0 c1 c2 c3 c4 c5 : Cf) (l : List Lk) (j : Int) (b : Bool) : (seqX env (N + 1) 21 [6, 2] 0 3 ⟨slots 153 ((58, .t (.bool b)) :: lvG l j), heapG 6 [c0, c1, c2, c3, c4, c5] []⟩) = atT (List.map Lk.t l) j fun e => chk (e.cells.length == 3 && !e.isTup) (iT IntKind.i64 (e.partD 0 1 false) fun a => bif decide (a ≥ 0) then iT IntKind.i64 (e.partD 0 1 false) fun a => bif !decide (a < 6) then Res.ok (Ex.exit 3, { tmps := slots 153 [(7, PV.ptr 0 0), (9, PV.fn 42 [] [PV.ptr 0 0]), (11, PV.ptr 8 0), (55, PV.t (T.sl 3 (List.map Lk.t l))), (56, PV.t (i64 (↑(List.map Lk.t l).length : Int))), (57, PV.t (i64 j)), (58, PV.t (T.bool b)), (59, PV.rp 3 e 0), (60, PV.t e), (61, PV.fn 42 [] [PV.ptr 0 0]), (62, PV.ptr 8 0), (63, PV.t (e.partD 0 1 false)), (64, PV.t (T.bool (decide (a < 6)))), (65, PV.t (T.bool !decide (a < 6))), (66, PV.t (T.bool true)), (67, PV.tup []), (68, PV.tup []), (69, PV.tup []), (70, PV.tup []), (71, PV.tup []), (72, PV.t (T.bool true)), (73, PV.t (T.bool true)), (74, PV.tup []), (75, PV.tup []), (76, PV.tup []), (77, PV.tup []), (78, PV.tup []), (79, PV.t (T.bool true)), (80, PV.t (T.bool true)), (81, PV.tup []), (82, PV.tup []), (83, PV.tup []), (84, PV.t (T.bool true)), (85, PV.t (T.bool true)), (86, PV.tup []), (87, PV.tup []), (88, PV.tup []), (89, PV.t (T.bool true))], heap := heapG 6 [c0, c1, c2, c3, c4, c5] [.box 40 3 (.t e)] }) else iT IntKind.i64 (e.partD 1 1 false) fun a_1 => bif decide (a_1 ≥ 0) then iT IntKind.i64 (e.partD 1 1 false) fun a_2 => bif !decide (a_2 < 6) then Res.ok (Ex.exit 3, { tmps := slots 153 [(7, PV.ptr 0 0), (9, PV.fn 42 [] [PV.ptr 0 0]), (11, PV.ptr 8 0), (55, PV.t (T.sl 3 (List.map Lk.t l))), (56, PV.t (i64 (↑(List.map Lk.t l).length : Int))), (57, PV.t (i64 j)), (58, PV.t (T.bool b)), (59, PV.rp 3 e 0), (60, PV.t e), (61, PV.fn 42 [] [PV.ptr 0 0]), (62, PV.ptr 8 0), (63, PV.t (e.partD 0 1 false)), (64, PV.t (T.bool (decide (a < 6)))), (65, PV.t (T.bool !decide (a < 6))), (66, PV.t (T.bool false)), (67, PV.fn 42 [] [PV.ptr 0 0]), (68, PV.ptr 8 1), (69, PV.t (e.partD 1 1 false)), (70, PV.t (T.bool (decide (a_2 < 6)))), (71, PV.t (T.bool !decide (a_2 < 6))), (72, PV.t (T.bool !decide (a_2 < 6))), (73, PV.t (T.bool true)), (74, PV.tup []), (75, PV.tup []), (76, PV.tup []), (77, PV.tup []), (78, PV.tup []), (79, PV.t (T.bool true)), (80, PV.t (T.bool true)), (81, PV.tup []), (82, PV.tup []), (83, PV.tup []), (84, PV.t (T.bool true)), (85, PV.t (T.bool true)), (86, PV.tup []), (87, PV.tup []), (88, PV.tup []), (89, PV.t (T.bool true))], heap := heapG 6 [c0, c1, c2, c3, c4, c5] [.box 40 3 (.t e)] }) else iT IntKind.i64 (e.partD 0 1 false) fun a_3 => iT IntKind.i64 (e.partD 1 1 false) fun b_1 => bif a_3 == b_1 then Res.ok (Ex.exit 3, { tmps := slots 153 [(7, PV.ptr 0 0), (9, PV.fn 42 [] [PV.ptr 0 0]), (11, PV.ptr 8 0), (55, PV.t (T.sl 3 (List.map Lk.t l))), (56, PV.t (i64 (↑(List.map Lk.t l).length : Int))), (57, PV.t (i64 j)), (58, PV.t (T.bool b)), (59, PV.rp 3 e 0), (60, PV.t e), (61, PV.fn 42 [] [PV.ptr 0 0]), (62, PV.ptr 8 0), (63, PV.t (e.partD 0 1 false)), (64, PV.t (T.bool (decide (a < 6)))), (65, PV.t (T.bool !decide (a < 6))), (66, PV.t (T.bool false)), (67, PV.fn 42 [] [PV.ptr 0 0]), (68, PV.ptr 8 1), (69, PV.t (e.partD 1 1 false)), (70, PV.t (T.bool (decide (a_2 < 6)))), (71, PV.t (T.bool !decide (a_2 < 6))), (72, PV.t (T.bool !decide (a_2 < 6))), (73, PV.t (T.bool false)), (74, PV.ptr 8 0), (75, PV.t (e.partD 0 1 false)), (76, PV.ptr 8 1), (77, PV.t (e.partD 1 1 false)), (78, PV.t (T.bool (a_3 == b_1))), (79, PV.t (T.bool (a_3 == b_1))), (80, PV.t (T.bool true)), (81, PV.tup []), (82, PV.tup []), (83, PV.tup []), (84, PV.t (T.bool true)), (85, PV.t (T.bool true)), (86, PV.tup []), (87, PV.tup []), (88, PV.tup []), (89, PV.t (T.bool true))], heap := heapG 6 [c0, c1, c2, c3, c4, c5] [.box 40 3 (.t e)] }) else iT IntKind.i64 (e.partD 2 1 false) fun a_4 => bif decide (a_4 < 1) then Res.ok (Ex.exit 3, { tmps := slots 153 [(7, PV.ptr 0 0), (9, PV.fn 42 [] [PV.ptr 0 0]), (11, PV.ptr 8 0), (55, PV.t (T.sl 3 (List.map Lk.t l))), (56, PV.t (i64 (↑(List.map Lk.t l).length : Int))), (57, PV.t (i64 j)), (58, PV.t (T.bool b)), (59, PV.rp 3 e 0), (60, PV.t e), (61, PV.fn 42 [] [PV.ptr 0 0]), (62, PV.ptr 8 0), (63, PV.t (e.partD 0 1 false)), (64, PV.t (T.bool (decide (a < 6)))), (65, PV.t (T.bool !decide (a < 6))), (66, PV.t (T.bool false)), (67, PV.fn 42 [] [PV.ptr 0 0]), (68, PV.ptr 8 1), (69, PV.t (e.partD 1 1 false)), (70, PV.t (T.bool (decide (a_2 < 6)))), (71, PV.t (T.bool !decide (a_2 < 6))), (72, PV.t (T.bool !decide (a_2 < 6))), (73, PV.t (T.bool false)), (74, PV.ptr 8 0), (75, PV.t (e.partD 0 1 false)), (76, PV.ptr 8 1), (77, PV.t (e.partD 1 1 false)), (78, PV.t (T.bool (a_3 == b_1))), (79, PV.t (T.bool (a_3 == b_1))), (80, PV.t (T.bool false)), (81, PV.ptr 8 2), (82, PV.t (e.partD 2 1 false)), (83, PV.t (T.bool (decide (a_4 < 1)))), (84, PV.t (T.bool (decide (a_4 < 1)))), (85, PV.t (T.bool true)), (86, PV.tup []), (87, PV.tup []), (88, PV.tup []), (89, PV.t (T.bool true))], heap := heapG 6 [c0, c1, c2, c3, c4, c5] [.box 40 3 (.t e)] }) else iT IntKind.i64 (e.partD 2 1 false) fun a_5 => bif decide (a_5 > 3) then Res.ok (Ex.exit 3, { tmps := slots 153 [(7, PV.ptr 0 0), (9, PV.fn 42 [] [PV.ptr 0 0]), (11, PV.ptr 8 0), (55, PV.t (T.sl 3 (List.map Lk.t l))), (56, PV.t (i64 (↑(List.map Lk.t l).length : Int))), (57, PV.t (i64 j)), (58, PV.t (T.bool b)), (59, PV.rp 3 e 0), (60, PV.t e), (61, PV.fn 42 [] [PV.ptr 0 0]), (62, PV.ptr 8 0), (63, PV.t (e.partD 0 1 false)), (64, PV.t (T.bool (decide (a < 6)))), (65, PV.t (T.bool !decide (a < 6))), (66, PV.t (T.bool false)), (67, PV.fn 42 [] [PV.ptr 0 0]), (68, PV.ptr 8 1), (69, PV.t (e.partD 1 1 false)), (70, PV.t (T.bool (decide (a_2 < 6)))), (71, PV.t (T.bool !decide (a_2 < 6))), (72, PV.t (T.bool !decide (a_2 < 6))), (73, PV.t (T.bool false)), (74, PV.ptr 8 0), (75, PV.t (e.partD 0 1 false)), (76, PV.ptr 8 1), (77, PV.t (e.partD 1 1 false)), (78, PV.t (T.bool (a_3 == b_1))), (79, PV.t (T.bool (a_3 == b_1))), (80, PV.t (T.bool false)), (81, PV.ptr 8 2), (82, PV.t (e.partD 2 1 false)), (83, PV.t (T.bool (decide (a_4 < 1)))), (84, PV.t (T.bool (decide (a_4 < 1)))), (85, PV.t (T.bool false)), (86, PV.ptr 8 2), (87, PV.t (e.partD 2 1 false)), (88, PV.t (T.bool (decide (a_5 > 3)))), (89, PV.t (T.bool (decide (a_5 > 3))))], heap := heapG 6 [c0, c1, c2, c3, c4, c5] [.box 40 3 (.t e)] }) else Res.ok (Ex.norm, { tmps := slots 153 [(7, PV.ptr 0 0), (9, PV.fn 42 [] [PV.ptr 0 0]), (11, PV.ptr 8 0), (55, PV.t (T.sl 3 (List.map Lk.t l))), (56, PV.t (i64 (↑(List.map Lk.t l).length : Int))), (57, PV.t (i64 j)), (58, PV.t (T.bool b)), (59, PV.rp 3 e 0), (60, PV.t e), (61, PV.fn 42 [] [PV.ptr 0 0]), (62, PV.ptr 8 0), (63, PV.t (e.partD 0 1 false)), (64, PV.t (T.bool (decide (a < 6)))), (65, PV.t (T.bool !decide (a < 6))), (66, PV.t (T.bool false)), (67, PV.fn 42 [] [PV.ptr 0 0]), (68, PV.ptr 8 1), (69, PV.t (e.partD 1 1 false)), (70, PV.t (T.bool (decide (a_2 < 6)))), (71, PV.t (T.bool !decide (a_2 < 6))), (72, PV.t (T.bool !decide (a_2 < 6))), (73, PV.t (T.bool false)), (74, PV.ptr 8 0), (75, PV.t (e.partD 0 1 false)), (76, PV.ptr 8 1), (77, PV.t (e.partD 1 1 false)), (78, PV.t (T.bool (a_3 == b_1))), (79, PV.t (T.bool (a_3 == b_1))), (80, PV.t (T.bool false)), (81, PV.ptr 8 2), (82, PV.t (e.partD 2 1 false)), (83, PV.t (T.bool (decide (a_4 < 1)))), (84, PV.t (T.bool (decide (a_4 < 1)))), (85, PV.t (T.bool false)), (86, PV.ptr 8 2), (87, PV.t (e.partD 2 1 false)), (88, PV.t (T.bool (decide (a_5 > 3)))), (89, PV.t (T.bool (decide (a_5 > 3))))], heap := heapG 6 [c0, c1, c2, c3, c4, c5] [.box 40 3 (.t e)] }) else Res.ok (Ex.exit 3, { tmps := slots 153 [(7, PV.ptr 0 0), (9, PV.fn 42 [] [PV.ptr 0 0]), (11, PV.ptr 8 0), (55, PV.t (T.sl 3 (List.map Lk.t l))), (56, PV.t (i64 (↑(List.map Lk.t l).length : Int))), (57, PV.t (i64 j)), (58, PV.t (T.bool b)), (59, PV.rp 3 e 0), (60, PV.t e), (61, PV.fn 42 [] [PV.ptr 0 0]), (62, PV.ptr 8 0), (63, PV.t (e.partD 0 1 false)), (64, PV.t (T.bool (decide (a < 6)))), (65, PV.t (T.bool !decide (a < 6))), (66, PV.t (T.bool false)), (67, PV.fn 42 [] [PV.ptr 0 0]), (68, PV.ptr 8 1), (69, PV.t (e.partD 1 1 false)), (70, PV.t (T.bool false)), (71, PV.t (T.bool true)), (72, PV.t (T.bool true)), (73, PV.t (T.bool true)), (74, PV.tup []), (75, PV.tup []), (76, PV.tup []), (77, PV.tup []), (78, PV.tup []), (79, PV.t (T.bool true)), (80, PV.t (T.bool true)), (81, PV.tup []), (82, PV.tup []), (83, PV.tup []), (84, PV.t (T.bool true)), (85, PV.t (T.bool true)), (86, PV.tup []), (87, PV.tup []), (88, PV.tup []), (89, PV.t (T.bool true))], heap := heapG 6 [c0, c1, c2, c3, c4, c5] [.box 40 3 (.t e)] }) else Res.ok (Ex.exit 3, { tmps := slots 153 [(7, PV.ptr 0 0), (9, PV.fn 42 [] [PV.ptr 0 0]), (11, PV.ptr 8 0), (55, PV.t (T.sl 3 (List.map Lk.t l))), (56, PV.t (i64 (↑(List.map Lk.t l).length : Int))), (57, PV.t (i64 j)), (58, PV.t (T.bool b)), (59, PV.rp 3 e 0), (60, PV.t e), (61, PV.fn 42 [] [PV.ptr 0 0]), (62, PV.ptr 8 0), (63, PV.t (e.partD 0 1 false)), (64, PV.t (T.bool false)), (65, PV.t (T.bool true)), (66, PV.t (T.bool true)), (67, PV.tup []), (68, PV.tup []), (69, PV.tup []), (70, PV.tup []), (71, PV.tup []), (72, PV.t (T.bool true)), (73, PV.t (T.bool true)), (74, PV.tup []), (75, PV.tup []), (76, PV.tup []), (77, PV.tup []), (78, PV.tup []), (79, PV.t (T.bool true)), (80, PV.t (T.bool true)), (81, PV.tup []), (82, PV.tup []), (83, PV.tup []), (84, PV.t (T.bool true)), (85, PV.t (T.bool true)), (86, PV.tup []), (87, PV.tup []), (88, PV.tup []), (89, PV.t (T.bool true))], heap := heapG 6 [c0, c1, c2, c3, c4, c5] [.box 40 3 (.t e)] })) := by kernel_rfl
theorem zGB7 (N : Nat) (c0 c1 c2 c3 c4 c5 c6 : Cf) (l : List Lk) (j : Int) (b : Bool) : (seqX env (N + 1) 21 [6, 2] 0 3 ⟨slots 153 ((58, .t (.bool b)) :: lvG l j), heapG 7 [c0, c1, c2, c3, c4, c5, c6] []⟩) = atT (List.map Lk.t l) j fun e => chk (e.cells.length == 3 && !e.isTup) (iT IntKind.i64 (e.partD 0 1 false) fun a => bif decide (a ≥ 0) then iT IntKind.i64 (e.partD 0 1 false) fun a => bif !decide (a < 7) then Res.ok (Ex.exit 3, { tmps := slots 153 [(7, PV.ptr 0 0), (9, PV.fn 42 [] [PV.ptr 0 0]), (11, PV.ptr 9 0), (55, PV.t (T.sl 3 (List.map Lk.t l))), (56, PV.t (i64 (↑(List.map Lk.t l).length : Int))), (57, PV.t (i64 j)), (58, PV.t (T.bool b)), (59, PV.rp 3 e 0), (60, PV.t e), (61, PV.fn 42 [] [PV.ptr 0 0]), (62, PV.ptr 9 0), (63, PV.t (e.partD 0 1 false)), (64, PV.t (T.bool (decide (a < 7)))), (65, PV.t (T.bool !decide (a < 7))), (66, PV.t (T.bool true)), (67, PV.tup []), (68, PV.tup []), (69, PV.tup []), (70, PV.tup []), (71, PV.tup []), (72, PV.t (T.bool true)), (73, PV.t (T.bool true)), (74, PV.tup []), (75, PV.tup []), (76, PV.tup []), (77, PV.tup []), (78, PV.tup []), (79, PV.t (T.bool true)), (80, PV.t (T.bool true)), (81, PV.tup []), (82, PV.tup []), (83, PV.tup []), (84, PV.t (T.bool true)), (85, PV.t (T.bool true)), (86, PV.tup []), (87, PV.tup []), (88, PV.tup []), (89, PV.t (T.bool true))], heap := heapG 7 [c0, c1, c2, c3, c4, c5, c6] [.box 40 3 (.t e)] }) else iT IntKind.i64 (e.partD 1 1 false) fun a_1 => bif decide (a_1 ≥ 0) then iT IntKind.i64 (e.partD 1 1 false) fun a_2 => bif !decide (a_2 < 7) then Res.ok (Ex.exit 3, { tmps := slots 153 [(7, PV.ptr 0 0), (9, PV.fn 42 [] [PV.ptr 0 0]), (11, PV.ptr 9 0), (55, PV.t (T.sl 3 (List.map Lk.t l))), (56, PV.t (i64 (↑(List.map Lk.t l).length : Int))), (57, PV.t (i64 j)), (58, PV.t (T.bool b)), (59, PV.rp 3 e 0), (60, PV.t e), (61, PV.fn 42 [] [PV.ptr 0 0]), (62, PV.ptr 9 0), (63, PV.t (e.partD 0 1 false)), (64, PV.t (T.bool (decide (a < 7)))), (65, PV.t (T.bool !decide (a < 7))), (66, PV.t (T.bool false)), (67, PV.fn 42 [] [PV.ptr 0 0]), (68, PV.ptr 9 1), (69, PV.t (e.partD 1 1 false)), (70, PV.t (T.bool (decide (a_2 < 7)))), (71, PV.t (T.bool !decide (a_2 < 7))), (72, PV.t (T.bool !decide (a_2 < 7))), (73, PV.t (T.bool true)), (74, PV.tup []), (75, PV.tup []), (76, PV.tup []), (77, PV.tup []), (78, PV.tup []), (79, PV.t (T.bool true)), (80, PV.t (T.bool true)), (81, PV.tup []), (82, PV.tup []), (83, PV.tup []), (84, PV.t (T.bool true)), (85, PV.t (T.bool true)), (86, PV.tup []), (87, PV.tup []), (88, PV.tup []), (89, PV.t (T.bool true))], heap := heapG 7 [c0, c1, c2, c3, c4, c5, c6] [.box 40 3 (.t e)] }) else iT IntKind.i64 (e.partD 0 1 false) fun a_3 => iT IntKind.i64 (e.partD 1 1 false) fun b_1 => bif a_3 == b_1 then Res.ok (Ex.exit 3, { tmps := slots 153 [(7, PV.ptr 0 0), (9, PV.fn 42 [] [PV.ptr 0 0]), (11, PV.ptr 9 0), (55, PV.t (T.sl 3 (List.map Lk.t l))), (56, PV.t (i64 (↑(List.map Lk.t l).length : Int))), (57, PV.t (i64 j)), (58, PV.t (T.bool b)), (59, PV.rp 3 e 0), (60, PV.t e), (61, PV.fn 42 [] [PV.ptr 0 0]), (62, PV.ptr 9 0), (63, PV.t (e.partD 0 1 false)), (64, PV.t (T.bool (decide (a < 7)))), (65, PV.t (T.bool !decide (a < 7))), (66, PV.t (T.bool false)), (67, PV.fn 42 [] [PV.ptr 0 0]), (68, PV.ptr 9 1), (69, PV.t (e.partD 1 1 false)), (70, PV.t (T.bool (decide (a_2 < 7)))), (71, PV.t (T.bool !decide (a_2 < 7))), (72, PV.t (T.bool !decide (a_2 < 7))), (73, PV.t (T.bool false)), (74, PV.ptr 9 0), (75, PV.t (e.partD 0 1 false)), (76, PV.ptr 9 1), (77, PV.t (e.partD 1 1 false)), (78, PV.t (T.bool (a_3 == b_1))), (79, PV.t (T.bool (a_3 == b_1))), (80, PV.t (T.bool true)), (81, PV.tup []), (82, PV.tup []), (83, PV.tup []), (84, PV.t (T.bool true)), (85, PV.t (T.bool true)), (86, PV.tup []), (87, PV.tup []), (88, PV.tup []), (89, PV.t (T.bool true))], heap := heapG 7 [c0, c1, c2, c3, c4, c5, c6] [.box 40 3 (.t e)] }) else iT IntKind.i64 (e.partD 2 1 false) fun a_4 => bif decide (a_4 < 1) then Res.ok (Ex.exit 3, { tmps := slots 153 [(7, PV.ptr 0 0), (9, PV.fn 42 [] [PV.ptr 0 0]), (11, PV.ptr 9 0), (55, PV.t (T.sl 3 (List.map Lk.t l))), (56, PV.t (i64 (↑(List.map Lk.t l).length : Int))), (57, PV.t (i64 j)), (58, PV.t (T.bool b)), (59, PV.rp 3 e 0), (60, PV.t e), (61, PV.fn 42 [] [PV.ptr 0 0]), (62, PV.ptr 9 0), (63, PV.t (e.partD 0 1 false)), (64, PV.t (T.bool (decide (a < 7)))), (65, PV.t (T.bool !decide (a < 7))), (66, PV.t (T.bool false)), (67, PV.fn 42 [] [PV.ptr 0 0]), (68, PV.ptr 9 1), (69, PV.t (e.partD 1 1 false)), (70, PV.t (T.bool (decide (a_2 < 7)))), (71, PV.t (T.bool !decide (a_2 < 7))), (72, PV.t (T.bool !decide (a_2 < 7))), (73, PV.t (T.bool false)), (74, PV.ptr 9 0), (75, PV.t (e.partD 0 1 false)), (76, PV.ptr 9 1), (77, PV.t (e.partD 1 1 false)), (78, PV.t (T.bool (a_3 == b_1))), (79, PV.t (T.bool (a_3 == b_1))), (80, PV.t (T.bool false)), (81, PV.ptr 9 2), (82, PV.t (e.partD 2 1 false)), (83, PV.t (T.bool (decide (a_4 < 1)))), (84, PV.t (T.bool (decide (a_4 < 1)))), (85, PV.t (T.bool true)), (86, PV.tup []), (87, PV.tup []), (88, PV.tup []), (89, PV.t (T.bool true))], heap := heapG 7 [c0, c1, c2, c3, c4, c5, c6] [.box 40 3 (.t e)] }) else iT IntKind.i64 (e.partD 2 1 false) fun a_5 => bif decide (a_5 > 3) then Res.ok (Ex.exit 3, { tmps := slots 153 [(7, PV.ptr 0 0), (9, PV.fn 42 [] [PV.ptr 0 0]), (11, PV.ptr 9 0), (55, PV.t (T.sl 3 (List.map Lk.t l))), (56, PV.t (i64 (↑(List.map Lk.t l).length : Int))), (57, PV.t (i64 j)), (58, PV.t (T.bool b)), (59, PV.rp 3 e 0), (60, PV.t e), (61, PV.fn 42 [] [PV.ptr 0 0]), (62, PV.ptr 9 0), (63, PV.t (e.partD 0 1 false)), (64, PV.t (T.bool (decide (a < 7)))), (65, PV.t (T.bool !decide (a < 7))), (66, PV.t (T.bool false)), (67, PV.fn 42 [] [PV.ptr 0 0]), (68, PV.ptr 9 1), (69, PV.t (e.partD 1 1 false)), (70, PV.t (T.bool (decide (a_2 < 7)))), (71, PV.t (T.bool !decide (a_2 < 7))), (72, PV.t (T.bool !decide (a_2 < 7))), (73, PV.t (T.bool false)), (74, PV.ptr 9 0), (75, PV.t (e.partD 0 1 false)), (76, PV.ptr 9 1), (77, PV.t (e.partD 1 1 false)), (78, PV.t (T.bool (a_3 == b_1))), (79, PV.t (T.bool (a_3 == b_1))), (80, PV.t (T.bool false)), (81, PV.ptr 9 2), (82, PV.t (e.partD 2 1 false)), (83, PV.t (T.bool (decide (a_4 < 1)))), (84, PV.t (T.bool (decide (a_4 < 1)))), (85, PV.t (T.bool false)), (86, PV.ptr 9 2), (87, PV.t (e.partD 2 1 false)), (88, PV.t (T.bool (decide (a_5 > 3)))), (89, PV.t (T.bool (decide (a_5 > 3))))], heap := heapG 7 [c0, c1, c2, c3, c4, c5, c6] [.box 40 3 (.t e)] }) else Res.ok (Ex.norm, { tmps := slots 153 [(7, PV.ptr 0 0), (9, PV.fn 42 [] [PV.ptr 0 0]), (11, PV.ptr 9 0), (55, PV.t (T.sl 3 (List.map Lk.t l))), (56, PV.t (i64 (↑(List.map Lk.t l).length : Int))), (57, PV.t (i64 j)), (58, PV.t (T.bool b)), (59, PV.rp 3 e 0), (60, PV.t e), (61, PV.fn 42 [] [PV.ptr 0 0]), (62, PV.ptr 9 0), (63, PV.t (e.partD 0 1 false)), (64, PV.t (T.bool (decide (a < 7)))), (65, PV.t (T.bool !decide (a < 7))), (66, PV.t (T.bool false)), (67, PV.fn 42 [] [PV.ptr 0 0]), (68, PV.ptr 9 1), (69, PV.t (e.partD 1 1 false)), (70, PV.t (T.bool (decide (a_2 < 7)))), (71, PV.t (T.bool !decide (a_2 < 7))), (72, PV.t (T.bool !decide (a_2 < 7))), (73, PV.t (T.bool false)), (74, PV.ptr 9 0), (75, PV.t (e.partD 0 1 false)), (76, PV.ptr 9 1), (77, PV.t (e.partD 1 1 false)), (78, PV.t (T.bool (a_3 == b_1))), (79, PV.t (T.bool (a_3 == b_1))), (80, PV.t (T.bool false)), (81, PV.ptr 9 2), (82, PV.t (e.partD 2 1 false)), (83, PV.t (T.bool (decide (a_4 < 1)))), (84, PV.t (T.bool (decide (a_4 < 1)))), (85, PV.t (T.bool false)), (86, PV.ptr 9 2), (87, PV.t (e.partD 2 1 false)), (88, PV.t (T.bool (decide (a_5 > 3)))), (89, PV.t (T.bool (decide (a_5 > 3))))], heap := heapG 7 [c0, c1, c2, c3, c4, c5, c6] [.box 40 3 (.t e)] }) else Res.ok (Ex.exit 3, { tmps := slots 153 [(7, PV.ptr 0 0), (9, PV.fn 42 [] [PV.ptr 0 0]), (11, PV.ptr 9 0), (55, PV.t (T.sl 3 (List.map Lk.t l))), (56, PV.t (i64 (↑(List.map Lk.t l).length : Int))), (57, PV.t (i64 j)), (58, PV.t (T.bool b)), (59, PV.rp 3 e 0), (60, PV.t e), (61, PV.fn 42 [] [PV.ptr 0 0]), (62, PV.ptr 9 0), (63, PV.t (e.partD 0 1 false)), (64, PV.t (T.bool (decide (a < 7)))), (65, PV.t (T.bool !decide (a < 7))), (66, PV.t (T.bool false)), (67, PV.fn 42 [] [PV.ptr 0 0]), (68, PV.ptr 9 1), (69, PV.t (e.partD 1 1 false)), (70, PV.t (T.bool false)), (71, PV.t (T.bool true)), (72, PV.t (T.bool true)), (73, PV.t (T.bool true)), (74, PV.tup []), (75, PV.tup []), (76, PV.tup []), (77, PV.tup []), (78, PV.tup []), (79, PV.t (T.bool true)), (80, PV.t (T.bool true)), (81, PV.tup []), (82, PV.tup []), (83, PV.tup []), (84, PV.t (T.bool true)), (85, PV.t (T.bool true)), (86, PV.tup []), (87, PV.tup []), (88, PV.tup []), (89, PV.t (T.bool true))], heap := heapG 7 [c0, c1, c2, c3, c4, c5, c6] [.box 40 3 (.t e)] }) else Res.ok (Ex.exit 3, { tmps := slots 153 [(7, PV.ptr 0 0), (9, PV.fn 42 [] [PV.ptr 0 0]), (11, PV.ptr 9 0), (55, PV.t (T.sl 3 (List.map Lk.t l))), (56, PV.t (i64 (↑(List.map Lk.t l).length : Int))), (57, PV.t (i64 j)), (58, PV.t (T.bool b)), (59, PV.rp 3 e 0), (60, PV.t e), (61, PV.fn 42 [] [PV.ptr 0 0]), (62, PV.ptr 9 0), (63, PV.t (e.partD 0 1 false)), (64, PV.t (T.bool false)), (65, PV.t (T.bool true)), (66, PV.t (T.bool true)), (67, PV.tup []), (68, PV.tup []), (69, PV.tup []), (70, PV.tup []), (71, PV.tup []), (72, PV.t (T.bool true)), (73, PV.t (T.bool true)), (74, PV.tup []), (75, PV.tup []), (76, PV.tup []), (77, PV.tup []), (78, PV.tup []), (79, PV.t (T.bool true)), (80, PV.t (T.bool true)), (81, PV.tup []), (82, PV.tup []), (83, PV.tup []), (84, PV.t (T.bool true)), (85, PV.t (T.bool true)), (86, PV.tup []), (87, PV.tup []), (88, PV.tup []), (89, PV.t (T.bool true))], heap := heapG 7 [c0, c1, c2, c3, c4, c5, c6] [.box 40 3 (.t e)] })) := by kernel_rfl
theorem zGB8 (N : Nat) (c0 c1 c2 c3 c4 c5 c6 c7 : Cf) (l : List Lk) (j : Int) (b : Bool) : (seqX env (N + 1) 21 [6, 2] 0 3 ⟨slots 153 ((58, .t (.bool b)) :: lvG l j), heapG 8 [c0, c1, c2, c3, c4, c5, c6, c7] []⟩) = atT (List.map Lk.t l) j fun e => chk (e.cells.length == 3 && !e.isTup) (iT IntKind.i64 (e.partD 0 1 false) fun a => bif decide (a ≥ 0) then iT IntKind.i64 (e.partD 0 1 false) fun a => bif !decide (a < 8) then Res.ok (Ex.exit 3, { tmps := slots 153 [(7, PV.ptr 0 0), (9, PV.fn 42 [] [PV.ptr 0 0]), (11, PV.ptr 10 0), (55, PV.t (T.sl 3 (List.map Lk.t l))), (56, PV.t (i64 (↑(List.map Lk.t l).length : Int))), (57, PV.t (i64 j)), (58, PV.t (T.bool b)), (59, PV.rp 3 e 0), (60, PV.t e), (61, PV.fn 42 [] [PV.ptr 0 0]), (62, PV.ptr 10 0), (63, PV.t (e.partD 0 1 false)), (64, PV.t (T.bool (decide (a < 8)))), (65, PV.t (T.bool !decide (a < 8))), (66, PV.t (T.bool true)), (67, PV.tup []), (68, PV.tup []), (69, PV.tup []), (70, PV.tup []), (71, PV.tup []), (72, PV.t (T.bool true)), (73, PV.t (T.bool true)), (74, PV.tup []), (75, PV.tup []), (76, PV.tup []), (77, PV.tup []), (78, PV.tup []), (79, PV.t (T.bool true)), (80, PV.t (T.bool true)), (81, PV.tup []), (82, PV.tup []), (83, PV.tup []), (84, PV.t (T.bool true)), (85, PV.t (T.bool true)), (86, PV.tup []), (87, PV.tup []), (88, PV.tup []), (89, PV.t (T.bool true))], heap := heapG 8 [c0, c1, c2, c3, c4, c5, c6, c7] [.box 40 3 (.t e)] }) else iT IntKind.i64 (e.partD 1 1 false) fun a_1 => bif decide (a_1 ≥ 0) then iT IntKind.i64 (e.partD 1 1 false) fun a_2 => bif !decide (a_2 < 8) then Res.ok (Ex.exit 3, { tmps := slots 153 [(7, PV.ptr 0 0), (9, PV.fn 42 [] [PV.ptr 0 0]), (11, PV.ptr 10 0), (55, PV.t (T.sl 3 (List.map Lk.t l))), (56, PV.t (i64 (↑(List.map Lk.t l).length : Int))), (57, PV.t (i64 j)), (58, PV.t (T.bool b)), (59, PV.rp 3 e 0), (60, PV.t e), (61, PV.fn 42 [] [PV.ptr 0 0]), (62, PV.ptr 10 0), (63, PV.t (e.partD 0 1 false)), (64, PV.t (T.bool (decide (a < 8)))), (65, PV.t (T.bool !decide (a < 8))), (66, PV.t (T.bool false)), (67, PV.fn 42 [] [PV.ptr 0 0]), (68, PV.ptr 10 1), (69, PV.t (e.partD 1 1 false)), (70, PV.t (T.bool (decide (a_2 < 8)))), (71, PV.t (T.bool !decide (a_2 < 8))), (72, PV.t (T.bool !decide (a_2 < 8))), (73, PV.t (T.bool true)), (74, PV.tup []), (75, PV.tup []), (76, PV.tup []), (77, PV.tup []), (78, PV.tup []), (79, PV.t (T.bool true)), (80, PV.t (T.bool true)), (81, PV.tup []), (82, PV.tup []), (83, PV.tup []), (84, PV.t (T.bool true)), (85, PV.t (T.bool true)), (86, PV.tup []), (87, PV.tup []), (88, PV.tup []), (89, PV.t (T.bool true))], heap := heapG 8 [c0, c1, c2, c3, c4, c5, c6, c7] [.box 40 3 (.t e)] }) else iT IntKind.i64 (e.partD 0 1 false) fun a_3 => iT IntKind.i64 (e.partD 1 1 false) fun b_1 => bif a_3 == b_1 then Res.ok (Ex.exit 3, { tmps := slots 153 [(7, PV.ptr 0 0), (9, PV.fn 42 [] [PV.ptr 0 0]), (11, PV.ptr 10 0), (55, PV.t (T.sl 3 (List.map Lk.t l))), (56, PV.t (i64 (↑(List.map Lk.t l).length : Int))), (57, PV.t (i64 j)), (58, PV.t (T.bool b)), (59, PV.rp 3 e 0), (60, PV.t e), (61, PV.fn 42 [] [PV.ptr 0 0]), (62, PV.ptr 10 0), (63, PV.t (e.partD 0 1 false)), (64, PV.t (T.bool (decide (a < 8)))), (65, PV.t (T.bool !decide (a < 8))), (66, PV.t (T.bool false)), (67, PV.fn 42 [] [PV.ptr 0 0]), (68, PV.ptr 10 1), (69, PV.t (e.partD 1 1 false)), (70, PV.t (T.bool (decide (a_2 < 8)))), (71, PV.t (T.bool !decide (a_2 < 8))), (72, PV.t (T.bool !decide (a_2 < 8))), (73, PV.t (T.bool false)), (74, PV.ptr 10 0), (75, PV.t (e.partD 0 1 false)), (76, PV.ptr 10 1), (77, PV.t (e.partD 1 1 false)), (78, PV.t (T.bool (a_3 == b_1))), (79, PV.t (T.bool (a_3 == b_1))), (80, PV.t (T.bool true)), (81, PV.tup []), (82, PV.tup []), (83, PV.tup []), (84, PV.t (T.bool true)), (85, PV.t (T.bool true)), (86, PV.tup []), (87, PV.tup []), (88, PV.tup []), (89, PV.t (T.bool true))], heap := heapG 8 [c0, c1, c2, c3, c4, c5, c6, c7] [.box 40 3 (.t e)] }) else iT IntKind.i64 (e.partD 2 1 false) fun a_4 => bif decide (a_4 < 1) then Res.ok (Ex.exit 3, { tmps := slots 153 [(7, PV.ptr 0 0), (9, PV.fn 42 [] [PV.ptr 0 0]), (11, PV.ptr 10 0), (55, PV.t (T.sl 3 (List.map Lk.t l))), (56, PV.t (i64 (↑(List.map Lk.t l).length : Int))), (57, PV.t (i64 j)), (58, PV.t (T.bool b)), (59, PV.rp 3 e 0), (60, PV.t e), (61, PV.fn 42 [] [PV.ptr 0 0]), (62, PV.ptr 10 0), (63, PV.t (e.partD 0 1 false)), (64, PV.t (T.bool (decide (a < 8)))), (65, PV.t (T.bool !decide (a < 8))), (66, PV.t (T.bool false)), (67, PV.fn 42 [] [PV.ptr 0 0]), (68, PV.ptr 10 1), (69, PV.t (e.partD 1 1 false)), (70, PV.t (T.bool (decide (a_2 < 8)))), (71, PV.t (T.bool !decide (a_2 < 8))), (72, PV.t (T.bool !decide (a_2 < 8))), (73, PV.t (T.bool false)), (74, PV.ptr 10 0), (75, PV.t (e.partD 0 1 false)), (76, PV.ptr 10 1), (77, PV.t (e.partD 1 1 false)), (78, PV.t (T.bool (a_3 == b_1))), (79, PV.t (T.bool (a_3 == b_1))), (80, PV.t (T.bool false)), (81, PV.ptr 10 2), (82, PV.t (e.partD 2 1 false)), (83, PV.t (T.bool (decide (a_4 < 1)))), (84, PV.t (T.bool (decide (a_4 < 1)))), (85, PV.t (T.bool true)), (86, PV.tup []), (87, PV.tup []), (88, PV.tup []), (89, PV.t (T.bool true))], heap := heapG 8 [c0, c1, c2, c3, c4, c5, c6, c7] [.box 40 3 (.t e)] }) else iT IntKind.i64 (e.partD 2 1 false) fun a_5 => bif decide (a_5 > 3) then Res.ok (Ex.exit 3, { tmps := slots 153 [(7, PV.ptr 0 0), (9, PV.fn 42 [] [PV.ptr 0 0]), (11, PV.ptr 10 0), (55, PV.t (T.sl 3 (List.map Lk.t l))), (56, PV.t (i64 (↑(List.map Lk.t l).length : Int))), (57, PV.t (i64 j)), (58, PV.t (T.bool b)), (59, PV.rp 3 e 0), (60, PV.t e), (61, PV.fn 42 [] [PV.ptr 0 0]), (62, PV.ptr 10 0), (63, PV.t (e.partD 0 1 false)), (64, PV.t (T.bool (decide (a < 8)))), (65, PV.t (T.bool !decide (a < 8))), (66, PV.t (T.bool false)), (67, PV.fn 42 [] [PV.ptr 0 0]), (68, PV.ptr 10 1), (69, PV.t (e.partD 1 1 false)), (70, PV.t (T.bool (decide (a_2 < 8)))), (71, PV.t (T.bool !decide (a_2 < 8))), (72, PV.t (T.bool !decide (a_2 < 8))), (73, PV.t (T.bool false)), (74, PV.ptr 10 0), (75, PV.t (e.partD 0 1 false)), (76, PV.ptr 10 1), (77, PV.t (e.partD 1 1 false)), (78, PV.t (T.bool (a_3 == b_1))), (79, PV.t (T.bool (a_3 == b_1))), (80, PV.t (T.bool false)), (81, PV.ptr 10 2), (82, PV.t (e.partD 2 1 false)), (83, PV.t (T.bool (decide (a_4 < 1)))), (84, PV.t (T.bool (decide (a_4 < 1)))), (85, PV.t (T.bool false)), (86, PV.ptr 10 2), (87, PV.t (e.partD 2 1 false)), (88, PV.t (T.bool (decide (a_5 > 3)))), (89, PV.t (T.bool (decide (a_5 > 3))))], heap := heapG 8 [c0, c1, c2, c3, c4, c5, c6, c7] [.box 40 3 (.t e)] }) else Res.ok (Ex.norm, { tmps := slots 153 [(7, PV.ptr 0 0), (9, PV.fn 42 [] [PV.ptr 0 0]), (11, PV.ptr 10 0), (55, PV.t (T.sl 3 (List.map Lk.t l))), (56, PV.t (i64 (↑(List.map Lk.t l).length : Int))), (57, PV.t (i64 j)), (58, PV.t (T.bool b)), (59, PV.rp 3 e 0), (60, PV.t e), (61, PV.fn 42 [] [PV.ptr 0 0]), (62, PV.ptr 10 0), (63, PV.t (e.partD 0 1 false)), (64, PV.t (T.bool (decide (a < 8)))), (65, PV.t (T.bool !decide (a < 8))), (66, PV.t (T.bool false)), (67, PV.fn 42 [] [PV.ptr 0 0]), (68, PV.ptr 10 1), (69, PV.t (e.partD 1 1 false)), (70, PV.t (T.bool (decide (a_2 < 8)))), (71, PV.t (T.bool !decide (a_2 < 8))), (72, PV.t (T.bool !decide (a_2 < 8))), (73, PV.t (T.bool false)), (74, PV.ptr 10 0), (75, PV.t (e.partD 0 1 false)), (76, PV.ptr 10 1), (77, PV.t (e.partD 1 1 false)), (78, PV.t (T.bool (a_3 == b_1))), (79, PV.t (T.bool (a_3 == b_1))), (80, PV.t (T.bool false)), (81, PV.ptr 10 2), (82, PV.t (e.partD 2 1 false)), (83, PV.t (T.bool (decide (a_4 < 1)))), (84, PV.t (T.bool (decide (a_4 < 1)))), (85, PV.t (T.bool false)), (86, PV.ptr 10 2), (87, PV.t (e.partD 2 1 false)), (88, PV.t (T.bool (decide (a_5 > 3)))), (89, PV.t (T.bool (decide (a_5 > 3))))], heap := heapG 8 [c0, c1, c2, c3, c4, c5, c6, c7] [.box 40 3 (.t e)] }) else Res.ok (Ex.exit 3, { tmps := slots 153 [(7, PV.ptr 0 0), (9, PV.fn 42 [] [PV.ptr 0 0]), (11, PV.ptr 10 0), (55, PV.t (T.sl 3 (List.map Lk.t l))), (56, PV.t (i64 (↑(List.map Lk.t l).length : Int))), (57, PV.t (i64 j)), (58, PV.t (T.bool b)), (59, PV.rp 3 e 0), (60, PV.t e), (61, PV.fn 42 [] [PV.ptr 0 0]), (62, PV.ptr 10 0), (63, PV.t (e.partD 0 1 false)), (64, PV.t (T.bool (decide (a < 8)))), (65, PV.t (T.bool !decide (a < 8))), (66, PV.t (T.bool false)), (67, PV.fn 42 [] [PV.ptr 0 0]), (68, PV.ptr 10 1), (69, PV.t (e.partD 1 1 false)), (70, PV.t (T.bool false)), (71, PV.t (T.bool true)), (72, PV.t (T.bool true)), (73, PV.t (T.bool true)), (74, PV.tup []), (75, PV.tup []), (76, PV.tup []), (77, PV.tup []), (78, PV.tup []), (79, PV.t (T.bool true)), (80, PV.t (T.bool true)), (81, PV.tup []), (82, PV.tup []), (83, PV.tup []), (84, PV.t (T.bool true)), (85, PV.t (T.bool true)), (86, PV.tup []), (87, PV.tup []), (88, PV.tup []), (89, PV.t (T.bool true))], heap := heapG 8 [c0, c1, c2, c3, c4, c5, c6, c7] [.box 40 3 (.t e)] }) else Res.ok (Ex.exit 3, { tmps := slots 153 [(7, PV.ptr 0 0), (9, PV.fn 42 [] [PV.ptr 0 0]), (11, PV.ptr 10 0), (55, PV.t (T.sl 3 (List.map Lk.t l))), (56, PV.t (i64 (↑(List.map Lk.t l).length : Int))), (57, PV.t (i64 j)), (58, PV.t (T.bool b)), (59, PV.rp 3 e 0), (60, PV.t e), (61, PV.fn 42 [] [PV.ptr 0 0]), (62, PV.ptr 10 0), (63, PV.t (e.partD 0 1 false)), (64, PV.t (T.bool false)), (65, PV.t (T.bool true)), (66, PV.t (T.bool true)), (67, PV.tup []), (68, PV.tup []), (69, PV.tup []), (70, PV.tup []), (71, PV.tup []), (72, PV.t (T.bool true)), (73, PV.t (T.bool true)), (74, PV.tup []), (75, PV.tup []), (76, PV.tup []), (77, PV.tup []), (78, PV.tup []), (79, PV.t (T.bool true)), (80, PV.t (T.bool true)), (81, PV.tup []), (82, PV.tup []), (83, PV.tup []), (84, PV.t (T.bool true)), (85, PV.t (T.bool true)), (86, PV.tup []), (87, PV.tup []), (88, PV.tup []), (89, PV.t (T.bool true))], heap := heapG 8 [c0, c1, c2, c3, c4, c5, c6, c7] [.box 40 3 (.t e)] })) := by kernel_rfl
end Go.Sim

/- topo.Gao's round over a link: may the link be? (printed by wip/tools/geng16b.py) -/
namespace Go.Sim
open Go.RowKit Go.Proofs
set_option linter.unusedVariables false
set_option linter.unusedSimpArgs false
set_option linter.unusedSectionVars false
set_option maxRecDepth 100000
variable [Lv]
/-- In a round, ahead of what tells whether the link may be. -/
def sG2b (l : List Lk) (t : List Cf) (j : Int) (b : Bool) : St := ⟨slots 153 ((58, .t (.bool b)) :: lvG l j), heapG t.length t []⟩
theorem ex_st {e : Ex} {st : St} {mk : (Nat → PV) → St} (h : st = mk (dOf st)) : ∃ d, (Res.ok (e, st) : Res (Ex × St)) = .ok (e, mk d) := ⟨dOf st, congrArg (fun s => Res.ok (e, s)) h⟩
def bodyG2 (N : Nat) (l : List Lk) (t : List Cf) (j : Nat) (x : Lk) (b : Bool) : Prop := (goodL t.length x = false → ∃ d, seqX env (N + 1) 21 [6, 2] 0 3 (sG2b l t j b) = .ok (.exit 3, sG3 l t j x d)) ∧ (goodL t.length x = true → ∃ d, seqX env (N + 1) 21 [6, 2] 0 3 (sG2b l t j b) = .ok (.norm, sG3 l t j x d))

theorem gaoB1 {N : Nat} {c0 : Cf} {l : List Lk} {j : Nat} {x : Lk} {b : Bool} (hx : l[j]? = some x) : bodyG2 N l [c0] j x b := by
  have e0 : seqX env (N + 1) 21 [6, 2] 0 3 (sG2b l [c0] j b) = _ := zGB1 N c0 l j b
  rw [atT_get (map_get hx), show (x.t.cells.length == 3 && !x.t.isTup) = true from rfl, chk_true, show x.t.partD 0 1 false = i64 x.a from rfl, show x.t.partD 1 1 false = i64 x.b from rfl, show x.t.partD 2 1 false = i64 x.r from rfl] at e0
  simp only [iT_int] at e0
  unfold bodyG2 goodL
  simp only [List.length_cons, List.length_nil, Nat.zero_add, Nat.reduceAdd]
  rw [e0]
  by_cases h1 : x.a ≥ 0
  case neg =>
    rw [decide_eq_false h1]
    refine ⟨fun _ => ex_st (mk := fun d => sG3 l [c0] j x d) (by kernel_rfl), fun h => by cases h⟩
  rw [decide_eq_true h1]
  simp only [cond_true, Bool.true_and]
  by_cases h2 : x.a < 1
  case neg =>
    rw [decide_eq_false h2, decide_eq_false (show ¬ x.a < ((1 : Nat) : Int) by omega)]
    refine ⟨fun _ => ex_st (mk := fun d => sG3 l [c0] j x d) (by kernel_rfl), fun h => by cases h⟩
  rw [decide_eq_true h2, decide_eq_true (show x.a < ((1 : Nat) : Int) by omega)]
  simp only [Bool.not_true, cond_false, Bool.true_and]
  by_cases h3 : x.b ≥ 0
  case neg =>
    rw [decide_eq_false h3]
    refine ⟨fun _ => ex_st (mk := fun d => sG3 l [c0] j x d) (by kernel_rfl), fun h => by cases h⟩
  rw [decide_eq_true h3]
  simp only [cond_true, Bool.true_and]
  by_cases h4 : x.b < 1
  case neg =>
    rw [decide_eq_false h4, decide_eq_false (show ¬ x.b < ((1 : Nat) : Int) by omega)]
    refine ⟨fun _ => ex_st (mk := fun d => sG3 l [c0] j x d) (by kernel_rfl), fun h => by cases h⟩
  rw [decide_eq_true h4, decide_eq_true (show x.b < ((1 : Nat) : Int) by omega)]
  simp only [Bool.not_true, cond_false, Bool.true_and]
  cases h5 : x.a == x.b with
  | true => exact ⟨fun _ => ex_st (mk := fun d => sG3 l [c0] j x d) (by kernel_rfl), fun h => (by cases h)⟩
  | false =>
  simp only [cond_false, Bool.not_false, Bool.true_and]
  by_cases h6 : x.r < 1
  case pos =>
    rw [decide_eq_true h6, decide_eq_false (show ¬ 1 ≤ x.r by omega)]
    refine ⟨fun _ => ex_st (mk := fun d => sG3 l [c0] j x d) (by kernel_rfl), fun h => by cases h⟩
  rw [decide_eq_false h6, decide_eq_true (show 1 ≤ x.r by omega)]
  simp only [cond_false, Bool.true_and]
  by_cases h7 : x.r > 3
  case pos =>
    rw [decide_eq_true h7, decide_eq_false (show ¬ x.r ≤ 3 by omega)]
    refine ⟨fun _ => ex_st (mk := fun d => sG3 l [c0] j x d) (by kernel_rfl), fun h => by cases h⟩
  rw [decide_eq_false h7, decide_eq_true (show x.r ≤ 3 by omega)]
  exact ⟨fun h => (by cases h), fun _ => ex_st (mk := fun d => sG3 l [c0] j x d) (by kernel_rfl)⟩
theorem gaoB2 {N : Nat} {c0 c1 : Cf} {l : List Lk} {j : Nat} {x : Lk} {b : Bool} (hx : l[j]? = some x) : bodyG2 N l [c0, c1] j x b := by
  have e0 : seqX env (N + 1) 21 [6, 2] 0 3 (sG2b l [c0, c1] j b) = _ := zGB2 N c0 c1 l j b
  rw [atT_get (map_get hx), show (x.t.cells.length == 3 && !x.t.isTup) = true from rfl, chk_true, show x.t.partD 0 1 false = i64 x.a from rfl, show x.t.partD 1 1 false = i64 x.b from rfl, show x.t.partD 2 1 false = i64 x.r from rfl] at e0
  simp only [iT_int] at e0
  unfold bodyG2 goodL
  simp only [List.length_cons, List.length_nil, Nat.zero_add, Nat.reduceAdd]
  rw [e0]
  by_cases h1 : x.a ≥ 0
  case neg =>
    rw [decide_eq_false h1]
    refine ⟨fun _ => ex_st (mk := fun d => sG3 l [c0, c1] j x d) (by kernel_rfl), fun h => by cases h⟩
  rw [decide_eq_true h1]
  simp only [cond_true, Bool.true_and]
  by_cases h2 : x.a < 2
  case neg =>
    rw [decide_eq_false h2, decide_eq_false (show ¬ x.a < ((2 : Nat) : Int) by omega)]
    refine ⟨fun _ => ex_st (mk := fun d => sG3 l [c0, c1] j x d) (by kernel_rfl), fun h => by cases h⟩
  rw [decide_eq_true h2, decide_eq_true (show x.a < ((2 : Nat) : Int) by omega)]
  simp only [Bool.not_true, cond_false, Bool.true_and]
  by_cases h3 : x.b ≥ 0
  case neg =>
    rw [decide_eq_false h3]
    refine ⟨fun _ => ex_st (mk := fun d => sG3 l [c0, c1] j x d) (by kernel_rfl), fun h => by cases h⟩
  rw [decide_eq_true h3]
  simp only [cond_true, Bool.true_and]
  by_cases h4 : x.b < 2
  case neg =>
    rw [decide_eq_false h4, decide_eq_false (show ¬ x.b < ((2 : Nat) : Int) by omega)]
    refine ⟨fun _ => ex_st (mk := fun d => sG3 l [c0, c1] j x d) (by kernel_rfl), fun h => by cases h⟩
  rw [decide_eq_true h4, decide_eq_true (show x.b < ((2 : Nat) : Int) by omega)]
  simp only [Bool.not_true, cond_false, Bool.true_and]
  cases h5 : x.a == x.b with
  | true => exact ⟨fun _ => ex_st (mk := fun d => sG3 l [c0, c1] j x d) (by kernel_rfl), fun h => (by cases h)⟩
  | false =>
  simp only [cond_false, Bool.not_false, Bool.true_and]
  by_cases h6 : x.r < 1
  case pos =>
    rw [decide_eq_true h6, decide_eq_false (show ¬ 1 ≤ x.r by omega)]
    refine ⟨fun _ => ex_st (mk := fun d => sG3 l [c0, c1] j x d) (by kernel_rfl), fun h => by cases h⟩
  rw [decide_eq_false h6, decide_eq_true (show 1 ≤ x.r by omega)]
  simp only [cond_false, Bool.true_and]
  by_cases h7 : x.r > 3
  case pos =>
    rw [decide_eq_true h7, decide_eq_false (show ¬ x.r ≤ 3 by omega)]
    refine ⟨fun _ => ex_st (mk := fun d => sG3 l [c0, c1] j x d) (by kernel_rfl), fun h => by cases h⟩
  rw [decide_eq_false h7, decide_eq_true (show x.r ≤ 3 by omega)]
  exact ⟨fun h => (by cases h), fun _ => ex_st (mk := fun d => sG3 l [c0, c1] j x d) (by kernel_rfl)⟩
theorem gaoB3 {N : Nat} {c0 c1 c2 : Cf} {l : List Lk} {j : Nat} {x : Lk} {b : Bool} (hx : l[j]? = some x) : bodyG2 N l [c0, c1, c2] j x b := by
  have e0 : seqX env (N + 1) 21 [6, 2] 0 3 (sG2b l [c0, c1, c2] j b) = _ := zGB3 N c0 c1 c2 l j b
  rw [atT_get (map_get hx), show (x.t.cells.length == 3 && !x.t.isTup) = true from rfl, chk_true, show x.t.partD 0 1 false = i64 x.a from rfl, show x.t.partD 1 1 false = i64 x.b from rfl, show x.t.partD 2 1 false = i64 x.r from rfl] at e0
  simp only [iT_int] at e0
  unfold bodyG2 goodL
  simp only [List.length_cons, List.length_nil, Nat.zero_add, Nat.reduceAdd]
  rw [e0]
  by_cases h1 : x.a ≥ 0
  case neg =>
    rw [decide_eq_false h1]
    refine ⟨fun _ => ex_st (mk := fun d => sG3 l [c0, c1, c2] j x d) (by kernel_rfl), fun h => by cases h⟩
  rw [decide_eq_true h1]
  simp only [cond_true, Bool.true_and]
  by_cases h2 : x.a < 3
  case neg =>
    rw [decide_eq_false h2, decide_eq_false (show ¬ x.a < ((3 : Nat) : Int) by omega)]
    refine ⟨fun _ => ex_st (mk := fun d => sG3 l [c0, c1, c2] j x d) (by kernel_rfl), fun h => by cases h⟩
  rw [decide_eq_true h2, decide_eq_true (show x.a < ((3 : Nat) : Int) by omega)]
  simp only [Bool.not_true, cond_false, Bool.true_and]
  by_cases h3 : x.b ≥ 0
  case neg =>
    rw [decide_eq_false h3]
    refine ⟨fun _ => ex_st (mk := fun d => sG3 l [c0, c1, c2] j x d) (by kernel_rfl), fun h => by cases h⟩
  rw [decide_eq_true h3]
  simp only [cond_true, Bool.true_and]
  by_cases h4 : x.b < 3
  case neg =>
    rw [decide_eq_false h4, decide_eq_false (show ¬ x.b < ((3 : Nat) : Int) by omega)]
    refine ⟨fun _ => ex_st (mk := fun d => sG3 l [c0, c1, c2] j x d) (by kernel_rfl), fun h => by cases h⟩
  rw [decide_eq_true h4, decide_eq_true (show x.b < ((3 : Nat) : Int) by omega)]
  simp only [Bool.not_true, cond_false, Bool.true_and]
  cases h5 : x.a == x.b with
  | true => exact ⟨fun _ => ex_st (mk := fun d => sG3 l [c0, c1, c2] j x d) (by kernel_rfl), fun h => (by cases h)⟩
  | false =>
  simp only [cond_false, Bool.not_false, Bool.true_and]
  by_cases h6 : x.r < 1
  case pos =>
    rw [decide_eq_true h6, decide_eq_false (show ¬ 1 ≤ x.r by omega)]
    refine ⟨fun _ => ex_st (mk := fun d => sG3 l [c0, c1, c2] j x d) (by kernel_rfl), fun h => by cases h⟩
  rw [decide_eq_false h6, decide_eq_true (show 1 ≤ x.r by omega)]
  simp only [cond_false, Bool.true_and]
  by_cases h7 : x.r > 3
  case pos =>
    rw [decide_eq_true h7, decide_eq_false (show ¬ x.r ≤ 3 by omega)]
    refine ⟨fun _ => ex_st (mk := fun d => sG3 l [c0, c1, c2] j x d) (by kernel_rfl), fun h => by cases h⟩
  rw [decide_eq_false h7, decide_eq_true (show x.r ≤ 3 by omega)]
  exact ⟨fun h => (by cases h), fun _ => ex_st (mk := fun d => sG3 l [c0, c1, c2] j x d) (by kernel_rfl)⟩
theorem gaoB4 {N : Nat} {c0 c1 c2 c3 : Cf} {l : List Lk} {j : Nat} {x : Lk} {b : Bool} (hx : l[j]? = some x) : bodyG2 N l [c0, c1, c2, c3] j x b := by
  have e0 : seqX env (N + 1) 21 [6, 2] 0 3 (sG2b l [c0, c1, c2, c3] j b) = _ := zGB4 N c0 c1 c2 c3 l j b
  rw [atT_get (map_get hx), show (x.t.cells.length == 3 && !x.t.isTup) = true from rfl, chk_true, show x.t.partD 0 1 false = i64 x.a from rfl, show x.t.partD 1 1 false = i64 x.b from rfl, show x.t.partD 2 1 false = i64 x.r from rfl] at e0
  simp only [iT_int] at e0
  unfold bodyG2 goodL
  simp only [List.length_cons, List.length_nil, Nat.zero_add, Nat.reduceAdd]
  rw [e0]
  by_cases h1 : x.a ≥ 0
  case neg =>
    rw [decide_eq_false h1]
    refine ⟨fun _ => ex_st (mk := fun d => sG3 l [c0, c1, c2, c3] j x d) (by kernel_rfl), fun h => by cases h⟩
  rw [decide_eq_true h1]
  simp only [cond_true, Bool.true_and]
  by_cases h2 : x.a < 4
  case neg =>
    rw [decide_eq_false h2, decide_eq_false (show ¬ x.a < ((4 : Nat) : Int) by omega)]
    refine ⟨fun _ => ex_st (mk := fun d => sG3 l [c0, c1, c2, c3] j x d) (by kernel_rfl), fun h => by cases h⟩
  rw [decide_eq_true h2, decide_eq_true (show x.a < ((4 : Nat) : Int) by omega)]
  simp only [Bool.not_true, cond_false, Bool.true_and]
  by_cases h3 : x.b ≥ 0
  case neg =>
    rw [decide_eq_false h3]
    refine ⟨fun _ => ex_st (mk := fun d => sG3 l [c0, c1, c2, c3] j x d) (by kernel_rfl), fun h => by cases h⟩
  rw [decide_eq_true h3]
  simp only [cond_true, Bool.true_and]
  by_cases h4 : x.b < 4
  case neg =>
    rw [decide_eq_false h4, decide_eq_false (show ¬ x.b < ((4 : Nat) : Int) by omega)]
    refine ⟨fun _ => ex_st (mk := fun d => sG3 l [c0, c1, c2, c3] j x d) (by kernel_rfl), fun h => by cases h⟩
  rw [decide_eq_true h4, decide_eq_true (show x.b < ((4 : Nat) : Int) by omega)]
  simp only [Bool.not_true, cond_false, Bool.true_and]
  cases h5 : x.a == x.b with
  | true => exact ⟨fun _ => ex_st (mk := fun d => sG3 l [c0, c1, c2, c3] j x d) (by kernel_rfl), fun h => (by cases h)⟩
  | false =>
  simp only [cond_false, Bool.not_false, Bool.true_and]
  by_cases h6 : x.r < 1
  case pos =>
    rw [decide_eq_true h6, decide_eq_false (show ¬ 1 ≤ x.r by omega)]
    refine ⟨fun _ => ex_st (mk := fun d => sG3 l [c0, c1, c2, c3] j x d) (by kernel_rfl), fun h => by cases h⟩
  rw [decide_eq_false h6, decide_eq_true (show 1 ≤ x.r by omega)]
  simp only [cond_false, Bool.true_and]
  by_cases h7 : x.r > 3
  case pos =>
    rw [decide_eq_true h7, decide_eq_false (show ¬ x.r ≤ 3 by omega)]
    refine ⟨fun _ => ex_st (mk := fun d => sG3 l [c0, c1, c2, c3] j x d) (by kernel_rfl), fun h => by cases h⟩
  rw [decide_eq_false h7, decide_eq_true (show x.r ≤ 3 by omega)]
  exact ⟨fun h => (by cases h), fun _ => ex_st (mk := fun d => sG3 l [c0, c1, c2, c3] j x d) (by kernel_rfl)⟩
theorem gaoB5 {N : Nat} {c0 c1 c2 c3 c4 : Cf} {l : List Lk} {j : Nat} {x : Lk} {b : Bool} (hx : l[j]? = some x) : bodyG2 N l [c0, c1, c2, c3, c4] j x b := by
  have e0 : seqX env (N + 1) 21 [6, 2] 0 3 (sG2b l [c0, c1, c2, c3, c4] j b) = _ := zGB5 N c0 c1 c2 c3 c4 l j b
  rw [atT_get (map_get hx), show (x.t.cells.length == 3 && !x.t.isTup) = true from rfl, chk_true, show x.t.partD 0 1 false = i64 x.a from rfl, show x.t.partD 1 1 false = i64 x.b from rfl, show x.t.partD 2 1 false = i64 x.r from rfl] at e0
  simp only [iT_int] at e0
  unfold bodyG2 goodL
  simp only [List.length_cons, List.length_nil, Nat.zero_add, Nat.reduceAdd]
  rw [e0]
  by_cases h1 : x.a ≥ 0
  case neg =>
    rw [decide_eq_false h1]
    refine ⟨fun _ => ex_st (mk := fun d => sG3 l [c0, c1, c2, c3, c4] j x d) (by kernel_rfl), fun h => by cases h⟩
  rw [decide_eq_true h1]
  simp only [cond_true, Bool.true_and]
  by_cases h2 : x.a < 5
  case neg =>
    rw [decide_eq_false h2, decide_eq_false (show ¬ x.a < ((5 : Nat) : Int) by omega)]
    refine ⟨fun _ => ex_st (mk := fun d => sG3 l [c0, c1, c2, c3, c4] j x d) (by kernel_rfl), fun h => by cases h⟩
  rw [decide_eq_true h2, decide_eq_true (show x.a < ((5 : Nat) : Int) by omega)]
  simp only [Bool.not_true, cond_false, Bool.true_and]
  by_cases h3 : x.b ≥ 0
  case neg =>
    rw [decide_eq_false h3]
    refine ⟨fun _ => ex_st (mk := fun d => sG3 l [c0, c1, c2, c3, c4] j x d) (by kernel_rfl), fun h => by cases h⟩
  rw [decide_eq_true h3]
  simp only [cond_true, Bool.true_and]
  by_cases h4 : x.b < 5
  case neg =>
    rw [decide_eq_false h4, decide_eq_false (show ¬ x.b < ((5 : Nat) : Int) by omega)]
    refine ⟨fun _ => ex_st (mk := fun d => sG3 l [c0, c1, c2, c3, c4] j x d) (by kernel_rfl), fun h => by cases h⟩
  rw [decide_eq_true h4, decide_eq_true (show x.b < ((5 : Nat) : Int) by omega)]
  simp only [Bool.not_true, cond_false, Bool.true_and]
  cases h5 : x.a == x.b with
  | true => exact ⟨fun _ => ex_st (mk := fun d => sG3 l [c0, c1, c2, c3, c4] j x d) (by kernel_rfl), fun h => (by cases h)⟩
  | false =>
  simp only [cond_false, Bool.not_false, Bool.true_and]
  by_cases h6 : x.r < 1
  case pos =>
    rw [decide_eq_true h6, decide_eq_false (show ¬ 1 ≤ x.r by omega)]
    refine ⟨fun _ => ex_st (mk := fun d => sG3 l [c0, c1, c2, c3, c4] j x d) (by kernel_rfl), fun h => by cases h⟩
  rw [decide_eq_false h6, decide_eq_true (show 1 ≤ x.r by omega)]
  simp only [cond_false, Bool.true_and]
  by_cases h7 : x.r > 3
  case pos =>
    rw [decide_eq_true h7, decide_eq_false (show ¬ x.r ≤ 3 by omega)]
    refine ⟨fun _ => ex_st (mk := fun d => sG3 l [c0, c1, c2, c3, c4] j x d) (by kernel_rfl), fun h => by cases h⟩
  rw [decide_eq_false h7, decide_eq_true (show x.r ≤ 3 by omega)]
  exact ⟨fun h => (by cases h), fun _ => ex_st (mk := fun d => sG3 l [c0, c1, c2, c3, c4] j x d) (by kernel_rfl)⟩
theorem gaoB6 {N : Nat} {c0 c1 c2 c3 c4 c5 : Cf} {l : List Lk} {j : Nat} {x : Lk} {b : Bool} (hx : l[j]? = some x) : bodyG2 N l [c0, c1, c2, c3, c4, c5] j x b := by
  have e0 : seqX env (N + 1) 21 [6, 2] 0 3 (sG2b l [c0, c1, c2, c3, c4, c5] j b) = _ := zGB6 N c0 c1 c2 c3 c4 c5 l j b
  rw [atT_get (map_get hx), show (x.t.cells.length == 3 && !x.t.isTup) = true from rfl, chk_true, show x.t.partD 0 1 false = i64 x.a from rfl, show x.t.partD 1 1 false = i64 x.b from rfl, show x.t.partD 2 1 false = i64 x.r from rfl] at e0
  simp only [iT_int] at e0
  unfold bodyG2 goodL
  simp only [List.length_cons, List.length_nil, Nat.zero_add, Nat.reduceAdd]
  rw [e0]
  by_cases h1 : x.a ≥ 0
  case neg =>
    rw [decide_eq_false h1]
    refine ⟨fun _ => ex_st (mk := fun d => sG3 l [c0, c1, c2, c3, c4, c5] j x d) (by kernel_rfl), fun h => by cases h⟩
  rw [decide_eq_true h1]
  simp only [cond_true, Bool.true_and]
  by_cases h2 : x.a < 6
  case neg =>
    rw [decide_eq_false h2, decide_eq_false (show ¬ x.a < ((6 : Nat) : Int) by omega)]
    refine ⟨fun _ => ex_st (mk := fun d => sG3 l [c0, c1, c2, c3, c4, c5] j x d) (by kernel_rfl), fun h => by cases h⟩
  rw [decide_eq_true h2, decide_eq_true (show x.a < ((6 : Nat) : Int) by omega)]
  simp only [Bool.not_true, cond_false, Bool.true_and]
  by_cases h3 : x.b ≥ 0
  case neg =>
    rw [decide_eq_false h3]
    refine ⟨fun _ => ex_st (mk := fun d => sG3 l [c0, c1, c2, c3, c4, c5] j x d) (by kernel_rfl), fun h => by cases h⟩
  rw [decide_eq_true h3]
  simp only [cond_true, Bool.true_and]
  by_cases h4 : x.b < 6
  case neg =>
    rw [decide_eq_false h4, decide_eq_false (show ¬ x.b < ((6 : Nat) : Int) by omega)]
    refine ⟨fun _ => ex_st (mk := fun d => sG3 l [c0, c1, c2, c3, c4, c5] j x d) (by kernel_rfl), fun h => by cases h⟩
  rw [decide_eq_true h4, decide_eq_true (show x.b < ((6 : Nat) : Int) by omega)]
  simp only [Bool.not_true, cond_false, Bool.true_and]
  cases h5 : x.a == x.b with
  | true => exact ⟨fun _ => ex_st (mk := fun d => sG3 l [c0, c1, c2, c3, c4, c5] j x d) (by kernel_rfl), fun h => (by cases h)⟩
  | false =>
  simp only [cond_false, Bool.not_false, Bool.true_and]
  by_cases h6 : x.r < 1
  case pos =>
    rw [decide_eq_true h6, decide_eq_false (show ¬ 1 ≤ x.r by omega)]
    refine ⟨fun _ => ex_st (mk := fun d => sG3 l [c0, c1, c2, c3, c4, c5] j x d) (by kernel_rfl), fun h => by cases h⟩
  rw [decide_eq_false h6, decide_eq_true (show 1 ≤ x.r by omega)]
  simp only [cond_false, Bool.true_and]
  by_cases h7 : x.r > 3
  case pos =>
    rw [decide_eq_true h7, decide_eq_false (show ¬ x.r ≤ 3 by omega)]
    refine ⟨fun _ => ex_st (mk := fun d => sG3 l [c0, c1, c2, c3, c4, c5] j x d) (by kernel_rfl), fun h => by cases h⟩
  rw [decide_eq_false h7, decide_eq_true (show x.r ≤ 3 by omega)]
  exact ⟨fun h => (by cases h), fun _ => ex_st (mk := fun d => sG3 l [c0, c1, c2, c3, c4, c5] j x d) (by kernel_rfl)⟩
theorem gaoB7 {N : Nat} {c0 c1 c2 c3 c4 c5 c6 : Cf} {l : List Lk} {j : Nat} {x : Lk} {b : Bool} (hx : l[j]? = some x) : bodyG2 N l [c0, c1, c2, c3, c4, c5, c6] j x b := by
  have e0 : seqX env (N + 1) 21 [6, 2] 0 3 (sG2b l [c0, c1, c2, c3, c4, c5, c6] j b) = _ := zGB7 N c0 c1 c2 c3 c4 c5 c6 l j b
  rw [atT_get (map_get hx), show (x.t.cells.length == 3 && !x.t.isTup) = true from rfl, chk_true, show x.t.partD 0 1 false = i64 x.a from rfl, show x.t.partD 1 1 false = i64 x.b from rfl, show x.t.partD 2 1 false = i64 x.r from rfl] at e0
  simp only [iT_int] at e0
  unfold bodyG2 goodL
  simp only [List.length_cons, List.length_nil, Nat.zero_add, Nat.reduceAdd]
  rw [e0]
  by_cases h1 : x.a ≥ 0
  case neg =>
    rw [decide_eq_false h1]
    refine ⟨fun _ => ex_st (mk := fun d => sG3 l [c0, c1, c2, c3, c4, c5, c6] j x d) (by kernel_rfl), fun h => by cases h⟩
  rw [decide_eq_true h1]
  simp only [cond_true, Bool.true_and]
  by_cases h2 : x.a < 7
  case neg =>
    rw [decide_eq_false h2, decide_eq_false (show ¬ x.a < ((7 : Nat) : Int) by omega)]
    refine ⟨fun _ => ex_st (mk := fun d => sG3 l [c0, c1, c2, c3, c4, c5, c6] j x d) (by kernel_rfl), fun h => by cases h⟩
  rw [decide_eq_true h2, decide_eq_true (show x.a < ((7 : Nat) : Int) by omega)]
  simp only [Bool.not_true, cond_false, Bool.true_and]
  by_cases h3 : x.b ≥ 0
  case neg =>
    rw [decide_eq_false h3]
    refine ⟨fun _ => ex_st (mk := fun d => sG3 l [c0, c1, c2, c3, c4, c5, c6] j x d) (by kernel_rfl), fun h => by cases h⟩
  rw [decide_eq_true h3]
  simp only [cond_true, Bool.true_and]
  by_cases h4 : x.b < 7
  case neg =>
    rw [decide_eq_false h4, decide_eq_false (show ¬ x.b < ((7 : Nat) : Int) by omega)]
    refine ⟨fun _ => ex_st (mk := fun d => sG3 l [c0, c1, c2, c3, c4, c5, c6] j x d) (by kernel_rfl), fun h => by cases h⟩
  rw [decide_eq_true h4, decide_eq_true (show x.b < ((7 : Nat) : Int) by omega)]
  simp only [Bool.not_true, cond_false, Bool.true_and]
  cases h5 : x.a == x.b with
  | true => exact ⟨fun _ => ex_st (mk := fun d => sG3 l [c0, c1, c2, c3, c4, c5, c6] j x d) (by kernel_rfl), fun h => (by cases h)⟩
  | false =>
  simp only [cond_false, Bool.not_false, Bool.true_and]
  by_cases h6 : x.r < 1
  case pos =>
    rw [decide_eq_true h6, decide_eq_false (show ¬ 1 ≤ x.r by omega)]
    refine ⟨fun _ => ex_st (mk := fun d => sG3 l [c0, c1, c2, c3, c4, c5, c6] j x d) (by kernel_rfl), fun h => by cases h⟩
  rw [decide_eq_false h6, decide_eq_true (show 1 ≤ x.r by omega)]
  simp only [cond_false, Bool.true_and]
  by_cases h7 : x.r > 3
  case pos =>
    rw [decide_eq_true h7, decide_eq_false (show ¬ x.r ≤ 3 by omega)]
    refine ⟨fun _ => ex_st (mk := fun d => sG3 l [c0, c1, c2, c3, c4, c5, c6] j x d) (by kernel_rfl), fun h => by cases h⟩
  rw [decide_eq_false h7, decide_eq_true (show x.r ≤ 3 by omega)]
  exact ⟨fun h => (by cases h), fun _ => ex_st (mk := fun d => sG3 l [c0, c1, c2, c3, c4, c5, c6] j x d) (by kernel_rfl)⟩
theorem gaoB8 {N : Nat} {c0 c1 c2 c3 c4 c5 c6 c7 : Cf} {l : List Lk} {j : Nat} {x : Lk} {b : Bool} (hx : l[j]? = some x) : bodyG2 N l [c0, c1, c2, c3, c4, c5, c6, c7] j x b := by
  have e0 : seqX env (N + 1) 21 [6, 2] 0 3 (sG2b l [c0, c1, c2, c3, c4, c5, c6, c7] j b) = _ := zGB8 N c0 c1 c2 c3 c4 c5 c6 c7 l j b
  rw [atT_get (map_get hx), show (x.t.cells.length == 3 && !x.t.isTup) = true from rfl, chk_true, show x.t.partD 0 1 false = i64 x.a from rfl, show x.t.partD 1 1 false = i64 x.b from rfl, show x.t.partD 2 1 false = i64 x.r from rfl] at e0
  simp only [iT_int] at e0
  unfold bodyG2 goodL
  simp only [List.length_cons, List.length_nil, Nat.zero_add, Nat.reduceAdd]
  rw [e0]
  by_cases h1 : x.a ≥ 0
  case neg =>
    rw [decide_eq_false h1]
    refine ⟨fun _ => ex_st (mk := fun d => sG3 l [c0, c1, c2, c3, c4, c5, c6, c7] j x d) (by kernel_rfl), fun h => by cases h⟩
  rw [decide_eq_true h1]
  simp only [cond_true, Bool.true_and]
  by_cases h2 : x.a < 8
  case neg =>
    rw [decide_eq_false h2, decide_eq_false (show ¬ x.a < ((8 : Nat) : Int) by omega)]
    refine ⟨fun _ => ex_st (mk := fun d => sG3 l [c0, c1, c2, c3, c4, c5, c6, c7] j x d) (by kernel_rfl), fun h => by cases h⟩
  rw [decide_eq_true h2, decide_eq_true (show x.a < ((8 : Nat) : Int) by omega)]
  simp only [Bool.not_true, cond_false, Bool.true_and]
  by_cases h3 : x.b ≥ 0
  case neg =>
    rw [decide_eq_false h3]
    refine ⟨fun _ => ex_st (mk := fun d => sG3 l [c0, c1, c2, c3, c4, c5, c6, c7] j x d) (by kernel_rfl), fun h => by cases h⟩
  rw [decide_eq_true h3]
  simp only [cond_true, Bool.true_and]
  by_cases h4 : x.b < 8
  case neg =>
    rw [decide_eq_false h4, decide_eq_false (show ¬ x.b < ((8 : Nat) : Int) by omega)]
    refine ⟨fun _ => ex_st (mk := fun d => sG3 l [c0, c1, c2, c3, c4, c5, c6, c7] j x d) (by kernel_rfl), fun h => by cases h⟩
  rw [decide_eq_true h4, decide_eq_true (show x.b < ((8 : Nat) : Int) by omega)]
  simp only [Bool.not_true, cond_false, Bool.true_and]
  cases h5 : x.a == x.b with
  | true => exact ⟨fun _ => ex_st (mk := fun d => sG3 l [c0, c1, c2, c3, c4, c5, c6, c7] j x d) (by kernel_rfl), fun h => (by cases h)⟩
  | false =>
  simp only [cond_false, Bool.not_false, Bool.true_and]
  by_cases h6 : x.r < 1
  case pos =>
    rw [decide_eq_true h6, decide_eq_false (show ¬ 1 ≤ x.r by omega)]
    refine ⟨fun _ => ex_st (mk := fun d => sG3 l [c0, c1, c2, c3, c4, c5, c6, c7] j x d) (by kernel_rfl), fun h => by cases h⟩
  rw [decide_eq_false h6, decide_eq_true (show 1 ≤ x.r by omega)]
  simp only [cond_false, Bool.true_and]
  by_cases h7 : x.r > 3
  case pos =>
    rw [decide_eq_true h7, decide_eq_false (show ¬ x.r ≤ 3 by omega)]
    refine ⟨fun _ => ex_st (mk := fun d => sG3 l [c0, c1, c2, c3, c4, c5, c6, c7] j x d) (by kernel_rfl), fun h => by cases h⟩
  rw [decide_eq_false h7, decide_eq_true (show x.r ≤ 3 by omega)]
  exact ⟨fun h => (by cases h), fun _ => ex_st (mk := fun d => sG3 l [c0, c1, c2, c3, c4, c5, c6, c7] j x d) (by kernel_rfl)⟩
/-- A list of eight at most. -/
theorem upto8 {P : List Cf → Prop} (h1 : ∀ c0, P [c0]) (h2 : ∀ c0 c1, P [c0, c1]) (h3 : ∀ c0 c1 c2, P [c0, c1, c2]) (h4 : ∀ c0 c1 c2 c3, P [c0, c1, c2, c3]) (h5 : ∀ c0 c1 c2 c3 c4, P [c0, c1, c2, c3, c4]) (h6 : ∀ c0 c1 c2 c3 c4 c5, P [c0, c1, c2, c3, c4, c5]) (h7 : ∀ c0 c1 c2 c3 c4 c5 c6, P [c0, c1, c2, c3, c4, c5, c6]) (h8 : ∀ c0 c1 c2 c3 c4 c5 c6 c7, P [c0, c1, c2, c3, c4, c5, c6, c7]) : ∀ t : List Cf, t ≠ [] → t.length ≤ 8 → P t
  | [], h, _ => absurd rfl h
  | [c0], _, _ => h1 c0
  | [c0, c1], _, _ => h2 c0 c1
  | [c0, c1, c2], _, _ => h3 c0 c1 c2
  | [c0, c1, c2, c3], _, _ => h4 c0 c1 c2 c3
  | [c0, c1, c2, c3, c4], _, _ => h5 c0 c1 c2 c3 c4
  | [c0, c1, c2, c3, c4, c5], _, _ => h6 c0 c1 c2 c3 c4 c5
  | [c0, c1, c2, c3, c4, c5, c6], _, _ => h7 c0 c1 c2 c3 c4 c5 c6
  | [c0, c1, c2, c3, c4, c5, c6, c7], _, _ => h8 c0 c1 c2 c3 c4 c5 c6 c7
  | _ :: _ :: _ :: _ :: _ :: _ :: _ :: _ :: _ :: _, _, h => by simp at h
theorem gaoB {N : Nat} {t : List Cf} (h0 : t ≠ []) (h8 : t.length ≤ 8) {l : List Lk} {j : Nat} {x : Lk} {b : Bool} (hx : l[j]? = some x) : bodyG2 N l t j x b :=
  upto8 (P := fun t => bodyG2 N l t j x b) (fun _ => gaoB1 hx) (fun _ _ => gaoB2 hx) (fun _ _ _ => gaoB3 hx) (fun _ _ _ _ => gaoB4 hx) (fun _ _ _ _ _ => gaoB5 hx) (fun _ _ _ _ _ _ => gaoB6 hx) (fun _ _ _ _ _ _ _ => gaoB7 hx) (fun _ _ _ _ _ _ _ _ => gaoB8 hx) t h0 h8
end Go.Sim

/- topo.Gao's round over a link that may be: what is to be shown of it. -/
namespace Go.Sim
open Go.RowKit Go.Proofs
set_option linter.unusedVariables false
set_option linter.unusedSimpArgs false
set_option linter.unusedSectionVars false
set_option maxRecDepth 100000
variable [Lv]
noncomputable def opG (i : Nat) : Array Oper := opsX env 21 [6, 2] i
noncomputable def runG (N i k n : Nat) (s : St) : Res St := opsK env (recOf env N) (opG i) (((drawFlags (opG i)).drop k).take n) s fun s => (.ok s : Res St)
noncomputable def runGA (N Nc i k n : Nat) (s : St) : Res St := opsA env (recOf env N) (opG i) Nc (((drawFlags (opG i)).drop k).take n) s fun s => (.ok s : Res St)
def lkH (a b : Nat) (r : Int) : List AObj := [.box 40 3 (.t (.agg [i64 a, i64 b, i64 r]))]
/-- Ahead of the side; behind it; ahead of what is added. -/
def sGc (l : List Lk) (t : List Cf) (j : Int) (a b : Nat) (r : Int) : St := ⟨slots 153 ((11, .ptr (t.length + 2) 0) :: lvG l j), heapG t.length t (lkH a b r)⟩
def sGd (l : List Lk) (t : List Cf) (j : Int) (a b : Nat) (r : Int) (v : Bool) : St := ⟨slots 153 ((11, .ptr (t.length + 2) 0) :: (13, .t (.bool v)) :: lvG l j), heapG t.length t (lkH a b r)⟩
def sGe (l : List Lk) (t : List Cf) (j : Int) (a b : Nat) (r : Int) (v : Bool) : St := ⟨slots 153 ((11, .ptr (t.length + 2) 0) :: (13, .t (.bool v)) :: (105, .t (.bool v)) :: lvG l j), heapG t.length t (lkH a b r)⟩
noncomputable def s14 (N : Nat) (l : List Lk) (t : List Cf) (j : Int) (a b : Nat) (r : Int) : St := getOk (runG N 3 0 11 (sGc l t j a b r))
noncomputable def s14k (N : Nat) (l : List Lk) (t : List Cf) (j : Int) (a b : Nat) (r k : Int) (v : Bool) : St := ⟨(s14 N l t j a b r).tmps.set 102 (.t (.tup [i64 k, .bool v])), (s14 N l t j a b r).heap⟩
/-- i: 6, of a, or 7, of b; n: the operations ahead of the call, d: where its answer lies, dd: where the row lies that is appended to. -/
noncomputable def s16 (N i n : Nat) (s : St) : St := getOk (runGA N s.heap.length i 0 n s)
noncomputable def s16k (N i n d : Nat) (s : St) (x : T) : St := ⟨(s16 N i n s).tmps.set d (.t x), (s16 N i n s).heap⟩
noncomputable def s16b (N i n d : Nat) (s : St) (x : T) : St := getOk (runGA N s.heap.length i (n + 1) 1 (s16k N i n d s x))
noncomputable def s16c (N i n d dd ra : Nat) (s : St) (xs : List T) (x : T) : St := ⟨(PV.kills (· == ra) (s16b N i n d s x).tmps).set dd (.own ra), ((s16b N i n d s x).heap.map (AObj.kill (· == ra))).set ra (.row 48 4 (xs ++ [x]))⟩
/-- A node's side is added. -/
structure AddOk (N i n d dd ra : Nat) (s : St) (xs : List T) (p w : Int) : Prop where
  a1 : runGA N s.heap.length i 0 n s = .ok (s16 N i n s)
  a2 : runGA N s.heap.length i n 1 (s16 N i n s) = (callP env N 43 [i64 p, i64 w]).bind fun x => .ok ⟨(s16 N i n s).tmps.set d (.t x), (s16 N i n s).heap⟩
  a3 : ∀ S : Sd, runGA N s.heap.length i (n + 1) 1 (s16k N i n d s S.t) = .ok (s16b N i n d s S.t)
  a4 : ∀ S : Sd, runGA N s.heap.length i (n + 2) 1 (s16b N i n d s S.t) = chk (decide ((xs.length + 1) * 64 ≤ 140737488355328)) (.ok (s16c N i n d dd ra s xs S.t))
  a5 : ∀ S : Sd, (runGA N s.heap.length i (n + 3) 3 (s16c N i n d dd ra s xs S.t)).bind (fun s => (.ok ⟨keepOnly [7, 9, 11, 55, 56, 57] s.tmps, s.heap⟩ : Res St)) = .ok ⟨s.tmps, s.heap.set ra (.row 48 4 (xs ++ [S.t]))⟩
structure LinkOk (N : Nat) (l : List Lk) (t : List Cf) (a b : Nat) (ca cb : Cf) : Prop where
  r1 : ∀ j r, runG N 3 0 11 (sGc l t j a b r) = .ok (s14 N l t j a b r)
  r2 : ∀ j r, runG N 3 11 1 (s14 N l t j a b r) = (callP env N 29 [ca.t, i64 cb.a]).bind fun x => chk x.plain (.ok ⟨(s14 N l t j a b r).tmps.set 102 (.t x), (s14 N l t j a b r).heap⟩)
  r3 : ∀ j r k v, (runG N 3 12 9 (s14k N l t j a b r k v)).bind (fun s => (.ok ⟨keepOnly [7, 9, 11, 13, 55, 56, 57] s.tmps, s.heap⟩ : Res St)) = .ok (sGd l t j a b r v)
  ra : ∀ j r, AddOk N 6 17 123 125 (2 + a) (sGc l t j a b r) (ca.s.map Sd.t) cb.a r
  rb : ∀ j r, AddOk N 7 18 146 148 (2 + b) (sGc l t j a b r) (cb.s.map Sd.t) ca.a (IntKind.i64.wrap (4 - r))
end Go.Sim

/- topo.Gao's round over a link, node by node (printed by wip/tools/geng16d.py). -/
namespace Go.Sim
open Go.RowKit Go.Proofs
set_option linter.unusedVariables false
set_option linter.unusedSimpArgs false
set_option linter.unusedSectionVars false
set_option maxRecDepth 100000
variable [Lv]
theorem lk8_0_1 (N : Nat) (l : List Lk) (c0 c1 c2 c3 c4 c5 c6 c7 : Cf) : LinkOk N l [c0, c1, c2, c3, c4, c5, c6, c7] 0 1 c0 c1 := ⟨fun j r => by kernel_rfl, fun j r => by kernel_rfl, fun j r k v => by kernel_rfl, fun j r => ⟨by kernel_rfl, by kernel_rfl, fun S => by kernel_rfl, fun S => by kernel_rfl, fun S => by kernel_rfl⟩, fun j r => ⟨by kernel_rfl, by kernel_rfl, fun S => by kernel_rfl, fun S => by kernel_rfl, fun S => by kernel_rfl⟩⟩
theorem lk8_0_2 (N : Nat) (l : List Lk) (c0 c1 c2 c3 c4 c5 c6 c7 : Cf) : LinkOk N l [c0, c1, c2, c3, c4, c5, c6, c7] 0 2 c0 c2 := ⟨fun j r => by kernel_rfl, fun j r => by kernel_rfl, fun j r k v => by kernel_rfl, fun j r => ⟨by kernel_rfl, by kernel_rfl, fun S => by kernel_rfl, fun S => by kernel_rfl, fun S => by kernel_rfl⟩, fun j r => ⟨by kernel_rfl, by kernel_rfl, fun S => by kernel_rfl, fun S => by kernel_rfl, fun S => by kernel_rfl⟩⟩
theorem lk8_0_3 (N : Nat) (l : List Lk) (c0 c1 c2 c3 c4 c5 c6 c7 : Cf) : LinkOk N l [c0, c1, c2, c3, c4, c5, c6, c7] 0 3 c0 c3 := ⟨fun j r => by kernel_rfl, fun j r => by kernel_rfl, fun j r k v => by kernel_rfl, fun j r => ⟨by kernel_rfl, by kernel_rfl, fun S => by kernel_rfl, fun S => by kernel_rfl, fun S => by kernel_rfl⟩, fun j r => ⟨by kernel_rfl, by kernel_rfl, fun S => by kernel_rfl, fun S => by kernel_rfl, fun S => by kernel_rfl⟩⟩
theorem lk8_0_4 (N : Nat) (l : List Lk) (c0 c1 c2 c3 c4 c5 c6 c7 : Cf) : LinkOk N l [c0, c1, c2, c3, c4, c5, c6, c7] 0 4 c0 c4 := ⟨fun j r => by kernel_rfl, fun j r => by kernel_rfl, fun j r k v => by kernel_rfl, fun j r => ⟨by kernel_rfl, by kernel_rfl, fun S => by kernel_rfl, fun S => by kernel_rfl, fun S => by kernel_rfl⟩, fun j r => ⟨by kernel_rfl, by kernel_rfl, fun S => by kernel_rfl, fun S => by kernel_rfl, fun S => by kernel_rfl⟩⟩
theorem lk8_0_5 (N : Nat) (l : List Lk) (c0 c1 c2 c3 c4 c5 c6 c7 : Cf) : LinkOk N l [c0, c1, c2, c3, c4, c5, c6, c7] 0 5 c0 c5 := ⟨fun j r => by kernel_rfl, fun j r => by kernel_rfl, fun j r k v => by kernel_rfl, fun j r => ⟨by kernel_rfl, by kernel_rfl, fun S => by kernel_rfl, fun S => by kernel_rfl, fun S => by kernel_rfl⟩, fun j r => ⟨by kernel_rfl, by kernel_rfl, fun S => by kernel_rfl, fun S => by kernel_rfl, fun S => by kernel_rfl⟩⟩
theorem lk8_0_6 (N : Nat) (l : List Lk) (c0 c1 c2 c3 c4 c5 c6 c7 : Cf) : LinkOk N l [c0, c1, c2, c3, c4, c5, c6, c7] 0 6 c0 c6 := ⟨fun j r => by kernel_rfl, fun j r => by kernel_rfl, fun j r k v => by kernel_rfl, fun j r => ⟨by kernel_rfl, by kernel_rfl, fun S => by kernel_rfl, fun S => by kernel_rfl, fun S => by kernel_rfl⟩, fun j r => ⟨by kernel_rfl, by kernel_rfl, fun S => by kernel_rfl, fun S => by kernel_rfl, fun S => by kernel_rfl⟩⟩
theorem lk8_0_7 (N : Nat) (l : List Lk) (c0 c1 c2 c3 c4 c5 c6 c7 : Cf) : LinkOk N l [c0, c1, c2, c3, c4, c5, c6, c7] 0 7 c0 c7 := ⟨fun j r => by kernel_rfl, fun j r => by kernel_rfl, fun j r k v => by kernel_rfl, fun j r => ⟨by kernel_rfl, by kernel_rfl, fun S => by kernel_rfl, fun S => by kernel_rfl, fun S => by kernel_rfl⟩, fun j r => ⟨by kernel_rfl, by kernel_rfl, fun S => by kernel_rfl, fun S => by kernel_rfl, fun S => by kernel_rfl⟩⟩
theorem lk8_1_0 (N : Nat) (l : List Lk) (c0 c1 c2 c3 c4 c5 c6 c7 : Cf) : LinkOk N l [c0, c1, c2, c3, c4, c5, c6, c7] 1 0 c1 c0 := ⟨fun j r => by kernel_rfl, fun j r => by kernel_rfl, fun j r k v => by kernel_rfl, fun j r => ⟨by kernel_rfl, by kernel_rfl, fun S => by kernel_rfl, fun S => by kernel_rfl, fun S => by kernel_rfl⟩, fun j r => ⟨by kernel_rfl, by kernel_rfl, fun S => by kernel_rfl, fun S => by kernel_rfl, fun S => by kernel_rfl⟩⟩
theorem lk8_1_2 (N : Nat) (l : List Lk) (c0 c1 c2 c3 c4 c5 c6 c7 : Cf) : LinkOk N l [c0, c1, c2, c3, c4, c5, c6, c7] 1 2 c1 c2 := ⟨fun j r => by kernel_rfl, fun j r => by kernel_rfl, fun j r k v => by kernel_rfl, fun j r => ⟨by kernel_rfl, by kernel_rfl, fun S => by kernel_rfl, fun S => by kernel_rfl, fun S => by kernel_rfl⟩, fun j r => ⟨by kernel_rfl, by kernel_rfl, fun S => by kernel_rfl, fun S => by kernel_rfl, fun S => by kernel_rfl⟩⟩
theorem lk8_1_3 (N : Nat) (l : List Lk) (c0 c1 c2 c3 c4 c5 c6 c7 : Cf) : LinkOk N l [c0, c1, c2, c3, c4, c5, c6, c7] 1 3 c1 c3 := ⟨fun j r => by kernel_rfl, fun j r => by kernel_rfl, fun j r k v => by kernel_rfl, fun j r => ⟨by kernel_rfl, by kernel_rfl, fun S => by kernel_rfl, fun S => by kernel_rfl, fun S => by kernel_rfl⟩, fun j r => ⟨by kernel_rfl, by kernel_rfl, fun S => by kernel_rfl, fun S => by kernel_rfl, fun S => by kernel_rfl⟩⟩
theorem lk8_1_4 (N : Nat) (l : List Lk) (c0 c1 c2 c3 c4 c5 c6 c7 : Cf) : LinkOk N l [c0, c1, c2, c3, c4, c5, c6, c7] 1 4 c1 c4 := ⟨fun j r => by kernel_rfl, fun j r => by kernel_rfl, fun j r k v => by kernel_rfl, fun j r => ⟨by kernel_rfl, by kernel_rfl, fun S => by kernel_rfl, fun S => by kernel_rfl, fun S => by kernel_rfl⟩, fun j r => ⟨by kernel_rfl, by kernel_rfl, fun S => by kernel_rfl, fun S => by kernel_rfl, fun S => by kernel_rfl⟩⟩
theorem lk8_1_5 (N : Nat) (l : List Lk) (c0 c1 c2 c3 c4 c5 c6 c7 : Cf) : LinkOk N l [c0, c1, c2, c3, c4, c5, c6, c7] 1 5 c1 c5 := ⟨fun j r => by kernel_rfl, fun j r => by kernel_rfl, fun j r k v => by kernel_rfl, fun j r => ⟨by kernel_rfl, by kernel_rfl, fun S => by kernel_rfl, fun S => by kernel_rfl, fun S => by kernel_rfl⟩, fun j r => ⟨by kernel_rfl, by kernel_rfl, fun S => by kernel_rfl, fun S => by kernel_rfl, fun S => by kernel_rfl⟩⟩
theorem lk8_1_6 (N : Nat) (l : List Lk) (c0 c1 c2 c3 c4 c5 c6 c7 : Cf) : LinkOk N l [c0, c1, c2, c3, c4, c5, c6, c7] 1 6 c1 c6 := ⟨fun j r => by kernel_rfl, fun j r => by kernel_rfl, fun j r k v => by kernel_rfl, fun j r => ⟨by kernel_rfl, by kernel_rfl, fun S => by kernel_rfl, fun S => by kernel_rfl, fun S => by kernel_rfl⟩, fun j r => ⟨by kernel_rfl, by kernel_rfl, fun S => by kernel_rfl, fun S => by kernel_rfl, fun S => by kernel_rfl⟩⟩
theorem lk8_1_7 (N : Nat) (l : List Lk) (c0 c1 c2 c3 c4 c5 c6 c7 : Cf) : LinkOk N l [c0, c1, c2, c3, c4, c5, c6, c7] 1 7 c1 c7 := ⟨fun j r => by kernel_rfl, fun j r => by kernel_rfl, fun j r k v => by kernel_rfl, fun j r => ⟨by kernel_rfl, by kernel_rfl, fun S => by kernel_rfl, fun S => by kernel_rfl, fun S => by kernel_rfl⟩, fun j r => ⟨by kernel_rfl, by kernel_rfl, fun S => by kernel_rfl, fun S => by kernel_rfl, fun S => by kernel_rfl⟩⟩
theorem lk8_2_0 (N : Nat) (l : List Lk) (c0 c1 c2 c3 c4 c5 c6 c7 : Cf) : LinkOk N l [c0, c1, c2, c3, c4, c5, c6, c7] 2 0 c2 c0 := ⟨fun j r => by kernel_rfl, fun j r => by kernel_rfl, fun j r k v => by kernel_rfl, fun j r => ⟨by kernel_rfl, by kernel_rfl, fun S => by kernel_rfl, fun S => by kernel_rfl, fun S => by kernel_rfl⟩, fun j r => ⟨by kernel_rfl, by kernel_rfl, fun S => by kernel_rfl, fun S => by kernel_rfl, fun S => by kernel_rfl⟩⟩
theorem lk8_2_1 (N : Nat) (l : List Lk) (c0 c1 c2 c3 c4 c5 c6 c7 : Cf) : LinkOk N l [c0, c1, c2, c3, c4, c5, c6, c7] 2 1 c2 c1 := ⟨fun j r => by kernel_rfl, fun j r => by kernel_rfl, fun j r k v => by kernel_rfl, fun j r => ⟨by kernel_rfl, by kernel_rfl, fun S => by kernel_rfl, fun S => by kernel_rfl, fun S => by kernel_rfl⟩, fun j r => ⟨by kernel_rfl, by kernel_rfl, fun S => by kernel_rfl, fun S => by kernel_rfl, fun S => by kernel_rfl⟩⟩
theorem lk8_2_3 (N : Nat) (l : List Lk) (c0 c1 c2 c3 c4 c5 c6 c7 : Cf) : LinkOk N l [c0, c1, c2, c3, c4, c5, c6, c7] 2 3 c2 c3 := ⟨fun j r => by kernel_rfl, fun j r => by kernel_rfl, fun j r k v => by kernel_rfl, fun j r => ⟨by kernel_rfl, by kernel_rfl, fun S => by kernel_rfl, fun S => by kernel_rfl, fun S => by kernel_rfl⟩, fun j r => ⟨by kernel_rfl, by kernel_rfl, fun S => by kernel_rfl, fun S => by kernel_rfl, fun S => by kernel_rfl⟩⟩
theorem lk8_2_4 (N : Nat) (l : List Lk) (c0 c1 c2 c3 c4 c5 c6 c7 : Cf) : LinkOk N l [c0, c1, c2, c3, c4, c5, c6, c7] 2 4 c2 c4 := ⟨fun j r => by kernel_rfl, fun j r => by kernel_rfl, fun j r k v => by kernel_rfl, fun j r => ⟨by kernel_rfl, by kernel_rfl, fun S => by kernel_rfl, fun S => by kernel_rfl, fun S => by kernel_rfl⟩, fun j r => ⟨by kernel_rfl, by kernel_rfl, fun S => by kernel_rfl, fun S => by kernel_rfl, fun S => by kernel_rfl⟩⟩
theorem lk8_2_5 (N : Nat) (l : List Lk) (c0 c1 c2 c3 c4 c5 c6 c7 : Cf) : LinkOk N l [c0, c1, c2, c3, c4, c5, c6, c7] 2 5 c2 c5 := ⟨fun j r => by kernel_rfl, fun j r => by kernel_rfl, fun j r k v => by kernel_rfl, fun j r => ⟨by kernel_rfl, by kernel_rfl, fun S => by kernel_rfl, fun S => by kernel_rfl, fun S => by kernel_rfl⟩, fun j r => ⟨by kernel_rfl, by kernel_rfl, fun S => by kernel_rfl, fun S => by kernel_rfl, fun S => by kernel_rfl⟩⟩
theorem lk8_2_6 (N : Nat) (l : List Lk) (c0 c1 c2 c3 c4 c5 c6 c7 : Cf) : LinkOk N l [c0, c1, c2, c3, c4, c5, c6, c7] 2 6 c2 c6 := ⟨fun j r => by kernel_rfl, fun j r => by kernel_rfl, fun j r k v => by kernel_rfl, fun j r => ⟨by kernel_rfl, by kernel_rfl, fun S => by kernel_rfl, fun S => by kernel_rfl, fun S => by kernel_rfl⟩, fun j r => ⟨by kernel_rfl, by kernel_rfl, fun S => by kernel_rfl, fun S => by kernel_rfl, fun S => by kernel_rfl⟩⟩
theorem lk8_2_7 (N : Nat) (l : List Lk) (c0 c1 c2 c3 c4 c5 c6 c7 : Cf) : LinkOk N l [c0, c1, c2, c3, c4, c5, c6, c7] 2 7 c2 c7 := ⟨fun j r => by kernel_rfl, fun j r => by kernel_rfl, fun j r k v => by kernel_rfl, fun j r => ⟨by kernel_rfl, by kernel_rfl, fun S => by kernel_rfl, fun S => by kernel_rfl, fun S => by kernel_rfl⟩, fun j r => ⟨by kernel_rfl, by kernel_rfl, fun S => by kernel_rfl, fun S => by kernel_rfl, fun S => by kernel_rfl⟩⟩
theorem lk8_3_0 (N : Nat) (l : List Lk) (c0 c1 c2 c3 c4 c5 c6 c7 : Cf) : LinkOk N l [c0, c1, c2, c3, c4, c5, c6, c7] 3 0 c3 c0 := ⟨fun j r => by kernel_rfl, fun j r => by kernel_rfl, fun j r k v => by kernel_rfl, fun j r => ⟨by kernel_rfl, by kernel_rfl, fun S => by kernel_rfl, fun S => by kernel_rfl, fun S => by kernel_rfl⟩, fun j r => ⟨by kernel_rfl, by kernel_rfl, fun S => by kernel_rfl, fun S => by kernel_rfl, fun S => by kernel_rfl⟩⟩
theorem lk8_3_1 (N : Nat) (l : List Lk) (c0 c1 c2 c3 c4 c5 c6 c7 : Cf) : LinkOk N l [c0, c1, c2, c3, c4, c5, c6, c7] 3 1 c3 c1 := ⟨fun j r => by kernel_rfl, fun j r => by kernel_rfl, fun j r k v => by kernel_rfl, fun j r => ⟨by kernel_rfl, by kernel_rfl, fun S => by kernel_rfl, fun S => by kernel_rfl, fun S => by kernel_rfl⟩, fun j r => ⟨by kernel_rfl, by kernel_rfl, fun S => by kernel_rfl, fun S => by kernel_rfl, fun S => by kernel_rfl⟩⟩
theorem lk8_3_2 (N : Nat) (l : List Lk) (c0 c1 c2 c3 c4 c5 c6 c7 : Cf) : LinkOk N l [c0, c1, c2, c3, c4, c5, c6, c7] 3 2 c3 c2 := ⟨fun j r => by kernel_rfl, fun j r => by kernel_rfl, fun j r k v => by kernel_rfl, fun j r => ⟨by kernel_rfl, by kernel_rfl, fun S => by kernel_rfl, fun S => by kernel_rfl, fun S => by kernel_rfl⟩, fun j r => ⟨by kernel_rfl, by kernel_rfl, fun S => by kernel_rfl, fun S => by kernel_rfl, fun S => by kernel_rfl⟩⟩
theorem lk8_3_4 (N : Nat) (l : List Lk) (c0 c1 c2 c3 c4 c5 c6 c7 : Cf) : LinkOk N l [c0, c1, c2, c3, c4, c5, c6, c7] 3 4 c3 c4 := ⟨fun j r => by kernel_rfl, fun j r => by kernel_rfl, fun j r k v => by kernel_rfl, fun j r => ⟨by kernel_rfl, by kernel_rfl, fun S => by kernel_rfl, fun S => by kernel_rfl, fun S => by kernel_rfl⟩, fun j r => ⟨by kernel_rfl, by kernel_rfl, fun S => by kernel_rfl, fun S => by kernel_rfl, fun S => by kernel_rfl⟩⟩
theorem lk8_3_5 (N : Nat) (l : List Lk) (c0 c1 c2 c3 c4 c5 c6 c7 : Cf) : LinkOk N l [c0, c1, c2, c3, c4, c5, c6, c7] 3 5 c3 c5 := ⟨fun j r => by kernel_rfl, fun j r => by kernel_rfl, fun j r k v => by kernel_rfl, fun j r => ⟨by kernel_rfl, by kernel_rfl, fun S => by kernel_rfl, fun S => by kernel_rfl, fun S => by kernel_rfl⟩, fun j r => ⟨by kernel_rfl, by kernel_rfl, fun S => by kernel_rfl, fun S => by kernel_rfl, fun S => by kernel_rfl⟩⟩
theorem lk8_3_6 (N : Nat) (l : List Lk) (c0 c1 c2 c3 c4 c5 c6 c7 : Cf) : LinkOk N l [c0, c1, c2, c3, c4, c5, c6, c7] 3 6 c3 c6 := ⟨fun j r => by kernel_rfl, fun j r => by kernel_rfl, fun j r k v => by kernel_rfl, fun j r => ⟨by kernel_rfl, by kernel_rfl, fun S => by kernel_rfl, fun S => by kernel_rfl, fun S => by kernel_rfl⟩, fun j r => ⟨by kernel_rfl, by kernel_rfl, fun S => by kernel_rfl, fun S => by kernel_rfl, fun S => by kernel_rfl⟩⟩
theorem lk8_3_7 (N : Nat) (l : List Lk) (c0 c1 c2 c3 c4 c5 c6 c7 : Cf) : LinkOk N l [c0, c1, c2, c3, c4, c5, c6, c7] 3 7 c3 c7 := ⟨fun j r => by kernel_rfl, fun j r => by kernel_rfl, fun j r k v => by kernel_rfl, fun j r => ⟨by kernel_rfl, by kernel_rfl, fun S => by kernel_rfl, fun S => by kernel_rfl, fun S => by kernel_rfl⟩, fun j r => ⟨by kernel_rfl, by kernel_rfl, fun S => by kernel_rfl, fun S => by kernel_rfl, fun S => by kernel_rfl⟩⟩
theorem lk8_4_0 (N : Nat) (l : List Lk) (c0 c1 c2 c3 c4 c5 c6 c7 : Cf) : LinkOk N l [c0, c1, c2, c3, c4, c5, c6, c7] 4 0 c4 c0 := ⟨fun j r => by kernel_rfl, fun j r => by kernel_rfl, fun j r k v => by kernel_rfl, fun j r => ⟨by kernel_rfl, by kernel_rfl, fun S => by kernel_rfl, fun S => by kernel_rfl, fun S => by kernel_rfl⟩, fun j r => ⟨by kernel_rfl, by kernel_rfl, fun S => by kernel_rfl, fun S => by kernel_rfl, fun S => by kernel_rfl⟩⟩
theorem lk8_4_1 (N : Nat) (l : List Lk) (c0 c1 c2 c3 c4 c5 c6 c7 : Cf) : LinkOk N l [c0, c1, c2, c3, c4, c5, c6, c7] 4 1 c4 c1 := ⟨fun j r => by kernel_rfl, fun j r => by kernel_rfl, fun j r k v => by kernel_rfl, fun j r => ⟨by kernel_rfl, by kernel_rfl, fun S => by kernel_rfl, fun S => by kernel_rfl, fun S => by kernel_rfl⟩, fun j r => ⟨by kernel_rfl, by kernel_rfl, fun S => by kernel_rfl, fun S => by kernel_rfl, fun S => by kernel_rfl⟩⟩
theorem lk8_4_2 (N : Nat) (l : List Lk) (c0 c1 c2 c3 c4 c5 c6 c7 : Cf) : LinkOk N l [c0, c1, c2, c3, c4, c5, c6, c7] 4 2 c4 c2 := ⟨fun j r => by kernel_rfl, fun j r => by kernel_rfl, fun j r k v => by kernel_rfl, fun j r => ⟨by kernel_rfl, by kernel_rfl, fun S => by kernel_rfl, fun S => by kernel_rfl, fun S => by kernel_rfl⟩, fun j r => ⟨by kernel_rfl, by kernel_rfl, fun S => by kernel_rfl, fun S => by kernel_rfl, fun S => by kernel_rfl⟩⟩
theorem lk8_4_3 (N : Nat) (l : List Lk) (c0 c1 c2 c3 c4 c5 c6 c7 : Cf) : LinkOk N l [c0, c1, c2, c3, c4, c5, c6, c7] 4 3 c4 c3 := ⟨fun j r => by kernel_rfl, fun j r => by kernel_rfl, fun j r k v => by kernel_rfl, fun j r => ⟨by kernel_rfl, by kernel_rfl, fun S => by kernel_rfl, fun S => by kernel_rfl, fun S => by kernel_rfl⟩, fun j r => ⟨by kernel_rfl, by kernel_rfl, fun S => by kernel_rfl, fun S => by kernel_rfl, fun S => by kernel_rfl⟩⟩
theorem lk8_4_5 (N : Nat) (l : List Lk) (c0 c1 c2 c3 c4 c5 c6 c7 : Cf) : LinkOk N l [c0, c1, c2, c3, c4, c5, c6, c7] 4 5 c4 c5 := ⟨fun j r => by kernel_rfl, fun j r => by kernel_rfl, fun j r k v => by kernel_rfl, fun j r => ⟨by kernel_rfl, by kernel_rfl, fun S => by kernel_rfl, fun S => by kernel_rfl, fun S => by kernel_rfl⟩, fun j r => ⟨by kernel_rfl, by kernel_rfl, fun S => by kernel_rfl, fun S => by kernel_rfl, fun S => by kernel_rfl⟩⟩
theorem lk8_4_6 (N : Nat) (l : List Lk) (c0 c1 c2 c3 c4 c5 c6 c7 : Cf) : LinkOk N l [c0, c1, c2, c3, c4, c5, c6, c7] 4 6 c4 c6 := ⟨fun j r => by kernel_rfl, fun j r => by kernel_rfl, fun j r k v => by kernel_rfl, fun j r => ⟨by kernel_rfl, by kernel_rfl, fun S => by kernel_rfl, fun S => by kernel_rfl, fun S => by kernel_rfl⟩, fun j r => ⟨by kernel_rfl, by kernel_rfl, fun S => by kernel_rfl, fun S => by kernel_rfl, fun S => by kernel_rfl⟩⟩
theorem lk8_4_7 (N : Nat) (l : List Lk) (c0 c1 c2 c3 c4 c5 c6 c7 : Cf) : LinkOk N l [c0, c1, c2, c3, c4, c5, c6, c7] 4 7 c4 c7 := ⟨fun j r => by kernel_rfl, fun j r => by kernel_rfl, fun j r k v => by kernel_rfl, fun j r => ⟨by kernel_rfl, by kernel_rfl, fun S => by kernel_rfl, fun S => by kernel_rfl, fun S => by kernel_rfl⟩, fun j r => ⟨by kernel_rfl, by kernel_rfl, fun S => by kernel_rfl, fun S => by kernel_rfl, fun S => by kernel_rfl⟩⟩
theorem lk8_5_0 (N : Nat) (l : List Lk) (c0 c1 c2 c3 c4 c5 c6 c7 : Cf) : LinkOk N l [c0, c1, c2, c3, c4, c5, c6, c7] 5 0 c5 c0 := ⟨fun j r => by kernel_rfl, fun j r => by kernel_rfl, fun j r k v => by kernel_rfl, fun j r => ⟨by kernel_rfl, by kernel_rfl, fun S => by kernel_rfl, fun S => by kernel_rfl, fun S => by kernel_rfl⟩, fun j r => ⟨by kernel_rfl, by kernel_rfl, fun S => by kernel_rfl, fun S => by kernel_rfl, fun S => by kernel_rfl⟩⟩
theorem lk8_5_1 (N : Nat) (l : List Lk) (c0 c1 c2 c3 c4 c5 c6 c7 : Cf) : LinkOk N l [c0, c1, c2, c3, c4, c5, c6, c7] 5 1 c5 c1 := ⟨fun j r => by kernel_rfl, fun j r => by kernel_rfl, fun j r k v => by kernel_rfl, fun j r => ⟨by kernel_rfl, by kernel_rfl, fun S => by kernel_rfl, fun S => by kernel_rfl, fun S => by kernel_rfl⟩, fun j r => ⟨by kernel_rfl, by kernel_rfl, fun S => by kernel_rfl, fun S => by kernel_rfl, fun S => by kernel_rfl⟩⟩
theorem lk8_5_2 (N : Nat) (l : List Lk) (c0 c1 c2 c3 c4 c5 c6 c7 : Cf) : LinkOk N l [c0, c1, c2, c3, c4, c5, c6, c7] 5 2 c5 c2 := ⟨fun j r => by kernel_rfl, fun j r => by kernel_rfl, fun j r k v => by kernel_rfl, fun j r => ⟨by kernel_rfl, by kernel_rfl, fun S => by kernel_rfl, fun S => by kernel_rfl, fun S => by kernel_rfl⟩, fun j r => ⟨by kernel_rfl, by kernel_rfl, fun S => by kernel_rfl, fun S => by kernel_rfl, fun S => by kernel_rfl⟩⟩
theorem lk8_5_3 (N : Nat) (l : List Lk) (c0 c1 c2 c3 c4 c5 c6 c7 : Cf) : LinkOk N l [c0, c1, c2, c3, c4, c5, c6, c7] 5 3 c5 c3 := ⟨fun j r => by kernel_rfl, fun j r => by kernel_rfl, fun j r k v => by kernel_rfl, fun j r => ⟨by kernel_rfl, by kernel_rfl, fun S => by kernel_rfl, fun S => by kernel_rfl, fun S => by kernel_rfl⟩, fun j r => ⟨by kernel_rfl, by kernel_rfl, fun S => by kernel_rfl, fun S => by kernel_rfl, fun S => by kernel_rfl⟩⟩
theorem lk8_5_4 (N : Nat) (l : List Lk) (c0 c1 c2 c3 c4 c5 c6 c7 : Cf) : LinkOk N l [c0, c1, c2, c3, c4, c5, c6, c7] 5 4 c5 c4 := ⟨fun j r => by kernel_rfl, fun j r => by kernel_rfl, fun j r k v => by kernel_rfl, fun j r => ⟨by kernel_rfl, by kernel_rfl, fun S => by kernel_rfl, fun S => by kernel_rfl, fun S => by kernel_rfl⟩, fun j r => ⟨by kernel_rfl, by kernel_rfl, fun S => by kernel_rfl, fun S => by kernel_rfl, fun S => by kernel_rfl⟩⟩
theorem lk8_5_6 (N : Nat) (l : List Lk) (c0 c1 c2 c3 c4 c5 c6 c7 : Cf) : LinkOk N l [c0, c1, c2, c3, c4, c5, c6, c7] 5 6 c5 c6 := ⟨fun j r => by kernel_rfl, fun j r => by kernel_rfl, fun j r k v => by kernel_rfl, fun j r => ⟨by kernel_rfl, by kernel_rfl, fun S => by kernel_rfl, fun S => by kernel_rfl, fun S => by kernel_rfl⟩, fun j r => ⟨by kernel_rfl, by kernel_rfl, fun S => by kernel_rfl, fun S => by kernel_rfl, fun S => by kernel_rfl⟩⟩
theorem lk8_5_7 (N : Nat) (l : List Lk) (c0 c1 c2 c3 c4 c5 c6 c7 : Cf) : LinkOk N l [c0, c1, c2, c3, c4, c5, c6, c7] 5 7 c5 c7 := ⟨fun j r => by kernel_rfl, fun j r => by kernel_rfl, fun j r k v => by kernel_rfl, fun j r => ⟨by kernel_rfl, by kernel_rfl, fun S => by kernel_rfl, fun S => by kernel_rfl, fun S => by kernel_rfl⟩, fun j r => ⟨by kernel_rfl, by kernel_rfl, fun S => by kernel_rfl, fun S => by kernel_rfl, fun S => by kernel_rfl⟩⟩
theorem lk8_6_0 (N : Nat) (l : List Lk) (c0 c1 c2 c3 c4 c5 c6 c7 : Cf) : LinkOk N l [c0, c1, c2, c3, c4, c5, c6, c7] 6 0 c6 c0 := ⟨fun j r => by kernel_rfl, fun j r => by kernel_rfl, fun j r k v => by kernel_rfl, fun j r => ⟨by kernel_rfl, by kernel_rfl, fun S => by kernel_rfl, fun S => by kernel_rfl, fun S => by kernel_rfl⟩, fun j r => ⟨by kernel_rfl, by kernel_rfl, fun S => by kernel_rfl, fun S => by kernel_rfl, fun S => by kernel_rfl⟩⟩
theorem lk8_6_1 (N : Nat) (l : List Lk) (c0 c1 c2 c3 c4 c5 c6 c7 : Cf) : LinkOk N l [c0, c1, c2, c3, c4, c5, c6, c7] 6 1 c6 c1 := ⟨fun j r => by kernel_rfl, fun j r => by kernel_rfl, fun j r k v => by kernel_rfl, fun j r => ⟨by kernel_rfl, by kernel_rfl, fun S => by kernel_rfl, fun S => by kernel_rfl, fun S => by kernel_rfl⟩, fun j r => ⟨by kernel_rfl, by kernel_rfl, fun S => by kernel_rfl, fun S => by kernel_rfl, fun S => by kernel_rfl⟩⟩
theorem lk8_6_2 (N : Nat) (l : List Lk) (c0 c1 c2 c3 c4 c5 c6 c7 : Cf) : LinkOk N l [c0, c1, c2, c3, c4, c5, c6, c7] 6 2 c6 c2 := ⟨fun j r => by kernel_rfl, fun j r => by kernel_rfl, fun j r k v => by kernel_rfl, fun j r => ⟨by kernel_rfl, by kernel_rfl, fun S => by kernel_rfl, fun S => by kernel_rfl, fun S => by kernel_rfl⟩, fun j r => ⟨by kernel_rfl, by kernel_rfl, fun S => by kernel_rfl, fun S => by kernel_rfl, fun S => by kernel_rfl⟩⟩
theorem lk8_6_3 (N : Nat) (l : List Lk) (c0 c1 c2 c3 c4 c5 c6 c7 : Cf) : LinkOk N l [c0, c1, c2, c3, c4, c5, c6, c7] 6 3 c6 c3 := ⟨fun j r => by kernel_rfl, fun j r => by kernel_rfl, fun j r k v => by kernel_rfl, fun j r => ⟨by kernel_rfl, by kernel_rfl, fun S => by kernel_rfl, fun S => by kernel_rfl, fun S => by kernel_rfl⟩, fun j r => ⟨by kernel_rfl, by kernel_rfl, fun S => by kernel_rfl, fun S => by kernel_rfl, fun S => by kernel_rfl⟩⟩
theorem lk8_6_4 (N : Nat) (l : List Lk) (c0 c1 c2 c3 c4 c5 c6 c7 : Cf) : LinkOk N l [c0, c1, c2, c3, c4, c5, c6, c7] 6 4 c6 c4 := ⟨fun j r => by kernel_rfl, fun j r => by kernel_rfl, fun j r k v => by kernel_rfl, fun j r => ⟨by kernel_rfl, by kernel_rfl, fun S => by kernel_rfl, fun S => by kernel_rfl, fun S => by kernel_rfl⟩, fun j r => ⟨by kernel_rfl, by kernel_rfl, fun S => by kernel_rfl, fun S => by kernel_rfl, fun S => by kernel_rfl⟩⟩
theorem lk8_6_5 (N : Nat) (l : List Lk) (c0 c1 c2 c3 c4 c5 c6 c7 : Cf) : LinkOk N l [c0, c1, c2, c3, c4, c5, c6, c7] 6 5 c6 c5 := ⟨fun j r => by kernel_rfl, fun j r => by kernel_rfl, fun j r k v => by kernel_rfl, fun j r => ⟨by kernel_rfl, by kernel_rfl, fun S => by kernel_rfl, fun S => by kernel_rfl, fun S => by kernel_rfl⟩, fun j r => ⟨by kernel_rfl, by kernel_rfl, fun S => by kernel_rfl, fun S => by kernel_rfl, fun S => by kernel_rfl⟩⟩
theorem lk8_6_7 (N : Nat) (l : List Lk) (c0 c1 c2 c3 c4 c5 c6 c7 : Cf) : LinkOk N l [c0, c1, c2, c3, c4, c5, c6, c7] 6 7 c6 c7 := ⟨fun j r => by kernel_rfl, fun j r => by kernel_rfl, fun j r k v => by kernel_rfl, fun j r => ⟨by kernel_rfl, by kernel_rfl, fun S => by kernel_rfl, fun S => by kernel_rfl, fun S => by kernel_rfl⟩, fun j r => ⟨by kernel_rfl, by kernel_rfl, fun S => by kernel_rfl, fun S => by kernel_rfl, fun S => by kernel_rfl⟩⟩
theorem lk8_7_0 (N : Nat) (l : List Lk) (c0 c1 c2 c3 c4 c5 c6 c7 : Cf) : LinkOk N l [c0, c1, c2, c3, c4, c5, c6, c7] 7 0 c7 c0 := ⟨fun j r => by kernel_rfl, fun j r => by kernel_rfl, fun j r k v => by kernel_rfl, fun j r => ⟨by kernel_rfl, by kernel_rfl, fun S => by kernel_rfl, fun S => by kernel_rfl, fun S => by kernel_rfl⟩, fun j r => ⟨by kernel_rfl, by kernel_rfl, fun S => by kernel_rfl, fun S => by kernel_rfl, fun S => by kernel_rfl⟩⟩
theorem lk8_7_1 (N : Nat) (l : List Lk) (c0 c1 c2 c3 c4 c5 c6 c7 : Cf) : LinkOk N l [c0, c1, c2, c3, c4, c5, c6, c7] 7 1 c7 c1 := ⟨fun j r => by kernel_rfl, fun j r => by kernel_rfl, fun j r k v => by kernel_rfl, fun j r => ⟨by kernel_rfl, by kernel_rfl, fun S => by kernel_rfl, fun S => by kernel_rfl, fun S => by kernel_rfl⟩, fun j r => ⟨by kernel_rfl, by kernel_rfl, fun S => by kernel_rfl, fun S => by kernel_rfl, fun S => by kernel_rfl⟩⟩
theorem lk8_7_2 (N : Nat) (l : List Lk) (c0 c1 c2 c3 c4 c5 c6 c7 : Cf) : LinkOk N l [c0, c1, c2, c3, c4, c5, c6, c7] 7 2 c7 c2 := ⟨fun j r => by kernel_rfl, fun j r => by kernel_rfl, fun j r k v => by kernel_rfl, fun j r => ⟨by kernel_rfl, by kernel_rfl, fun S => by kernel_rfl, fun S => by kernel_rfl, fun S => by kernel_rfl⟩, fun j r => ⟨by kernel_rfl, by kernel_rfl, fun S => by kernel_rfl, fun S => by kernel_rfl, fun S => by kernel_rfl⟩⟩
theorem lk8_7_3 (N : Nat) (l : List Lk) (c0 c1 c2 c3 c4 c5 c6 c7 : Cf) : LinkOk N l [c0, c1, c2, c3, c4, c5, c6, c7] 7 3 c7 c3 := ⟨fun j r => by kernel_rfl, fun j r => by kernel_rfl, fun j r k v => by kernel_rfl, fun j r => ⟨by kernel_rfl, by kernel_rfl, fun S => by kernel_rfl, fun S => by kernel_rfl, fun S => by kernel_rfl⟩, fun j r => ⟨by kernel_rfl, by kernel_rfl, fun S => by kernel_rfl, fun S => by kernel_rfl, fun S => by kernel_rfl⟩⟩
theorem lk8_7_4 (N : Nat) (l : List Lk) (c0 c1 c2 c3 c4 c5 c6 c7 : Cf) : LinkOk N l [c0, c1, c2, c3, c4, c5, c6, c7] 7 4 c7 c4 := ⟨fun j r => by kernel_rfl, fun j r => by kernel_rfl, fun j r k v => by kernel_rfl, fun j r => ⟨by kernel_rfl, by kernel_rfl, fun S => by kernel_rfl, fun S => by kernel_rfl, fun S => by kernel_rfl⟩, fun j r => ⟨by kernel_rfl, by kernel_rfl, fun S => by kernel_rfl, fun S => by kernel_rfl, fun S => by kernel_rfl⟩⟩
theorem lk8_7_5 (N : Nat) (l : List Lk) (c0 c1 c2 c3 c4 c5 c6 c7 : Cf) : LinkOk N l [c0, c1, c2, c3, c4, c5, c6, c7] 7 5 c7 c5 := ⟨fun j r => by kernel_rfl, fun j r => by kernel_rfl, fun j r k v => by kernel_rfl, fun j r => ⟨by kernel_rfl, by kernel_rfl, fun S => by kernel_rfl, fun S => by kernel_rfl, fun S => by kernel_rfl⟩, fun j r => ⟨by kernel_rfl, by kernel_rfl, fun S => by kernel_rfl, fun S => by kernel_rfl, fun S => by kernel_rfl⟩⟩
theorem lk8_7_6 (N : Nat) (l : List Lk) (c0 c1 c2 c3 c4 c5 c6 c7 : Cf) : LinkOk N l [c0, c1, c2, c3, c4, c5, c6, c7] 7 6 c7 c6 := ⟨fun j r => by kernel_rfl, fun j r => by kernel_rfl, fun j r k v => by kernel_rfl, fun j r => ⟨by kernel_rfl, by kernel_rfl, fun S => by kernel_rfl, fun S => by kernel_rfl, fun S => by kernel_rfl⟩, fun j r => ⟨by kernel_rfl, by kernel_rfl, fun S => by kernel_rfl, fun S => by kernel_rfl, fun S => by kernel_rfl⟩⟩
theorem lk8 {N : Nat} {l : List Lk} {c0 c1 c2 c3 c4 c5 c6 c7 ca cb : Cf} : ∀ {a b : Nat}, a ≠ b → [c0, c1, c2, c3, c4, c5, c6, c7][a]? = some ca → [c0, c1, c2, c3, c4, c5, c6, c7][b]? = some cb → LinkOk N l [c0, c1, c2, c3, c4, c5, c6, c7] a b ca cb
  | 0, 0, h, _, _ => absurd rfl h
  | 0, 1, _, ha, hb => by cases ha; cases hb; exact lk8_0_1 N l c0 c1 c2 c3 c4 c5 c6 c7
  | 0, 2, _, ha, hb => by cases ha; cases hb; exact lk8_0_2 N l c0 c1 c2 c3 c4 c5 c6 c7
  | 0, 3, _, ha, hb => by cases ha; cases hb; exact lk8_0_3 N l c0 c1 c2 c3 c4 c5 c6 c7
  | 0, 4, _, ha, hb => by cases ha; cases hb; exact lk8_0_4 N l c0 c1 c2 c3 c4 c5 c6 c7
  | 0, 5, _, ha, hb => by cases ha; cases hb; exact lk8_0_5 N l c0 c1 c2 c3 c4 c5 c6 c7
  | 0, 6, _, ha, hb => by cases ha; cases hb; exact lk8_0_6 N l c0 c1 c2 c3 c4 c5 c6 c7
  | 0, 7, _, ha, hb => by cases ha; cases hb; exact lk8_0_7 N l c0 c1 c2 c3 c4 c5 c6 c7
  | 0, b + 8, _, _, hb => by simp at hb
  | 1, 0, _, ha, hb => by cases ha; cases hb; exact lk8_1_0 N l c0 c1 c2 c3 c4 c5 c6 c7
  | 1, 1, h, _, _ => absurd rfl h
  | 1, 2, _, ha, hb => by cases ha; cases hb; exact lk8_1_2 N l c0 c1 c2 c3 c4 c5 c6 c7
  | 1, 3, _, ha, hb => by cases ha; cases hb; exact lk8_1_3 N l c0 c1 c2 c3 c4 c5 c6 c7
  | 1, 4, _, ha, hb => by cases ha; cases hb; exact lk8_1_4 N l c0 c1 c2 c3 c4 c5 c6 c7
  | 1, 5, _, ha, hb => by cases ha; cases hb; exact lk8_1_5 N l c0 c1 c2 c3 c4 c5 c6 c7
  | 1, 6, _, ha, hb => by cases ha; cases hb; exact lk8_1_6 N l c0 c1 c2 c3 c4 c5 c6 c7
  | 1, 7, _, ha, hb => by cases ha; cases hb; exact lk8_1_7 N l c0 c1 c2 c3 c4 c5 c6 c7
  | 1, b + 8, _, _, hb => by simp at hb
  | 2, 0, _, ha, hb => by cases ha; cases hb; exact lk8_2_0 N l c0 c1 c2 c3 c4 c5 c6 c7
  | 2, 1, _, ha, hb => by cases ha; cases hb; exact lk8_2_1 N l c0 c1 c2 c3 c4 c5 c6 c7
  | 2, 2, h, _, _ => absurd rfl h
  | 2, 3, _, ha, hb => by cases ha; cases hb; exact lk8_2_3 N l c0 c1 c2 c3 c4 c5 c6 c7
  | 2, 4, _, ha, hb => by cases ha; cases hb; exact lk8_2_4 N l c0 c1 c2 c3 c4 c5 c6 c7
  | 2, 5, _, ha, hb => by cases ha; cases hb; exact lk8_2_5 N l c0 c1 c2 c3 c4 c5 c6 c7
  | 2, 6, _, ha, hb => by cases ha; cases hb; exact lk8_2_6 N l c0 c1 c2 c3 c4 c5 c6 c7
  | 2, 7, _, ha, hb => by cases ha; cases hb; exact lk8_2_7 N l c0 c1 c2 c3 c4 c5 c6 c7
  | 2, b + 8, _, _, hb => by simp at hb
  | 3, 0, _, ha, hb => by cases ha; cases hb; exact lk8_3_0 N l c0 c1 c2 c3 c4 c5 c6 c7
  | 3, 1, _, ha, hb => by cases ha; cases hb; exact lk8_3_1 N l c0 c1 c2 c3 c4 c5 c6 c7
  | 3, 2, _, ha, hb => by cases ha; cases hb; exact lk8_3_2 N l c0 c1 c2 c3 c4 c5 c6 c7
  | 3, 3, h, _, _ => absurd rfl h
  | 3, 4, _, ha, hb => by cases ha; cases hb; exact lk8_3_4 N l c0 c1 c2 c3 c4 c5 c6 c7
  | 3, 5, _, ha, hb => by cases ha; cases hb; exact lk8_3_5 N l c0 c1 c2 c3 c4 c5 c6 c7
  | 3, 6, _, ha, hb => by cases ha; cases hb; exact lk8_3_6 N l c0 c1 c2 c3 c4 c5 c6 c7
  | 3, 7, _, ha, hb => by cases ha; cases hb; exact lk8_3_7 N l c0 c1 c2 c3 c4 c5 c6 c7
  | 3, b + 8, _, _, hb => by simp at hb
  | 4, 0, _, ha, hb => by cases ha; cases hb; exact lk8_4_0 N l c0 c1 c2 c3 c4 c5 c6 c7
  | 4, 1, _, ha, hb => by cases ha; cases hb; exact lk8_4_1 N l c0 c1 c2 c3 c4 c5 c6 c7
  | 4, 2, _, ha, hb => by cases ha; cases hb; exact lk8_4_2 N l c0 c1 c2 c3 c4 c5 c6 c7
  | 4, 3, _, ha, hb => by cases ha; cases hb; exact lk8_4_3 N l c0 c1 c2 c3 c4 c5 c6 c7
  | 4, 4, h, _, _ => absurd rfl h
  | 4, 5, _, ha, hb => by cases ha; cases hb; exact lk8_4_5 N l c0 c1 c2 c3 c4 c5 c6 c7
  | 4, 6, _, ha, hb => by cases ha; cases hb; exact lk8_4_6 N l c0 c1 c2 c3 c4 c5 c6 c7
  | 4, 7, _, ha, hb => by cases ha; cases hb; exact lk8_4_7 N l c0 c1 c2 c3 c4 c5 c6 c7
  | 4, b + 8, _, _, hb => by simp at hb
  | 5, 0, _, ha, hb => by cases ha; cases hb; exact lk8_5_0 N l c0 c1 c2 c3 c4 c5 c6 c7
  | 5, 1, _, ha, hb => by cases ha; cases hb; exact lk8_5_1 N l c0 c1 c2 c3 c4 c5 c6 c7
  | 5, 2, _, ha, hb => by cases ha; cases hb; exact lk8_5_2 N l c0 c1 c2 c3 c4 c5 c6 c7
  | 5, 3, _, ha, hb => by cases ha; cases hb; exact lk8_5_3 N l c0 c1 c2 c3 c4 c5 c6 c7
  | 5, 4, _, ha, hb => by cases ha; cases hb; exact lk8_5_4 N l c0 c1 c2 c3 c4 c5 c6 c7
  | 5, 5, h, _, _ => absurd rfl h
  | 5, 6, _, ha, hb => by cases ha; cases hb; exact lk8_5_6 N l c0 c1 c2 c3 c4 c5 c6 c7
  | 5, 7, _, ha, hb => by cases ha; cases hb; exact lk8_5_7 N l c0 c1 c2 c3 c4 c5 c6 c7
  | 5, b + 8, _, _, hb => by simp at hb
  | 6, 0, _, ha, hb => by cases ha; cases hb; exact lk8_6_0 N l c0 c1 c2 c3 c4 c5 c6 c7
  | 6, 1, _, ha, hb => by cases ha; cases hb; exact lk8_6_1 N l c0 c1 c2 c3 c4 c5 c6 c7
  | 6, 2, _, ha, hb => by cases ha; cases hb; exact lk8_6_2 N l c0 c1 c2 c3 c4 c5 c6 c7
  | 6, 3, _, ha, hb => by cases ha; cases hb; exact lk8_6_3 N l c0 c1 c2 c3 c4 c5 c6 c7
  | 6, 4, _, ha, hb => by cases ha; cases hb; exact lk8_6_4 N l c0 c1 c2 c3 c4 c5 c6 c7
  | 6, 5, _, ha, hb => by cases ha; cases hb; exact lk8_6_5 N l c0 c1 c2 c3 c4 c5 c6 c7
  | 6, 6, h, _, _ => absurd rfl h
  | 6, 7, _, ha, hb => by cases ha; cases hb; exact lk8_6_7 N l c0 c1 c2 c3 c4 c5 c6 c7
  | 6, b + 8, _, _, hb => by simp at hb
  | 7, 0, _, ha, hb => by cases ha; cases hb; exact lk8_7_0 N l c0 c1 c2 c3 c4 c5 c6 c7
  | 7, 1, _, ha, hb => by cases ha; cases hb; exact lk8_7_1 N l c0 c1 c2 c3 c4 c5 c6 c7
  | 7, 2, _, ha, hb => by cases ha; cases hb; exact lk8_7_2 N l c0 c1 c2 c3 c4 c5 c6 c7
  | 7, 3, _, ha, hb => by cases ha; cases hb; exact lk8_7_3 N l c0 c1 c2 c3 c4 c5 c6 c7
  | 7, 4, _, ha, hb => by cases ha; cases hb; exact lk8_7_4 N l c0 c1 c2 c3 c4 c5 c6 c7
  | 7, 5, _, ha, hb => by cases ha; cases hb; exact lk8_7_5 N l c0 c1 c2 c3 c4 c5 c6 c7
  | 7, 6, _, ha, hb => by cases ha; cases hb; exact lk8_7_6 N l c0 c1 c2 c3 c4 c5 c6 c7
  | 7, 7, h, _, _ => absurd rfl h
  | 7, b + 8, _, _, hb => by simp at hb
  | a + 8, _, _, ha, _ => by simp at ha
end Go.Sim

/- topo.Gao's round over a link, node by node (printed by wip/tools/geng16d.py). -/
namespace Go.Sim
open Go.RowKit Go.Proofs
set_option linter.unusedVariables false
set_option linter.unusedSimpArgs false
set_option linter.unusedSectionVars false
set_option maxRecDepth 100000
variable [Lv]
theorem lk7_0_1 (N : Nat) (l : List Lk) (c0 c1 c2 c3 c4 c5 c6 : Cf) : LinkOk N l [c0, c1, c2, c3, c4, c5, c6] 0 1 c0 c1 := ⟨fun j r => by kernel_rfl, fun j r => by kernel_rfl, fun j r k v => by kernel_rfl, fun j r => ⟨by kernel_rfl, by kernel_rfl, fun S => by kernel_rfl, fun S => by kernel_rfl, fun S => by kernel_rfl⟩, fun j r => ⟨by kernel_rfl, by kernel_rfl, fun S => by kernel_rfl, fun S => by kernel_rfl, fun S => by kernel_rfl⟩⟩
theorem lk7_0_2 (N : Nat) (l : List Lk) (c0 c1 c2 c3 c4 c5 c6 : Cf) : LinkOk N l [c0, c1, c2, c3, c4, c5, c6] 0 2 c0 c2 := ⟨fun j r => by kernel_rfl, fun j r => by kernel_rfl, fun j r k v => by kernel_rfl, fun j r => ⟨by kernel_rfl, by kernel_rfl, fun S => by kernel_rfl, fun S => by kernel_rfl, fun S => by kernel_rfl⟩, fun j r => ⟨by kernel_rfl, by kernel_rfl, fun S => by kernel_rfl, fun S => by kernel_rfl, fun S => by kernel_rfl⟩⟩
theorem lk7_0_3 (N : Nat) (l : List Lk) (c0 c1 c2 c3 c4 c5 c6 : Cf) : LinkOk N l [c0, c1, c2, c3, c4, c5, c6] 0 3 c0 c3 := ⟨fun j r => by kernel_rfl, fun j r => by kernel_rfl, fun j r k v => by kernel_rfl, fun j r => ⟨by kernel_rfl, by kernel_rfl, fun S => by kernel_rfl, fun S => by kernel_rfl, fun S => by kernel_rfl⟩, fun j r => ⟨by kernel_rfl, by kernel_rfl, fun S => by kernel_rfl, fun S => by kernel_rfl, fun S => by kernel_rfl⟩⟩
theorem lk7_0_4 (N : Nat) (l : List Lk) (c0 c1 c2 c3 c4 c5 c6 : Cf) : LinkOk N l [c0, c1, c2, c3, c4, c5, c6] 0 4 c0 c4 := ⟨fun j r => by kernel_rfl, fun j r => by kernel_rfl, fun j r k v => by kernel_rfl, fun j r => ⟨by kernel_rfl, by kernel_rfl, fun S => by kernel_rfl, fun S => by kernel_rfl, fun S => by kernel_rfl⟩, fun j r => ⟨by kernel_rfl, by kernel_rfl, fun S => by kernel_rfl, fun S => by kernel_rfl, fun S => by kernel_rfl⟩⟩
theorem lk7_0_5 (N : Nat) (l : List Lk) (c0 c1 c2 c3 c4 c5 c6 : Cf) : LinkOk N l [c0, c1, c2, c3, c4, c5, c6] 0 5 c0 c5 := ⟨fun j r => by kernel_rfl, fun j r => by kernel_rfl, fun j r k v => by kernel_rfl, fun j r => ⟨by kernel_rfl, by kernel_rfl, fun S => by kernel_rfl, fun S => by kernel_rfl, fun S => by kernel_rfl⟩, fun j r => ⟨by kernel_rfl, by kernel_rfl, fun S => by kernel_rfl, fun S => by kernel_rfl, fun S => by kernel_rfl⟩⟩
theorem lk7_0_6 (N : Nat) (l : List Lk) (c0 c1 c2 c3 c4 c5 c6 : Cf) : LinkOk N l [c0, c1, c2, c3, c4, c5, c6] 0 6 c0 c6 := ⟨fun j r => by kernel_rfl, fun j r => by kernel_rfl, fun j r k v => by kernel_rfl, fun j r => ⟨by kernel_rfl, by kernel_rfl, fun S => by kernel_rfl, fun S => by kernel_rfl, fun S => by kernel_rfl⟩, fun j r => ⟨by kernel_rfl, by kernel_rfl, fun S => by kernel_rfl, fun S => by kernel_rfl, fun S => by kernel_rfl⟩⟩
theorem lk7_1_0 (N : Nat) (l : List Lk) (c0 c1 c2 c3 c4 c5 c6 : Cf) : LinkOk N l [c0, c1, c2, c3, c4, c5, c6] 1 0 c1 c0 := ⟨fun j r => by kernel_rfl, fun j r => by kernel_rfl, fun j r k v => by kernel_rfl, fun j r => ⟨by kernel_rfl, by kernel_rfl, fun S => by kernel_rfl, fun S => by kernel_rfl, fun S => by kernel_rfl⟩, fun j r => ⟨by kernel_rfl, by kernel_rfl, fun S => by kernel_rfl, fun S => by kernel_rfl, fun S => by kernel_rfl⟩⟩
theorem lk7_1_2 (N : Nat) (l : List Lk) (c0 c1 c2 c3 c4 c5 c6 : Cf) : LinkOk N l [c0, c1, c2, c3, c4, c5, c6] 1 2 c1 c2 := ⟨fun j r => by kernel_rfl, fun j r => by kernel_rfl, fun j r k v => by kernel_rfl, fun j r => ⟨by kernel_rfl, by kernel_rfl, fun S => by kernel_rfl, fun S => by kernel_rfl, fun S => by kernel_rfl⟩, fun j r => ⟨by kernel_rfl, by kernel_rfl, fun S => by kernel_rfl, fun S => by kernel_rfl, fun S => by kernel_rfl⟩⟩
theorem lk7_1_3 (N : Nat) (l : List Lk) (c0 c1 c2 c3 c4 c5 c6 : Cf) : LinkOk N l [c0, c1, c2, c3, c4, c5, c6] 1 3 c1 c3 := ⟨fun j r => by kernel_rfl, fun j r => by kernel_rfl, fun j r k v => by kernel_rfl, fun j r => ⟨by kernel_rfl, by kernel_rfl, fun S => by kernel_rfl, fun S => by kernel_rfl, fun S => by kernel_rfl⟩, fun j r => ⟨by kernel_rfl, by kernel_rfl, fun S => by kernel_rfl, fun S => by kernel_rfl, fun S => by kernel_rfl⟩⟩
theorem lk7_1_4 (N : Nat) (l : List Lk) (c0 c1 c2 c3 c4 c5 c6 : Cf) : LinkOk N l [c0, c1, c2, c3, c4, c5, c6] 1 4 c1 c4 := ⟨fun j r => by kernel_rfl, fun j r => by kernel_rfl, fun j r k v => by kernel_rfl, fun j r => ⟨by kernel_rfl, by kernel_rfl, fun S => by kernel_rfl, fun S => by kernel_rfl, fun S => by kernel_rfl⟩, fun j r => ⟨by kernel_rfl, by kernel_rfl, fun S => by kernel_rfl, fun S => by kernel_rfl, fun S => by kernel_rfl⟩⟩
theorem lk7_1_5 (N : Nat) (l : List Lk) (c0 c1 c2 c3 c4 c5 c6 : Cf) : LinkOk N l [c0, c1, c2, c3, c4, c5, c6] 1 5 c1 c5 := ⟨fun j r => by kernel_rfl, fun j r => by kernel_rfl, fun j r k v => by kernel_rfl, fun j r => ⟨by kernel_rfl, by kernel_rfl, fun S => by kernel_rfl, fun S => by kernel_rfl, fun S => by kernel_rfl⟩, fun j r => ⟨by kernel_rfl, by kernel_rfl, fun S => by kernel_rfl, fun S => by kernel_rfl, fun S => by kernel_rfl⟩⟩
theorem lk7_1_6 (N : Nat) (l : List Lk) (c0 c1 c2 c3 c4 c5 c6 : Cf) : LinkOk N l [c0, c1, c2, c3, c4, c5, c6] 1 6 c1 c6 := ⟨fun j r => by kernel_rfl, fun j r => by kernel_rfl, fun j r k v => by kernel_rfl, fun j r => ⟨by kernel_rfl, by kernel_rfl, fun S => by kernel_rfl, fun S => by kernel_rfl, fun S => by kernel_rfl⟩, fun j r => ⟨by kernel_rfl, by kernel_rfl, fun S => by kernel_rfl, fun S => by kernel_rfl, fun S => by kernel_rfl⟩⟩
theorem lk7_2_0 (N : Nat) (l : List Lk) (c0 c1 c2 c3 c4 c5 c6 : Cf) : LinkOk N l [c0, c1, c2, c3, c4, c5, c6] 2 0 c2 c0 := ⟨fun j r => by kernel_rfl, fun j r => by kernel_rfl, fun j r k v => by kernel_rfl, fun j r => ⟨by kernel_rfl, by kernel_rfl, fun S => by kernel_rfl, fun S => by kernel_rfl, fun S => by kernel_rfl⟩, fun j r => ⟨by kernel_rfl, by kernel_rfl, fun S => by kernel_rfl, fun S => by kernel_rfl, fun S => by kernel_rfl⟩⟩
theorem lk7_2_1 (N : Nat) (l : List Lk) (c0 c1 c2 c3 c4 c5 c6 : Cf) : LinkOk N l [c0, c1, c2, c3, c4, c5, c6] 2 1 c2 c1 := ⟨fun j r => by kernel_rfl, fun j r => by kernel_rfl, fun j r k v => by kernel_rfl, fun j r => ⟨by kernel_rfl, by kernel_rfl, fun S => by kernel_rfl, fun S => by kernel_rfl, fun S => by kernel_rfl⟩, fun j r => ⟨by kernel_rfl, by kernel_rfl, fun S => by kernel_rfl, fun S => by kernel_rfl, fun S => by kernel_rfl⟩⟩
theorem lk7_2_3 (N : Nat) (l : List Lk) (c0 c1 c2 c3 c4 c5 c6 : Cf) : LinkOk N l [c0, c1, c2, c3, c4, c5, c6] 2 3 c2 c3 := ⟨fun j r => by kernel_rfl, fun j r => by kernel_rfl, fun j r k v => by kernel_rfl, fun j r => ⟨by kernel_rfl, by kernel_rfl, fun S => by kernel_rfl, fun S => by kernel_rfl, fun S => by kernel_rfl⟩, fun j r => ⟨by kernel_rfl, by kernel_rfl, fun S => by kernel_rfl, fun S => by kernel_rfl, fun S => by kernel_rfl⟩⟩
theorem lk7_2_4 (N : Nat) (l : List Lk) (c0 c1 c2 c3 c4 c5 c6 : Cf) : LinkOk N l [c0, c1, c2, c3, c4, c5, c6] 2 4 c2 c4 := ⟨fun j r => by kernel_rfl, fun j r => by kernel_rfl, fun j r k v => by kernel_rfl, fun j r => ⟨by kernel_rfl, by kernel_rfl, fun S => by kernel_rfl, fun S => by kernel_rfl, fun S => by kernel_rfl⟩, fun j r => ⟨by kernel_rfl, by kernel_rfl, fun S => by kernel_rfl, fun S => by kernel_rfl, fun S => by kernel_rfl⟩⟩
theorem lk7_2_5 (N : Nat) (l : List Lk) (c0 c1 c2 c3 c4 c5 c6 : Cf) : LinkOk N l [c0, c1, c2, c3, c4, c5, c6] 2 5 c2 c5 := ⟨fun j r => by kernel_rfl, fun j r => by kernel_rfl, fun j r k v => by kernel_rfl, fun j r => ⟨by kernel_rfl, by kernel_rfl, fun S => by kernel_rfl, fun S => by kernel_rfl, fun S => by kernel_rfl⟩, fun j r => ⟨by kernel_rfl, by kernel_rfl, fun S => by kernel_rfl, fun S => by kernel_rfl, fun S => by kernel_rfl⟩⟩
theorem lk7_2_6 (N : Nat) (l : List Lk) (c0 c1 c2 c3 c4 c5 c6 : Cf) : LinkOk N l [c0, c1, c2, c3, c4, c5, c6] 2 6 c2 c6 := ⟨fun j r => by kernel_rfl, fun j r => by kernel_rfl, fun j r k v => by kernel_rfl, fun j r => ⟨by kernel_rfl, by kernel_rfl, fun S => by kernel_rfl, fun S => by kernel_rfl, fun S => by kernel_rfl⟩, fun j r => ⟨by kernel_rfl, by kernel_rfl, fun S => by kernel_rfl, fun S => by kernel_rfl, fun S => by kernel_rfl⟩⟩
theorem lk7_3_0 (N : Nat) (l : List Lk) (c0 c1 c2 c3 c4 c5 c6 : Cf) : LinkOk N l [c0, c1, c2, c3, c4, c5, c6] 3 0 c3 c0 := ⟨fun j r => by kernel_rfl, fun j r => by kernel_rfl, fun j r k v => by kernel_rfl, fun j r => ⟨by kernel_rfl, by kernel_rfl, fun S => by kernel_rfl, fun S => by kernel_rfl, fun S => by kernel_rfl⟩, fun j r => ⟨by kernel_rfl, by kernel_rfl, fun S => by kernel_rfl, fun S => by kernel_rfl, fun S => by kernel_rfl⟩⟩
theorem lk7_3_1 (N : Nat) (l : List Lk) (c0 c1 c2 c3 c4 c5 c6 : Cf) : LinkOk N l [c0, c1, c2, c3, c4, c5, c6] 3 1 c3 c1 := ⟨fun j r => by kernel_rfl, fun j r => by kernel_rfl, fun j r k v => by kernel_rfl, fun j r => ⟨by kernel_rfl, by kernel_rfl, fun S => by kernel_rfl, fun S => by kernel_rfl, fun S => by kernel_rfl⟩, fun j r => ⟨by kernel_rfl, by kernel_rfl, fun S => by kernel_rfl, fun S => by kernel_rfl, fun S => by kernel_rfl⟩⟩
theorem lk7_3_2 (N : Nat) (l : List Lk) (c0 c1 c2 c3 c4 c5 c6 : Cf) : LinkOk N l [c0, c1, c2, c3, c4, c5, c6] 3 2 c3 c2 := ⟨fun j r => by kernel_rfl, fun j r => by kernel_rfl, fun j r k v => by kernel_rfl, fun j r => ⟨by kernel_rfl, by kernel_rfl, fun S => by kernel_rfl, fun S => by kernel_rfl, fun S => by kernel_rfl⟩, fun j r => ⟨by kernel_rfl, by kernel_rfl, fun S => by kernel_rfl, fun S => by kernel_rfl, fun S => by kernel_rfl⟩⟩
theorem lk7_3_4 (N : Nat) (l : List Lk) (c0 c1 c2 c3 c4 c5 c6 : Cf) : LinkOk N l [c0, c1, c2, c3, c4, c5, c6] 3 4 c3 c4 := ⟨fun j r => by kernel_rfl, fun j r => by kernel_rfl, fun j r k v => by kernel_rfl, fun j r => ⟨by kernel_rfl, by kernel_rfl, fun S => by kernel_rfl, fun S => by kernel_rfl, fun S => by kernel_rfl⟩, fun j r => ⟨by kernel_rfl, by kernel_rfl, fun S => by kernel_rfl, fun S => by kernel_rfl, fun S => by kernel_rfl⟩⟩
theorem lk7_3_5 (N : Nat) (l : List Lk) (c0 c1 c2 c3 c4 c5 c6 : Cf) : LinkOk N l [c0, c1, c2, c3, c4, c5, c6] 3 5 c3 c5 := ⟨fun j r => by kernel_rfl, fun j r => by kernel_rfl, fun j r k v => by kernel_rfl, fun j r => ⟨by kernel_rfl, by kernel_rfl, fun S => by kernel_rfl, fun S => by kernel_rfl, fun S => by kernel_rfl⟩, fun j r => ⟨by kernel_rfl, by kernel_rfl, fun S => by kernel_rfl, fun S => by kernel_rfl, fun S => by kernel_rfl⟩⟩
theorem lk7_3_6 (N : Nat) (l : List Lk) (c0 c1 c2 c3 c4 c5 c6 : Cf) : LinkOk N l [c0, c1, c2, c3, c4, c5, c6] 3 6 c3 c6 := ⟨fun j r => by kernel_rfl, fun j r => by kernel_rfl, fun j r k v => by kernel_rfl, fun j r => ⟨by kernel_rfl, by kernel_rfl, fun S => by kernel_rfl, fun S => by kernel_rfl, fun S => by kernel_rfl⟩, fun j r => ⟨by kernel_rfl, by kernel_rfl, fun S => by kernel_rfl, fun S => by kernel_rfl, fun S => by kernel_rfl⟩⟩
theorem lk7_4_0 (N : Nat) (l : List Lk) (c0 c1 c2 c3 c4 c5 c6 : Cf) : LinkOk N l [c0, c1, c2, c3, c4, c5, c6] 4 0 c4 c0 := ⟨fun j r => by kernel_rfl, fun j r => by kernel_rfl, fun j r k v => by kernel_rfl, fun j r => ⟨by kernel_rfl, by kernel_rfl, fun S => by kernel_rfl, fun S => by kernel_rfl, fun S => by kernel_rfl⟩, fun j r => ⟨by kernel_rfl, by kernel_rfl, fun S => by kernel_rfl, fun S => by kernel_rfl, fun S => by kernel_rfl⟩⟩
theorem lk7_4_1 (N : Nat) (l : List Lk) (c0 c1 c2 c3 c4 c5 c6 : Cf) : LinkOk N l [c0, c1, c2, c3, c4, c5, c6] 4 1 c4 c1 := ⟨fun j r => by kernel_rfl, fun j r => by kernel_rfl, fun j r k v => by kernel_rfl, fun j r => ⟨by kernel_rfl, by kernel_rfl, fun S => by kernel_rfl, fun S => by kernel_rfl, fun S => by kernel_rfl⟩, fun j r => ⟨by kernel_rfl, by kernel_rfl, fun S => by kernel_rfl, fun S => by kernel_rfl, fun S => by kernel_rfl⟩⟩
theorem lk7_4_2 (N : Nat) (l : List Lk) (c0 c1 c2 c3 c4 c5 c6 : Cf) : LinkOk N l [c0, c1, c2, c3, c4, c5, c6] 4 2 c4 c2 := ⟨fun j r => by kernel_rfl, fun j r => by kernel_rfl, fun j r k v => by kernel_rfl, fun j r => ⟨by kernel_rfl, by kernel_rfl, fun S => by kernel_rfl, fun S => by kernel_rfl, fun S => by kernel_rfl⟩, fun j r => ⟨by kernel_rfl, by kernel_rfl, fun S => by kernel_rfl, fun S => by kernel_rfl, fun S => by kernel_rfl⟩⟩
theorem lk7_4_3 (N : Nat) (l : List Lk) (c0 c1 c2 c3 c4 c5 c6 : Cf) : LinkOk N l [c0, c1, c2, c3, c4, c5, c6] 4 3 c4 c3 := ⟨fun j r => by kernel_rfl, fun j r => by kernel_rfl, fun j r k v => by kernel_rfl, fun j r => ⟨by kernel_rfl, by kernel_rfl, fun S => by kernel_rfl, fun S => by kernel_rfl, fun S => by kernel_rfl⟩, fun j r => ⟨by kernel_rfl, by kernel_rfl, fun S => by kernel_rfl, fun S => by kernel_rfl, fun S => by kernel_rfl⟩⟩
theorem lk7_4_5 (N : Nat) (l : List Lk) (c0 c1 c2 c3 c4 c5 c6 : Cf) : LinkOk N l [c0, c1, c2, c3, c4, c5, c6] 4 5 c4 c5 := ⟨fun j r => by kernel_rfl, fun j r => by kernel_rfl, fun j r k v => by kernel_rfl, fun j r => ⟨by kernel_rfl, by kernel_rfl, fun S => by kernel_rfl, fun S => by kernel_rfl, fun S => by kernel_rfl⟩, fun j r => ⟨by kernel_rfl, by kernel_rfl, fun S => by kernel_rfl, fun S => by kernel_rfl, fun S => by kernel_rfl⟩⟩
theorem lk7_4_6 (N : Nat) (l : List Lk) (c0 c1 c2 c3 c4 c5 c6 : Cf) : LinkOk N l [c0, c1, c2, c3, c4, c5, c6] 4 6 c4 c6 := ⟨fun j r => by kernel_rfl, fun j r => by kernel_rfl, fun j r k v => by kernel_rfl, fun j r => ⟨by kernel_rfl, by kernel_rfl, fun S => by kernel_rfl, fun S => by kernel_rfl, fun S => by kernel_rfl⟩, fun j r => ⟨by kernel_rfl, by kernel_rfl, fun S => by kernel_rfl, fun S => by kernel_rfl, fun S => by kernel_rfl⟩⟩
theorem lk7_5_0 (N : Nat) (l : List Lk) (c0 c1 c2 c3 c4 c5 c6 : Cf) : LinkOk N l [c0, c1, c2, c3, c4, c5, c6] 5 0 c5 c0 := ⟨fun j r => by kernel_rfl, fun j r => by kernel_rfl, fun j r k v => by kernel_rfl, fun j r => ⟨by kernel_rfl, by kernel_rfl, fun S => by kernel_rfl, fun S => by kernel_rfl, fun S => by kernel_rfl⟩, fun j r => ⟨by kernel_rfl, by kernel_rfl, fun S => by kernel_rfl, fun S => by kernel_rfl, fun S => by kernel_rfl⟩⟩
theorem lk7_5_1 (N : Nat) (l : List Lk) (c0 c1 c2 c3 c4 c5 c6 : Cf) : LinkOk N l [c0, c1, c2, c3, c4, c5, c6] 5 1 c5 c1 := ⟨fun j r => by kernel_rfl, fun j r => by kernel_rfl, fun j r k v => by kernel_rfl, fun j r => ⟨by kernel_rfl, by kernel_rfl, fun S => by kernel_rfl, fun S => by kernel_rfl, fun S => by kernel_rfl⟩, fun j r => ⟨by kernel_rfl, by kernel_rfl, fun S => by kernel_rfl, fun S => by kernel_rfl, fun S => by kernel_rfl⟩⟩
theorem lk7_5_2 (N : Nat) (l : List Lk) (c0 c1 c2 c3 c4 c5 c6 : Cf) : LinkOk N l [c0, c1, c2, c3, c4, c5, c6] 5 2 c5 c2 := ⟨fun j r => by kernel_rfl, fun j r => by kernel_rfl, fun j r k v => by kernel_rfl, fun j r => ⟨by kernel_rfl, by kernel_rfl, fun S => by kernel_rfl, fun S => by kernel_rfl, fun S => by kernel_rfl⟩, fun j r => ⟨by kernel_rfl, by kernel_rfl, fun S => by kernel_rfl, fun S => by kernel_rfl, fun S => by kernel_rfl⟩⟩
theorem lk7_5_3 (N : Nat) (l : List Lk) (c0 c1 c2 c3 c4 c5 c6 : Cf) : LinkOk N l [c0, c1, c2, c3, c4, c5, c6] 5 3 c5 c3 := ⟨fun j r => by kernel_rfl, fun j r => by kernel_rfl, fun j r k v => by kernel_rfl, fun j r => ⟨by kernel_rfl, by kernel_rfl, fun S => by kernel_rfl, fun S => by kernel_rfl, fun S => by kernel_rfl⟩, fun j r => ⟨by kernel_rfl, by kernel_rfl, fun S => by kernel_rfl, fun S => by kernel_rfl, fun S => by kernel_rfl⟩⟩
theorem lk7_5_4 (N : Nat) (l : List Lk) (c0 c1 c2 c3 c4 c5 c6 : Cf) : LinkOk N l [c0, c1, c2, c3, c4, c5, c6] 5 4 c5 c4 := ⟨fun j r => by kernel_rfl, fun j r => by kernel_rfl, fun j r k v => by kernel_rfl, fun j r => ⟨by kernel_rfl, by kernel_rfl, fun S => by kernel_rfl, fun S => by kernel_rfl, fun S => by kernel_rfl⟩, fun j r => ⟨by kernel_rfl, by kernel_rfl, fun S => by kernel_rfl, fun S => by kernel_rfl, fun S => by kernel_rfl⟩⟩
theorem lk7_5_6 (N : Nat) (l : List Lk) (c0 c1 c2 c3 c4 c5 c6 : Cf) : LinkOk N l [c0, c1, c2, c3, c4, c5, c6] 5 6 c5 c6 := ⟨fun j r => by kernel_rfl, fun j r => by kernel_rfl, fun j r k v => by kernel_rfl, fun j r => ⟨by kernel_rfl, by kernel_rfl, fun S => by kernel_rfl, fun S => by kernel_rfl, fun S => by kernel_rfl⟩, fun j r => ⟨by kernel_rfl, by kernel_rfl, fun S => by kernel_rfl, fun S => by kernel_rfl, fun S => by kernel_rfl⟩⟩
theorem lk7_6_0 (N : Nat) (l : List Lk) (c0 c1 c2 c3 c4 c5 c6 : Cf) : LinkOk N l [c0, c1, c2, c3, c4, c5, c6] 6 0 c6 c0 := ⟨fun j r => by kernel_rfl, fun j r => by kernel_rfl, fun j r k v => by kernel_rfl, fun j r => ⟨by kernel_rfl, by kernel_rfl, fun S => by kernel_rfl, fun S => by kernel_rfl, fun S => by kernel_rfl⟩, fun j r => ⟨by kernel_rfl, by kernel_rfl, fun S => by kernel_rfl, fun S => by kernel_rfl, fun S => by kernel_rfl⟩⟩
theorem lk7_6_1 (N : Nat) (l : List Lk) (c0 c1 c2 c3 c4 c5 c6 : Cf) : LinkOk N l [c0, c1, c2, c3, c4, c5, c6] 6 1 c6 c1 := ⟨fun j r => by kernel_rfl, fun j r => by kernel_rfl, fun j r k v => by kernel_rfl, fun j r => ⟨by kernel_rfl, by kernel_rfl, fun S => by kernel_rfl, fun S => by kernel_rfl, fun S => by kernel_rfl⟩, fun j r => ⟨by kernel_rfl, by kernel_rfl, fun S => by kernel_rfl, fun S => by kernel_rfl, fun S => by kernel_rfl⟩⟩
theorem lk7_6_2 (N : Nat) (l : List Lk) (c0 c1 c2 c3 c4 c5 c6 : Cf) : LinkOk N l [c0, c1, c2, c3, c4, c5, c6] 6 2 c6 c2 := ⟨fun j r => by kernel_rfl, fun j r => by kernel_rfl, fun j r k v => by kernel_rfl, fun j r => ⟨by kernel_rfl, by kernel_rfl, fun S => by kernel_rfl, fun S => by kernel_rfl, fun S => by kernel_rfl⟩, fun j r => ⟨by kernel_rfl, by kernel_rfl, fun S => by kernel_rfl, fun S => by kernel_rfl, fun S => by kernel_rfl⟩⟩
theorem lk7_6_3 (N : Nat) (l : List Lk) (c0 c1 c2 c3 c4 c5 c6 : Cf) : LinkOk N l [c0, c1, c2, c3, c4, c5, c6] 6 3 c6 c3 := ⟨fun j r => by kernel_rfl, fun j r => by kernel_rfl, fun j r k v => by kernel_rfl, fun j r => ⟨by kernel_rfl, by kernel_rfl, fun S => by kernel_rfl, fun S => by kernel_rfl, fun S => by kernel_rfl⟩, fun j r => ⟨by kernel_rfl, by kernel_rfl, fun S => by kernel_rfl, fun S => by kernel_rfl, fun S => by kernel_rfl⟩⟩
theorem lk7_6_4 (N : Nat) (l : List Lk) (c0 c1 c2 c3 c4 c5 c6 : Cf) : LinkOk N l [c0, c1, c2, c3, c4, c5, c6] 6 4 c6 c4 := ⟨fun j r => by kernel_rfl, fun j r => by kernel_rfl, fun j r k v => by kernel_rfl, fun j r => ⟨by kernel_rfl, by kernel_rfl, fun S => by kernel_rfl, fun S => by kernel_rfl, fun S => by kernel_rfl⟩, fun j r => ⟨by kernel_rfl, by kernel_rfl, fun S => by kernel_rfl, fun S => by kernel_rfl, fun S => by kernel_rfl⟩⟩
theorem lk7_6_5 (N : Nat) (l : List Lk) (c0 c1 c2 c3 c4 c5 c6 : Cf) : LinkOk N l [c0, c1, c2, c3, c4, c5, c6] 6 5 c6 c5 := ⟨fun j r => by kernel_rfl, fun j r => by kernel_rfl, fun j r k v => by kernel_rfl, fun j r => ⟨by kernel_rfl, by kernel_rfl, fun S => by kernel_rfl, fun S => by kernel_rfl, fun S => by kernel_rfl⟩, fun j r => ⟨by kernel_rfl, by kernel_rfl, fun S => by kernel_rfl, fun S => by kernel_rfl, fun S => by kernel_rfl⟩⟩
theorem lk7 {N : Nat} {l : List Lk} {c0 c1 c2 c3 c4 c5 c6 ca cb : Cf} : ∀ {a b : Nat}, a ≠ b → [c0, c1, c2, c3, c4, c5, c6][a]? = some ca → [c0, c1, c2, c3, c4, c5, c6][b]? = some cb → LinkOk N l [c0, c1, c2, c3, c4, c5, c6] a b ca cb
  | 0, 0, h, _, _ => absurd rfl h
  | 0, 1, _, ha, hb => by cases ha; cases hb; exact lk7_0_1 N l c0 c1 c2 c3 c4 c5 c6
  | 0, 2, _, ha, hb => by cases ha; cases hb; exact lk7_0_2 N l c0 c1 c2 c3 c4 c5 c6
  | 0, 3, _, ha, hb => by cases ha; cases hb; exact lk7_0_3 N l c0 c1 c2 c3 c4 c5 c6
  | 0, 4, _, ha, hb => by cases ha; cases hb; exact lk7_0_4 N l c0 c1 c2 c3 c4 c5 c6
  | 0, 5, _, ha, hb => by cases ha; cases hb; exact lk7_0_5 N l c0 c1 c2 c3 c4 c5 c6
  | 0, 6, _, ha, hb => by cases ha; cases hb; exact lk7_0_6 N l c0 c1 c2 c3 c4 c5 c6
  | 0, b + 7, _, _, hb => by simp at hb
  | 1, 0, _, ha, hb => by cases ha; cases hb; exact lk7_1_0 N l c0 c1 c2 c3 c4 c5 c6
  | 1, 1, h, _, _ => absurd rfl h
  | 1, 2, _, ha, hb => by cases ha; cases hb; exact lk7_1_2 N l c0 c1 c2 c3 c4 c5 c6
  | 1, 3, _, ha, hb => by cases ha; cases hb; exact lk7_1_3 N l c0 c1 c2 c3 c4 c5 c6
  | 1, 4, _, ha, hb => by cases ha; cases hb; exact lk7_1_4 N l c0 c1 c2 c3 c4 c5 c6
  | 1, 5, _, ha, hb => by cases ha; cases hb; exact lk7_1_5 N l c0 c1 c2 c3 c4 c5 c6
  | 1, 6, _, ha, hb => by cases ha; cases hb; exact lk7_1_6 N l c0 c1 c2 c3 c4 c5 c6
  | 1, b + 7, _, _, hb => by simp at hb
  | 2, 0, _, ha, hb => by cases ha; cases hb; exact lk7_2_0 N l c0 c1 c2 c3 c4 c5 c6
  | 2, 1, _, ha, hb => by cases ha; cases hb; exact lk7_2_1 N l c0 c1 c2 c3 c4 c5 c6
  | 2, 2, h, _, _ => absurd rfl h
  | 2, 3, _, ha, hb => by cases ha; cases hb; exact lk7_2_3 N l c0 c1 c2 c3 c4 c5 c6
  | 2, 4, _, ha, hb => by cases ha; cases hb; exact lk7_2_4 N l c0 c1 c2 c3 c4 c5 c6
  | 2, 5, _, ha, hb => by cases ha; cases hb; exact lk7_2_5 N l c0 c1 c2 c3 c4 c5 c6
  | 2, 6, _, ha, hb => by cases ha; cases hb; exact lk7_2_6 N l c0 c1 c2 c3 c4 c5 c6
  | 2, b + 7, _, _, hb => by simp at hb
  | 3, 0, _, ha, hb => by cases ha; cases hb; exact lk7_3_0 N l c0 c1 c2 c3 c4 c5 c6
  | 3, 1, _, ha, hb => by cases ha; cases hb; exact lk7_3_1 N l c0 c1 c2 c3 c4 c5 c6
  | 3, 2, _, ha, hb => by cases ha; cases hb; exact lk7_3_2 N l c0 c1 c2 c3 c4 c5 c6
  | 3, 3, h, _, _ => absurd rfl h
  | 3, 4, _, ha, hb => by cases ha; cases hb; exact lk7_3_4 N l c0 c1 c2 c3 c4 c5 c6
  | 3, 5, _, ha, hb => by cases ha; cases hb; exact lk7_3_5 N l c0 c1 c2 c3 c4 c5 c6
  | 3, 6, _, ha, hb => by cases ha; cases hb; exact lk7_3_6 N l c0 c1 c2 c3 c4 c5 c6
  | 3, b + 7, _, _, hb => by simp at hb
  | 4, 0, _, ha, hb => by cases ha; cases hb; exact lk7_4_0 N l c0 c1 c2 c3 c4 c5 c6
  | 4, 1, _, ha, hb => by cases ha; cases hb; exact lk7_4_1 N l c0 c1 c2 c3 c4 c5 c6
  | 4, 2, _, ha, hb => by cases ha; cases hb; exact lk7_4_2 N l c0 c1 c2 c3 c4 c5 c6
  | 4, 3, _, ha, hb => by cases ha; cases hb; exact lk7_4_3 N l c0 c1 c2 c3 c4 c5 c6
  | 4, 4, h, _, _ => absurd rfl h
  | 4, 5, _, ha, hb => by cases ha; cases hb; exact lk7_4_5 N l c0 c1 c2 c3 c4 c5 c6
  | 4, 6, _, ha, hb => by cases ha; cases hb; exact lk7_4_6 N l c0 c1 c2 c3 c4 c5 c6
  | 4, b + 7, _, _, hb => by simp at hb
  | 5, 0, _, ha, hb => by cases ha; cases hb; exact lk7_5_0 N l c0 c1 c2 c3 c4 c5 c6
  | 5, 1, _, ha, hb => by cases ha; cases hb; exact lk7_5_1 N l c0 c1 c2 c3 c4 c5 c6
  | 5, 2, _, ha, hb => by cases ha; cases hb; exact lk7_5_2 N l c0 c1 c2 c3 c4 c5 c6
  | 5, 3, _, ha, hb => by cases ha; cases hb; exact lk7_5_3 N l c0 c1 c2 c3 c4 c5 c6
  | 5, 4, _, ha, hb => by cases ha; cases hb; exact lk7_5_4 N l c0 c1 c2 c3 c4 c5 c6
  | 5, 5, h, _, _ => absurd rfl h
  | 5, 6, _, ha, hb => by cases ha; cases hb; exact lk7_5_6 N l c0 c1 c2 c3 c4 c5 c6
  | 5, b + 7, _, _, hb => by simp at hb
  | 6, 0, _, ha, hb => by cases ha; cases hb; exact lk7_6_0 N l c0 c1 c2 c3 c4 c5 c6
  | 6, 1, _, ha, hb => by cases ha; cases hb; exact lk7_6_1 N l c0 c1 c2 c3 c4 c5 c6
  | 6, 2, _, ha, hb => by cases ha; cases hb; exact lk7_6_2 N l c0 c1 c2 c3 c4 c5 c6
  | 6, 3, _, ha, hb => by cases ha; cases hb; exact lk7_6_3 N l c0 c1 c2 c3 c4 c5 c6
  | 6, 4, _, ha, hb => by cases ha; cases hb; exact lk7_6_4 N l c0 c1 c2 c3 c4 c5 c6
  | 6, 5, _, ha, hb => by cases ha; cases hb; exact lk7_6_5 N l c0 c1 c2 c3 c4 c5 c6
  | 6, 6, h, _, _ => absurd rfl h
  | 6, b + 7, _, _, hb => by simp at hb
  | a + 7, _, _, ha, _ => by simp at ha
theorem lk2_0_1 (N : Nat) (l : List Lk) (c0 c1 : Cf) : LinkOk N l [c0, c1] 0 1 c0 c1 := ⟨fun j r => by kernel_rfl, fun j r => by kernel_rfl, fun j r k v => by kernel_rfl, fun j r => ⟨by kernel_rfl, by kernel_rfl, fun S => by kernel_rfl, fun S => by kernel_rfl, fun S => by kernel_rfl⟩, fun j r => ⟨by kernel_rfl, by kernel_rfl, fun S => by kernel_rfl, fun S => by kernel_rfl, fun S => by kernel_rfl⟩⟩
theorem lk2_1_0 (N : Nat) (l : List Lk) (c0 c1 : Cf) : LinkOk N l [c0, c1] 1 0 c1 c0 := ⟨fun j r => by kernel_rfl, fun j r => by kernel_rfl, fun j r k v => by kernel_rfl, fun j r => ⟨by kernel_rfl, by kernel_rfl, fun S => by kernel_rfl, fun S => by kernel_rfl, fun S => by kernel_rfl⟩, fun j r => ⟨by kernel_rfl, by kernel_rfl, fun S => by kernel_rfl, fun S => by kernel_rfl, fun S => by kernel_rfl⟩⟩
theorem lk2 {N : Nat} {l : List Lk} {c0 c1 ca cb : Cf} : ∀ {a b : Nat}, a ≠ b → [c0, c1][a]? = some ca → [c0, c1][b]? = some cb → LinkOk N l [c0, c1] a b ca cb
  | 0, 0, h, _, _ => absurd rfl h
  | 0, 1, _, ha, hb => by cases ha; cases hb; exact lk2_0_1 N l c0 c1
  | 0, b + 2, _, _, hb => by simp at hb
  | 1, 0, _, ha, hb => by cases ha; cases hb; exact lk2_1_0 N l c0 c1
  | 1, 1, h, _, _ => absurd rfl h
  | 1, b + 2, _, _, hb => by simp at hb
  | a + 2, _, _, ha, _ => by simp at ha
theorem lk1 {N : Nat} {l : List Lk} {c0 ca cb : Cf} : ∀ {a b : Nat}, a ≠ b → [c0][a]? = some ca → [c0][b]? = some cb → LinkOk N l [c0] a b ca cb
  | 0, 0, h, _, _ => absurd rfl h
  | 0, b + 1, _, _, hb => by simp at hb
  | a + 1, _, _, ha, _ => by simp at ha
end Go.Sim
