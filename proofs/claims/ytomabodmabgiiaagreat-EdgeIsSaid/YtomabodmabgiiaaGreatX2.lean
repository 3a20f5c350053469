/- The texts of a proof, one behind the other: an interpreter and its soundness, what the functions of the program answer, and plain laws on that. -/
import Derived.Test.YtomabodmabgiiaaGreatX1
import Derived.Test.YtomabodmabgiiaaGreatK3
set_option linter.unusedVariables false
set_option linter.unusedSimpArgs false
set_option linter.unnecessarySimpa false
set_option linter.unusedSectionVars false
/- What calls come to: printed by wip/tools/eq2.py: layer 14 Out. -/
namespace Go.Sim
open Go.RowKit Go.Proofs
set_option linter.unusedVariables false
set_option maxRecDepth 100000
variable [Lv]

def sRp (l : List T) (j : Int) : St := ⟨slots 48 [(7, .own 0), (8, .t (i64 j))], [.row 3 1 l]⟩
def sCc (l : List (List Int)) (n i : Int) : St := ⟨slots 36 [(0, .t (.sl 1 (l.map fun a => .sl 1 (ints a)))), (3, .t (i64 n)), (9, .t (.sl 1 (l.map fun a => .sl 1 (ints a)))), (10, .t (i64 l.length)), (11, .t (i64 i))], []⟩
def sCc2 (l : List (List Int)) (r : List Int) (i : Int) : St := ⟨slots 36 [(6, .own 0), (25, .t (.sl 1 (l.map fun a => .sl 1 (ints a)))), (26, .t (i64 l.length)), (27, .t (i64 i))], [.row 3 1 (ints r)]⟩
def sCm (l m : List Int) (i : Int) : St := ⟨slots 36 [(0, .t (.sl 1 (ints l))), (1, .t (.sl 1 (ints m))), (9, .t (.sl 1 (ints l))), (10, .t (i64 l.length)), (11, .t (i64 i))], []⟩
theorem q44 (N : Nat) (a n : Int) : callP env (N + 1) 44 [.sl 1 [i64 a], i64 n] = W [.sl 1 [i64 a], i64 n] (bif decide (n < 0) then Res.stuck else cl N 66 [T.int IntKind.u64 (IntKind.u64.wrap (↑1 : Int)), T.int IntKind.u64 (IntKind.u64.wrap n)] fun x => compT x 0 fun y => compT x 1 fun y_1 => iT IntKind.u64 y fun a_1 => bif decide (a_1 > 0) then Res.stuck else iT IntKind.u64 y_1 fun a_2 => bif decide (a_2 > 9223372036854775807) then Res.stuck else iT IntKind.u64 y_1 fun n => chk (decide (0 ≤ IntKind.i64.wrap n) && decide (IntKind.i64.wrap n ≤ IntKind.i64.wrap n) && decide ((IntKind.i64.wrap n).toNat * 8 ≤ 140737488355328)) (chk (decide ((List.replicate (IntKind.i64.wrap n).toNat (i64 0)).length ≤ (List.replicate (IntKind.i64.wrap n).toNat (i64 0)).length)) (loopL env N 44 8 (sRp (spliceT (List.replicate (IntKind.i64.wrap n).toNat (i64 0)) 0 (List.take (List.replicate (IntKind.i64.wrap n).toNat (i64 0)).length [i64 a])) (↑(min 1 (List.replicate (IntKind.i64.wrap n).toNat (i64 0)).length) : Int))))) := by kernel_rfl
theorem b44_8 (N : Nat) (l : List T) (j : Int) : bodyL env N 44 0 8 (sRp l j) = bif decide (j < (↑l.length : Int)) then chk (decide (0 ≤ j) && decide (j ≤ (↑l.length : Int))) (chk (decide (0 ≤ j) && decide (j ≤ (↑l.length : Int))) (bif decide (0 + j.toNat ≤ l.length) then chk (decide (0 + j.toNat ≤ 0 + l.length) && decide (0 + l.length ≤ l.length)) (Res.ok (Ex.norm, sRp (spliceT l (0 + j.toNat) (List.take (0 + l.length - (0 + j.toNat)) (List.drop 0 (List.take (0 + j.toNat) l)))) (IntKind.i64.wrap (j + (↑(min (List.drop 0 (List.take (0 + j.toNat) l)).length (0 + l.length - (0 + j.toNat))) : Int))))) else Res.stuck)) else Res.ok (Ex.exit 0, { tmps := slots 48 [(7, PV.own 0)], heap := [AObj.row 3 1 l] }) := by kernel_rfl
theorem t44_8_exit0 (N : Nat) (l : List T) (j : Int) : tailL env N 44 0 8 (outK env 44) (.exit 0) (⟨slots 48 [(7, .own 0)], [.row 3 1 l]⟩) = Res.ok (T.sl 1 l) := by kernel_rfl
theorem q66 (N : Nat) (a b : Int) : callP env (N + 1) 66 [.int .u64 a, .int .u64 b] = W [.int .u64 a, .int .u64 b] (cl N 76 [T.int IntKind.u64 a, T.int IntKind.u64 b] fun x => compT x 0 fun y => compT x 1 fun y_1 => Res.ok (T.tup [y, y_1])) := by kernel_rfl
theorem q76 (N : Nat) (a b : Int) : callP env (N + 1) 76 [.int .u64 a, .int .u64 b] = W [.int .u64 a, .int .u64 b] (Res.ok (T.tup [T.int IntKind.u64 (IntKind.u64.wrap (IntKind.u64.wrap (IntKind.u64.wrap (a.fdiv 4294967296 * b.fdiv 4294967296) + (IntKind.u64.wrap (IntKind.u64.wrap (a.fdiv 4294967296 * IntKind.u64.wrap (↑(BitVec.ofInt 64 b &&& BitVec.ofInt 64 4294967295).toNat : Int)) + (IntKind.u64.wrap (IntKind.u64.wrap (↑(BitVec.ofInt 64 a &&& BitVec.ofInt 64 4294967295).toNat : Int) * IntKind.u64.wrap (↑(BitVec.ofInt 64 b &&& BitVec.ofInt 64 4294967295).toNat : Int))).fdiv 4294967296)).fdiv 4294967296) + (IntKind.u64.wrap (IntKind.u64.wrap (↑(BitVec.ofInt 64 (IntKind.u64.wrap (IntKind.u64.wrap (a.fdiv 4294967296 * IntKind.u64.wrap (↑(BitVec.ofInt 64 b &&& BitVec.ofInt 64 4294967295).toNat : Int)) + (IntKind.u64.wrap (IntKind.u64.wrap (↑(BitVec.ofInt 64 a &&& BitVec.ofInt 64 4294967295).toNat : Int) * IntKind.u64.wrap (↑(BitVec.ofInt 64 b &&& BitVec.ofInt 64 4294967295).toNat : Int))).fdiv 4294967296)) &&& BitVec.ofInt 64 4294967295).toNat : Int) + IntKind.u64.wrap (IntKind.u64.wrap (↑(BitVec.ofInt 64 a &&& BitVec.ofInt 64 4294967295).toNat : Int) * b.fdiv 4294967296))).fdiv 4294967296)), T.int IntKind.u64 (IntKind.u64.wrap (a * b))])) := by kernel_rfl
theorem q43 (N : Nat) (l : List (List Int)) : callP env (N + 1) 43 [.sl 1 (l.map fun a => .sl 1 (ints a))] = W [.sl 1 (l.map fun a => .sl 1 (ints a))] (loopL env N 43 3 { tmps := slots 36 [(0, PV.t (T.sl 1 (List.map (fun a => T.sl 1 (ints a)) l))), (3, PV.t (i64 0)), (9, PV.t (T.sl 1 (List.map (fun a => T.sl 1 (ints a)) l))), (10, PV.t (i64 (↑(List.map (fun a => T.sl 1 (ints a)) l).length : Int))), (11, PV.t (i64 0))], heap := [] }) := by kernel_rfl
theorem b43_3 (N : Nat) (l : List (List Int)) (n i : Int) : bodyL env N 43 0 3 (sCc l n i) = bif decide (i < (↑l.length : Int)) then atT (List.map (fun a => T.sl 1 (ints a)) l) i fun e => sllT e fun n_1 => bif decide (IntKind.i64.wrap (n + n_1) < 0) then Res.stuck else Res.ok (Ex.norm, sCc l (IntKind.i64.wrap (n + n_1)) (IntKind.i64.wrap (i + 1))) else Res.ok (Ex.exit 0, { tmps := slots 36 [(0, PV.t (T.sl 1 (List.map (fun a => T.sl 1 (ints a)) l))), (3, PV.t (i64 n))], heap := [] }) := by kernel_rfl
theorem t43_3_exit0 (N : Nat) (l : List (List Int)) (n : Int) : tailL env N 43 0 3 (outK env 43) (.exit 0) (⟨slots 36 [(0, .t (.sl 1 (l.map fun a => .sl 1 (ints a)))), (3, .t (i64 n))], []⟩) = (bif decide (0 ≤ n) && decide ((0 + n.toNat) * 8 ≤ 140737488355328) then Res.ok [] else Res.stuck).bind fun ys => loopL env N 43 11 { tmps := slots 36 [(6, PV.own 0), (25, PV.t (T.sl 1 (List.map (fun a => T.sl 1 (ints a)) l))), (26, PV.t (i64 (↑(List.map (fun a => T.sl 1 (ints a)) l).length : Int))), (27, PV.t (i64 0))], heap := [AObj.row 3 1 ys] } := by kernel_rfl
theorem b43_11 (N : Nat) (l : List (List Int)) (r : List Int) (i : Int) : bodyL env N 43 0 11 (sCc2 l r i) = bif decide (i < (↑l.length : Int)) then atT (List.map (fun a => T.sl 1 (ints a)) l) i fun e => slT 1 e fun ys => chk (decide (((ints r).length + ys.length) * 8 ≤ 140737488355328)) (Res.ok (Ex.norm, { tmps := slots 36 [(6, PV.own 0), (25, PV.t (T.sl 1 (List.map (fun a => T.sl 1 (ints a)) l))), (26, PV.t (i64 (↑l.length : Int))), (27, PV.t (i64 (IntKind.i64.wrap (i + 1))))], heap := [AObj.row 3 1 (ints r ++ ys)] })) else Res.ok (Ex.exit 2, { tmps := slots 36 [(6, PV.own 0)], heap := [AObj.row 3 1 (ints r)] }) := by kernel_rfl
theorem t43_11_exit2 (N : Nat) (l : List (List Int)) (r : List Int) : tailL env N 43 0 11 (outK env 43) (.exit 2) (⟨slots 36 [(6, .own 0)], [.row 3 1 (ints r)]⟩) = Res.ok (T.sl 1 (ints r)) := by kernel_rfl
theorem q103 (N : Nat) (l m : List Int) : callP env (N + 1) 103 [.sl 1 (ints l), .sl 1 (ints m)] = W [.sl 1 (ints l), .sl 1 (ints m)] (loopL env N 103 2 { tmps := slots 36 [(0, PV.t (T.sl 1 (ints l))), (1, PV.t (T.sl 1 (ints m))), (9, PV.t (T.sl 1 (ints l))), (10, PV.t (i64 (↑(ints l).length : Int))), (11, PV.t (i64 0))], heap := [] }) := by kernel_rfl
theorem b103_2 (N : Nat) (l m : List Int) (i : Int) : bodyL env N 103 0 2 (sCm l m i) = bif decide (i < (↑l.length : Int)) then atT (ints l) i fun e => bif decide (i ≥ (↑(ints m).length : Int)) then Res.ok (Ex.ret, { tmps := slots 36 [(4, PV.t (i64 1))], heap := [] }) else atT (ints m) i fun e_1 => cl N 102 [e, e_1] fun x => iT IntKind.i64 x fun a => bif a != 0 then Res.ok (Ex.ret, { tmps := slots 36 [(4, PV.t x)], heap := [] }) else Res.ok (Ex.norm, sCm l m (IntKind.i64.wrap (i + 1))) else Res.ok (Ex.exit 0, { tmps := slots 36 [(0, PV.t (T.sl 1 (ints l))), (1, PV.t (T.sl 1 (ints m)))], heap := [] }) := by kernel_rfl
theorem t103_2_ret (N : Nat) (n : Int) : tailL env N 103 0 2 (outK env 103) (.ret) (⟨slots 36 [(4, .t (i64 n))], []⟩) = rI n := by kernel_rfl
theorem t103_2_exit0 (N : Nat) (l m : List Int) : tailL env N 103 0 2 (outK env 103) (.exit 0) (⟨slots 36 [(0, .t (.sl 1 (ints l))), (1, .t (.sl 1 (ints m)))], []⟩) = bif decide ((↑(ints l).length : Int) < (↑(ints m).length : Int)) then rI (-1) else rI 0 := by kernel_rfl
theorem q102 (N : Nat) (a b : Int) : callP env (N + 1) 102 [i64 a, i64 b] = W [i64 a, i64 b] (cl N 104 [i64 a] fun x => cl N 104 [i64 b] fun x_1 => bT x fun v => bif v then bT x_1 fun v => bif v then rI 0 else rI (-1) else bT x_1 fun v => bif v then rI 1 else bif decide (a < b) then rI (-1) else bif decide (a > b) then rI 1 else rI 0) := by kernel_rfl
theorem q104 (N : Nat) (a : Int) : callP env (N + 1) 104 [i64 a] = W [i64 a] (rB (a != a)) := by kernel_rfl
theorem q74 (N : Nat) (a b : Rt) : callP env (N + 1) 74 [a.t, b.t] = W [a.t, b.t] (chkAll (T.okE 1) [T.fn 82 [T.agg [i64 a.n, i64 a.p.o, T.sl 1 (ints a.p.s), i64 a.p.h, i64 a.p.c, i64 a.f, i64 b.n, i64 b.p.o, T.sl 1 (ints b.p.s), i64 b.p.h, i64 b.p.c, i64 b.f]] [], T.fn 83 [T.agg [i64 a.n, i64 a.p.o, T.sl 1 (ints a.p.s), i64 a.p.h, i64 a.p.c, i64 a.f, i64 b.n, i64 b.p.o, T.sl 1 (ints b.p.s), i64 b.p.h, i64 b.p.c, i64 b.f]] [], T.fn 84 [T.agg [i64 a.n, i64 a.p.o, T.sl 1 (ints a.p.s), i64 a.p.h, i64 a.p.c, i64 a.f, i64 b.n, i64 b.p.o, T.sl 1 (ints b.p.s), i64 b.p.h, i64 b.p.c, i64 b.f]] [], T.fn 85 [T.agg [i64 a.n, i64 a.p.o, T.sl 1 (ints a.p.s), i64 a.p.h, i64 a.p.c, i64 a.f, i64 b.n, i64 b.p.o, T.sl 1 (ints b.p.s), i64 b.p.h, i64 b.p.c, i64 b.f]] [], T.fn 86 [T.agg [i64 a.n, i64 a.p.o, T.sl 1 (ints a.p.s), i64 a.p.h, i64 a.p.c, i64 a.f, i64 b.n, i64 b.p.o, T.sl 1 (ints b.p.s), i64 b.p.h, i64 b.p.c, i64 b.f]] [], T.fn 87 [T.agg [i64 a.n, i64 a.p.o, T.sl 1 (ints a.p.s), i64 a.p.h, i64 a.p.c, i64 a.f, i64 b.n, i64 b.p.o, T.sl 1 (ints b.p.s), i64 b.p.h, i64 b.p.c, i64 b.f]] [], T.fn 88 [T.agg [i64 a.n, i64 a.p.o, T.sl 1 (ints a.p.s), i64 a.p.h, i64 a.p.c, i64 a.f, i64 b.n, i64 b.p.o, T.sl 1 (ints b.p.s), i64 b.p.h, i64 b.p.c, i64 b.f]] []] (loopL env N 74 3 { tmps := slots 38 [(26, PV.own 0), (27, PV.t (i64 (↑7 : Int))), (28, PV.t (i64 0))], heap := [AObj.row 103 1 [T.fn 82 [T.agg [i64 a.n, i64 a.p.o, T.sl 1 (ints a.p.s), i64 a.p.h, i64 a.p.c, i64 a.f, i64 b.n, i64 b.p.o, T.sl 1 (ints b.p.s), i64 b.p.h, i64 b.p.c, i64 b.f]] [], T.fn 83 [T.agg [i64 a.n, i64 a.p.o, T.sl 1 (ints a.p.s), i64 a.p.h, i64 a.p.c, i64 a.f, i64 b.n, i64 b.p.o, T.sl 1 (ints b.p.s), i64 b.p.h, i64 b.p.c, i64 b.f]] [], T.fn 84 [T.agg [i64 a.n, i64 a.p.o, T.sl 1 (ints a.p.s), i64 a.p.h, i64 a.p.c, i64 a.f, i64 b.n, i64 b.p.o, T.sl 1 (ints b.p.s), i64 b.p.h, i64 b.p.c, i64 b.f]] [], T.fn 85 [T.agg [i64 a.n, i64 a.p.o, T.sl 1 (ints a.p.s), i64 a.p.h, i64 a.p.c, i64 a.f, i64 b.n, i64 b.p.o, T.sl 1 (ints b.p.s), i64 b.p.h, i64 b.p.c, i64 b.f]] [], T.fn 86 [T.agg [i64 a.n, i64 a.p.o, T.sl 1 (ints a.p.s), i64 a.p.h, i64 a.p.c, i64 a.f, i64 b.n, i64 b.p.o, T.sl 1 (ints b.p.s), i64 b.p.h, i64 b.p.c, i64 b.f]] [], T.fn 87 [T.agg [i64 a.n, i64 a.p.o, T.sl 1 (ints a.p.s), i64 a.p.h, i64 a.p.c, i64 a.f, i64 b.n, i64 b.p.o, T.sl 1 (ints b.p.s), i64 b.p.h, i64 b.p.c, i64 b.f]] [], T.fn 88 [T.agg [i64 a.n, i64 a.p.o, T.sl 1 (ints a.p.s), i64 a.p.h, i64 a.p.c, i64 a.f, i64 b.n, i64 b.p.o, T.sl 1 (ints b.p.s), i64 b.p.h, i64 b.p.c, i64 b.f]] []]] })) := by kernel_rfl
end Go.Sim

/- What calls come to: printed by wip/tools/eq2.py: route.Compare. -/
namespace Go.Sim
open Go.RowKit Go.Proofs
set_option linter.unusedVariables false
set_option maxRecDepth 100000
variable [Lv]

def twT (a b : Rt) : T := T.agg [i64 a.n, i64 a.p.o, T.sl 1 (ints a.p.s), i64 a.p.h, i64 a.p.c, i64 a.f, i64 b.n, i64 b.p.o, T.sl 1 (ints b.p.s), i64 b.p.h, i64 b.p.c, i64 b.f]
def rowC (a b : Rt) : List T := [T.fn 82 [twT a b] [], T.fn 83 [twT a b] [], T.fn 84 [twT a b] [], T.fn 85 [twT a b] [], T.fn 86 [twT a b] [], T.fn 87 [twT a b] [], T.fn 88 [twT a b] []]
def sRc0 (a b : Rt) : St := ⟨slots 38 [(26, .own 0), (27, .t (i64 7)), (28, .t (i64 0))], [.row 103 1 (rowC a b)]⟩
def sRc1 (a b : Rt) : St := ⟨slots 38 [(26, .own 0), (27, .t (i64 7)), (28, .t (i64 1))], [.row 103 1 (rowC a b)]⟩
def sRc2 (a b : Rt) : St := ⟨slots 38 [(26, .own 0), (27, .t (i64 7)), (28, .t (i64 2))], [.row 103 1 (rowC a b)]⟩
def sRc3 (a b : Rt) : St := ⟨slots 38 [(26, .own 0), (27, .t (i64 7)), (28, .t (i64 3))], [.row 103 1 (rowC a b)]⟩
def sRc4 (a b : Rt) : St := ⟨slots 38 [(26, .own 0), (27, .t (i64 7)), (28, .t (i64 4))], [.row 103 1 (rowC a b)]⟩
def sRc5 (a b : Rt) : St := ⟨slots 38 [(26, .own 0), (27, .t (i64 7)), (28, .t (i64 5))], [.row 103 1 (rowC a b)]⟩
def sRc6 (a b : Rt) : St := ⟨slots 38 [(26, .own 0), (27, .t (i64 7)), (28, .t (i64 6))], [.row 103 1 (rowC a b)]⟩
def sRc7 (a b : Rt) : St := ⟨slots 38 [(26, .own 0), (27, .t (i64 7)), (28, .t (i64 7))], [.row 103 1 (rowC a b)]⟩
theorem b74_3 (N : Nat) (a b : Rt) : bodyL env N 74 0 3 (sRc0 a b) = cl N 82 [T.agg [i64 a.n, i64 a.p.o, T.sl 1 (ints a.p.s), i64 a.p.h, i64 a.p.c, i64 a.f, i64 b.n, i64 b.p.o, T.sl 1 (ints b.p.s), i64 b.p.h, i64 b.p.c, i64 b.f]] fun r => iT IntKind.i64 r fun a_1 => bif a_1 != 0 then Res.ok (Ex.ret, { tmps := slots 38 [(4, PV.t r)], heap := [] }) else Res.ok (Ex.norm, { tmps := slots 38 [(26, PV.own 0), (27, PV.t (i64 7)), (28, PV.t (i64 1))], heap := [AObj.row 103 1 [T.fn 82 [T.agg [i64 a.n, i64 a.p.o, T.sl 1 (ints a.p.s), i64 a.p.h, i64 a.p.c, i64 a.f, i64 b.n, i64 b.p.o, T.sl 1 (ints b.p.s), i64 b.p.h, i64 b.p.c, i64 b.f]] [], T.fn 83 [T.agg [i64 a.n, i64 a.p.o, T.sl 1 (ints a.p.s), i64 a.p.h, i64 a.p.c, i64 a.f, i64 b.n, i64 b.p.o, T.sl 1 (ints b.p.s), i64 b.p.h, i64 b.p.c, i64 b.f]] [], T.fn 84 [T.agg [i64 a.n, i64 a.p.o, T.sl 1 (ints a.p.s), i64 a.p.h, i64 a.p.c, i64 a.f, i64 b.n, i64 b.p.o, T.sl 1 (ints b.p.s), i64 b.p.h, i64 b.p.c, i64 b.f]] [], T.fn 85 [T.agg [i64 a.n, i64 a.p.o, T.sl 1 (ints a.p.s), i64 a.p.h, i64 a.p.c, i64 a.f, i64 b.n, i64 b.p.o, T.sl 1 (ints b.p.s), i64 b.p.h, i64 b.p.c, i64 b.f]] [], T.fn 86 [T.agg [i64 a.n, i64 a.p.o, T.sl 1 (ints a.p.s), i64 a.p.h, i64 a.p.c, i64 a.f, i64 b.n, i64 b.p.o, T.sl 1 (ints b.p.s), i64 b.p.h, i64 b.p.c, i64 b.f]] [], T.fn 87 [T.agg [i64 a.n, i64 a.p.o, T.sl 1 (ints a.p.s), i64 a.p.h, i64 a.p.c, i64 a.f, i64 b.n, i64 b.p.o, T.sl 1 (ints b.p.s), i64 b.p.h, i64 b.p.c, i64 b.f]] [], T.fn 88 [T.agg [i64 a.n, i64 a.p.o, T.sl 1 (ints a.p.s), i64 a.p.h, i64 a.p.c, i64 a.f, i64 b.n, i64 b.p.o, T.sl 1 (ints b.p.s), i64 b.p.h, i64 b.p.c, i64 b.f]] []]] }) := by kernel_rfl
theorem b74_3_2 (N : Nat) (a b : Rt) : bodyL env N 74 0 3 (sRc1 a b) = cl N 83 [T.agg [i64 a.n, i64 a.p.o, T.sl 1 (ints a.p.s), i64 a.p.h, i64 a.p.c, i64 a.f, i64 b.n, i64 b.p.o, T.sl 1 (ints b.p.s), i64 b.p.h, i64 b.p.c, i64 b.f]] fun r => iT IntKind.i64 r fun a_1 => bif a_1 != 0 then Res.ok (Ex.ret, { tmps := slots 38 [(4, PV.t r)], heap := [] }) else Res.ok (Ex.norm, { tmps := slots 38 [(26, PV.own 0), (27, PV.t (i64 7)), (28, PV.t (i64 2))], heap := [AObj.row 103 1 [T.fn 82 [T.agg [i64 a.n, i64 a.p.o, T.sl 1 (ints a.p.s), i64 a.p.h, i64 a.p.c, i64 a.f, i64 b.n, i64 b.p.o, T.sl 1 (ints b.p.s), i64 b.p.h, i64 b.p.c, i64 b.f]] [], T.fn 83 [T.agg [i64 a.n, i64 a.p.o, T.sl 1 (ints a.p.s), i64 a.p.h, i64 a.p.c, i64 a.f, i64 b.n, i64 b.p.o, T.sl 1 (ints b.p.s), i64 b.p.h, i64 b.p.c, i64 b.f]] [], T.fn 84 [T.agg [i64 a.n, i64 a.p.o, T.sl 1 (ints a.p.s), i64 a.p.h, i64 a.p.c, i64 a.f, i64 b.n, i64 b.p.o, T.sl 1 (ints b.p.s), i64 b.p.h, i64 b.p.c, i64 b.f]] [], T.fn 85 [T.agg [i64 a.n, i64 a.p.o, T.sl 1 (ints a.p.s), i64 a.p.h, i64 a.p.c, i64 a.f, i64 b.n, i64 b.p.o, T.sl 1 (ints b.p.s), i64 b.p.h, i64 b.p.c, i64 b.f]] [], T.fn 86 [T.agg [i64 a.n, i64 a.p.o, T.sl 1 (ints a.p.s), i64 a.p.h, i64 a.p.c, i64 a.f, i64 b.n, i64 b.p.o, T.sl 1 (ints b.p.s), i64 b.p.h, i64 b.p.c, i64 b.f]] [], T.fn 87 [T.agg [i64 a.n, i64 a.p.o, T.sl 1 (ints a.p.s), i64 a.p.h, i64 a.p.c, i64 a.f, i64 b.n, i64 b.p.o, T.sl 1 (ints b.p.s), i64 b.p.h, i64 b.p.c, i64 b.f]] [], T.fn 88 [T.agg [i64 a.n, i64 a.p.o, T.sl 1 (ints a.p.s), i64 a.p.h, i64 a.p.c, i64 a.f, i64 b.n, i64 b.p.o, T.sl 1 (ints b.p.s), i64 b.p.h, i64 b.p.c, i64 b.f]] []]] }) := by kernel_rfl
theorem b74_3_3 (N : Nat) (a b : Rt) : bodyL env N 74 0 3 (sRc2 a b) = cl N 84 [T.agg [i64 a.n, i64 a.p.o, T.sl 1 (ints a.p.s), i64 a.p.h, i64 a.p.c, i64 a.f, i64 b.n, i64 b.p.o, T.sl 1 (ints b.p.s), i64 b.p.h, i64 b.p.c, i64 b.f]] fun r => iT IntKind.i64 r fun a_1 => bif a_1 != 0 then Res.ok (Ex.ret, { tmps := slots 38 [(4, PV.t r)], heap := [] }) else Res.ok (Ex.norm, { tmps := slots 38 [(26, PV.own 0), (27, PV.t (i64 7)), (28, PV.t (i64 3))], heap := [AObj.row 103 1 [T.fn 82 [T.agg [i64 a.n, i64 a.p.o, T.sl 1 (ints a.p.s), i64 a.p.h, i64 a.p.c, i64 a.f, i64 b.n, i64 b.p.o, T.sl 1 (ints b.p.s), i64 b.p.h, i64 b.p.c, i64 b.f]] [], T.fn 83 [T.agg [i64 a.n, i64 a.p.o, T.sl 1 (ints a.p.s), i64 a.p.h, i64 a.p.c, i64 a.f, i64 b.n, i64 b.p.o, T.sl 1 (ints b.p.s), i64 b.p.h, i64 b.p.c, i64 b.f]] [], T.fn 84 [T.agg [i64 a.n, i64 a.p.o, T.sl 1 (ints a.p.s), i64 a.p.h, i64 a.p.c, i64 a.f, i64 b.n, i64 b.p.o, T.sl 1 (ints b.p.s), i64 b.p.h, i64 b.p.c, i64 b.f]] [], T.fn 85 [T.agg [i64 a.n, i64 a.p.o, T.sl 1 (ints a.p.s), i64 a.p.h, i64 a.p.c, i64 a.f, i64 b.n, i64 b.p.o, T.sl 1 (ints b.p.s), i64 b.p.h, i64 b.p.c, i64 b.f]] [], T.fn 86 [T.agg [i64 a.n, i64 a.p.o, T.sl 1 (ints a.p.s), i64 a.p.h, i64 a.p.c, i64 a.f, i64 b.n, i64 b.p.o, T.sl 1 (ints b.p.s), i64 b.p.h, i64 b.p.c, i64 b.f]] [], T.fn 87 [T.agg [i64 a.n, i64 a.p.o, T.sl 1 (ints a.p.s), i64 a.p.h, i64 a.p.c, i64 a.f, i64 b.n, i64 b.p.o, T.sl 1 (ints b.p.s), i64 b.p.h, i64 b.p.c, i64 b.f]] [], T.fn 88 [T.agg [i64 a.n, i64 a.p.o, T.sl 1 (ints a.p.s), i64 a.p.h, i64 a.p.c, i64 a.f, i64 b.n, i64 b.p.o, T.sl 1 (ints b.p.s), i64 b.p.h, i64 b.p.c, i64 b.f]] []]] }) := by kernel_rfl
theorem b74_3_4 (N : Nat) (a b : Rt) : bodyL env N 74 0 3 (sRc3 a b) = cl N 85 [T.agg [i64 a.n, i64 a.p.o, T.sl 1 (ints a.p.s), i64 a.p.h, i64 a.p.c, i64 a.f, i64 b.n, i64 b.p.o, T.sl 1 (ints b.p.s), i64 b.p.h, i64 b.p.c, i64 b.f]] fun r => iT IntKind.i64 r fun a_1 => bif a_1 != 0 then Res.ok (Ex.ret, { tmps := slots 38 [(4, PV.t r)], heap := [] }) else Res.ok (Ex.norm, { tmps := slots 38 [(26, PV.own 0), (27, PV.t (i64 7)), (28, PV.t (i64 4))], heap := [AObj.row 103 1 [T.fn 82 [T.agg [i64 a.n, i64 a.p.o, T.sl 1 (ints a.p.s), i64 a.p.h, i64 a.p.c, i64 a.f, i64 b.n, i64 b.p.o, T.sl 1 (ints b.p.s), i64 b.p.h, i64 b.p.c, i64 b.f]] [], T.fn 83 [T.agg [i64 a.n, i64 a.p.o, T.sl 1 (ints a.p.s), i64 a.p.h, i64 a.p.c, i64 a.f, i64 b.n, i64 b.p.o, T.sl 1 (ints b.p.s), i64 b.p.h, i64 b.p.c, i64 b.f]] [], T.fn 84 [T.agg [i64 a.n, i64 a.p.o, T.sl 1 (ints a.p.s), i64 a.p.h, i64 a.p.c, i64 a.f, i64 b.n, i64 b.p.o, T.sl 1 (ints b.p.s), i64 b.p.h, i64 b.p.c, i64 b.f]] [], T.fn 85 [T.agg [i64 a.n, i64 a.p.o, T.sl 1 (ints a.p.s), i64 a.p.h, i64 a.p.c, i64 a.f, i64 b.n, i64 b.p.o, T.sl 1 (ints b.p.s), i64 b.p.h, i64 b.p.c, i64 b.f]] [], T.fn 86 [T.agg [i64 a.n, i64 a.p.o, T.sl 1 (ints a.p.s), i64 a.p.h, i64 a.p.c, i64 a.f, i64 b.n, i64 b.p.o, T.sl 1 (ints b.p.s), i64 b.p.h, i64 b.p.c, i64 b.f]] [], T.fn 87 [T.agg [i64 a.n, i64 a.p.o, T.sl 1 (ints a.p.s), i64 a.p.h, i64 a.p.c, i64 a.f, i64 b.n, i64 b.p.o, T.sl 1 (ints b.p.s), i64 b.p.h, i64 b.p.c, i64 b.f]] [], T.fn 88 [T.agg [i64 a.n, i64 a.p.o, T.sl 1 (ints a.p.s), i64 a.p.h, i64 a.p.c, i64 a.f, i64 b.n, i64 b.p.o, T.sl 1 (ints b.p.s), i64 b.p.h, i64 b.p.c, i64 b.f]] []]] }) := by kernel_rfl
theorem b74_3_5 (N : Nat) (a b : Rt) : bodyL env N 74 0 3 (sRc4 a b) = cl N 86 [T.agg [i64 a.n, i64 a.p.o, T.sl 1 (ints a.p.s), i64 a.p.h, i64 a.p.c, i64 a.f, i64 b.n, i64 b.p.o, T.sl 1 (ints b.p.s), i64 b.p.h, i64 b.p.c, i64 b.f]] fun r => iT IntKind.i64 r fun a_1 => bif a_1 != 0 then Res.ok (Ex.ret, { tmps := slots 38 [(4, PV.t r)], heap := [] }) else Res.ok (Ex.norm, { tmps := slots 38 [(26, PV.own 0), (27, PV.t (i64 7)), (28, PV.t (i64 5))], heap := [AObj.row 103 1 [T.fn 82 [T.agg [i64 a.n, i64 a.p.o, T.sl 1 (ints a.p.s), i64 a.p.h, i64 a.p.c, i64 a.f, i64 b.n, i64 b.p.o, T.sl 1 (ints b.p.s), i64 b.p.h, i64 b.p.c, i64 b.f]] [], T.fn 83 [T.agg [i64 a.n, i64 a.p.o, T.sl 1 (ints a.p.s), i64 a.p.h, i64 a.p.c, i64 a.f, i64 b.n, i64 b.p.o, T.sl 1 (ints b.p.s), i64 b.p.h, i64 b.p.c, i64 b.f]] [], T.fn 84 [T.agg [i64 a.n, i64 a.p.o, T.sl 1 (ints a.p.s), i64 a.p.h, i64 a.p.c, i64 a.f, i64 b.n, i64 b.p.o, T.sl 1 (ints b.p.s), i64 b.p.h, i64 b.p.c, i64 b.f]] [], T.fn 85 [T.agg [i64 a.n, i64 a.p.o, T.sl 1 (ints a.p.s), i64 a.p.h, i64 a.p.c, i64 a.f, i64 b.n, i64 b.p.o, T.sl 1 (ints b.p.s), i64 b.p.h, i64 b.p.c, i64 b.f]] [], T.fn 86 [T.agg [i64 a.n, i64 a.p.o, T.sl 1 (ints a.p.s), i64 a.p.h, i64 a.p.c, i64 a.f, i64 b.n, i64 b.p.o, T.sl 1 (ints b.p.s), i64 b.p.h, i64 b.p.c, i64 b.f]] [], T.fn 87 [T.agg [i64 a.n, i64 a.p.o, T.sl 1 (ints a.p.s), i64 a.p.h, i64 a.p.c, i64 a.f, i64 b.n, i64 b.p.o, T.sl 1 (ints b.p.s), i64 b.p.h, i64 b.p.c, i64 b.f]] [], T.fn 88 [T.agg [i64 a.n, i64 a.p.o, T.sl 1 (ints a.p.s), i64 a.p.h, i64 a.p.c, i64 a.f, i64 b.n, i64 b.p.o, T.sl 1 (ints b.p.s), i64 b.p.h, i64 b.p.c, i64 b.f]] []]] }) := by kernel_rfl
theorem b74_3_6 (N : Nat) (a b : Rt) : bodyL env N 74 0 3 (sRc5 a b) = cl N 87 [T.agg [i64 a.n, i64 a.p.o, T.sl 1 (ints a.p.s), i64 a.p.h, i64 a.p.c, i64 a.f, i64 b.n, i64 b.p.o, T.sl 1 (ints b.p.s), i64 b.p.h, i64 b.p.c, i64 b.f]] fun r => iT IntKind.i64 r fun a_1 => bif a_1 != 0 then Res.ok (Ex.ret, { tmps := slots 38 [(4, PV.t r)], heap := [] }) else Res.ok (Ex.norm, { tmps := slots 38 [(26, PV.own 0), (27, PV.t (i64 7)), (28, PV.t (i64 6))], heap := [AObj.row 103 1 [T.fn 82 [T.agg [i64 a.n, i64 a.p.o, T.sl 1 (ints a.p.s), i64 a.p.h, i64 a.p.c, i64 a.f, i64 b.n, i64 b.p.o, T.sl 1 (ints b.p.s), i64 b.p.h, i64 b.p.c, i64 b.f]] [], T.fn 83 [T.agg [i64 a.n, i64 a.p.o, T.sl 1 (ints a.p.s), i64 a.p.h, i64 a.p.c, i64 a.f, i64 b.n, i64 b.p.o, T.sl 1 (ints b.p.s), i64 b.p.h, i64 b.p.c, i64 b.f]] [], T.fn 84 [T.agg [i64 a.n, i64 a.p.o, T.sl 1 (ints a.p.s), i64 a.p.h, i64 a.p.c, i64 a.f, i64 b.n, i64 b.p.o, T.sl 1 (ints b.p.s), i64 b.p.h, i64 b.p.c, i64 b.f]] [], T.fn 85 [T.agg [i64 a.n, i64 a.p.o, T.sl 1 (ints a.p.s), i64 a.p.h, i64 a.p.c, i64 a.f, i64 b.n, i64 b.p.o, T.sl 1 (ints b.p.s), i64 b.p.h, i64 b.p.c, i64 b.f]] [], T.fn 86 [T.agg [i64 a.n, i64 a.p.o, T.sl 1 (ints a.p.s), i64 a.p.h, i64 a.p.c, i64 a.f, i64 b.n, i64 b.p.o, T.sl 1 (ints b.p.s), i64 b.p.h, i64 b.p.c, i64 b.f]] [], T.fn 87 [T.agg [i64 a.n, i64 a.p.o, T.sl 1 (ints a.p.s), i64 a.p.h, i64 a.p.c, i64 a.f, i64 b.n, i64 b.p.o, T.sl 1 (ints b.p.s), i64 b.p.h, i64 b.p.c, i64 b.f]] [], T.fn 88 [T.agg [i64 a.n, i64 a.p.o, T.sl 1 (ints a.p.s), i64 a.p.h, i64 a.p.c, i64 a.f, i64 b.n, i64 b.p.o, T.sl 1 (ints b.p.s), i64 b.p.h, i64 b.p.c, i64 b.f]] []]] }) := by kernel_rfl
theorem b74_3_7 (N : Nat) (a b : Rt) : bodyL env N 74 0 3 (sRc6 a b) = cl N 88 [T.agg [i64 a.n, i64 a.p.o, T.sl 1 (ints a.p.s), i64 a.p.h, i64 a.p.c, i64 a.f, i64 b.n, i64 b.p.o, T.sl 1 (ints b.p.s), i64 b.p.h, i64 b.p.c, i64 b.f]] fun r => iT IntKind.i64 r fun a_1 => bif a_1 != 0 then Res.ok (Ex.ret, { tmps := slots 38 [(4, PV.t r)], heap := [] }) else Res.ok (Ex.norm, { tmps := slots 38 [(26, PV.own 0), (27, PV.t (i64 7)), (28, PV.t (i64 7))], heap := [AObj.row 103 1 [T.fn 82 [T.agg [i64 a.n, i64 a.p.o, T.sl 1 (ints a.p.s), i64 a.p.h, i64 a.p.c, i64 a.f, i64 b.n, i64 b.p.o, T.sl 1 (ints b.p.s), i64 b.p.h, i64 b.p.c, i64 b.f]] [], T.fn 83 [T.agg [i64 a.n, i64 a.p.o, T.sl 1 (ints a.p.s), i64 a.p.h, i64 a.p.c, i64 a.f, i64 b.n, i64 b.p.o, T.sl 1 (ints b.p.s), i64 b.p.h, i64 b.p.c, i64 b.f]] [], T.fn 84 [T.agg [i64 a.n, i64 a.p.o, T.sl 1 (ints a.p.s), i64 a.p.h, i64 a.p.c, i64 a.f, i64 b.n, i64 b.p.o, T.sl 1 (ints b.p.s), i64 b.p.h, i64 b.p.c, i64 b.f]] [], T.fn 85 [T.agg [i64 a.n, i64 a.p.o, T.sl 1 (ints a.p.s), i64 a.p.h, i64 a.p.c, i64 a.f, i64 b.n, i64 b.p.o, T.sl 1 (ints b.p.s), i64 b.p.h, i64 b.p.c, i64 b.f]] [], T.fn 86 [T.agg [i64 a.n, i64 a.p.o, T.sl 1 (ints a.p.s), i64 a.p.h, i64 a.p.c, i64 a.f, i64 b.n, i64 b.p.o, T.sl 1 (ints b.p.s), i64 b.p.h, i64 b.p.c, i64 b.f]] [], T.fn 87 [T.agg [i64 a.n, i64 a.p.o, T.sl 1 (ints a.p.s), i64 a.p.h, i64 a.p.c, i64 a.f, i64 b.n, i64 b.p.o, T.sl 1 (ints b.p.s), i64 b.p.h, i64 b.p.c, i64 b.f]] [], T.fn 88 [T.agg [i64 a.n, i64 a.p.o, T.sl 1 (ints a.p.s), i64 a.p.h, i64 a.p.c, i64 a.f, i64 b.n, i64 b.p.o, T.sl 1 (ints b.p.s), i64 b.p.h, i64 b.p.c, i64 b.f]] []]] }) := by kernel_rfl
theorem b74_3_8 (N : Nat) (a b : Rt) : bodyL env N 74 0 3 (sRc7 a b) = Res.ok (Ex.exit 0, { tmps := slots 38 [], heap := [] }) := by kernel_rfl
theorem t74_3_ret (N : Nat) (n : Int) : tailL env N 74 0 3 (outK env 74) (.ret) (⟨slots 38 [(4, .t (i64 n))], []⟩) = rI n := by kernel_rfl
theorem t74_3_exit0 (N : Nat)  : tailL env N 74 0 3 (outK env 74) (.exit 0) (⟨slots 38 [], []⟩) = rI 0 := by kernel_rfl
theorem q82 (N : Nat) (a b : Rt) : callP env (N + 1) 82 [twT a b] = W [twT a b] (cl N 102 [i64 b.n, i64 a.n] fun x => Res.ok x) := by kernel_rfl
theorem q83 (N : Nat) (a b : Rt) : callP env (N + 1) 83 [twT a b] = W [twT a b] (cl N 102 [i64 (↑(ints a.p.s).length : Int), i64 (↑(ints b.p.s).length : Int)] fun x => Res.ok x) := by kernel_rfl
theorem q84 (N : Nat) (a b : Rt) : callP env (N + 1) 84 [twT a b] = W [twT a b] (cl N 102 [i64 a.p.o, i64 b.p.o] fun x => Res.ok x) := by kernel_rfl
theorem q85 (N : Nat) (a b : Rt) : callP env (N + 1) 85 [twT a b] = W [twT a b] (cl N 103 [T.sl 1 (ints a.p.s), T.sl 1 (ints b.p.s)] fun x => Res.ok x) := by kernel_rfl
theorem q86 (N : Nat) (a b : Rt) : callP env (N + 1) 86 [twT a b] = W [twT a b] (cl N 102 [i64 a.p.h, i64 b.p.h] fun x => Res.ok x) := by kernel_rfl
theorem q87 (N : Nat) (a b : Rt) : callP env (N + 1) 87 [twT a b] = W [twT a b] (cl N 102 [i64 a.p.c, i64 b.p.c] fun x => Res.ok x) := by kernel_rfl
theorem q88 (N : Nat) (a b : Rt) : callP env (N + 1) 88 [twT a b] = W [twT a b] (cl N 102 [i64 a.f, i64 b.f] fun x => Res.ok x) := by kernel_rfl
end Go.Sim

/- What layer 9, role.Out, slices.Repeat, slices.Concat and slices.Compare answer. -/
namespace Go.Sim
open Go.RowKit Go.Proofs
set_option linter.unusedVariables false
set_option linter.unusedSimpArgs false
set_option linter.unusedSectionVars false
set_option maxRecDepth 100000

theorem iter_fnz {B : St → Res (Ex × St)} {R : Int → St} {X : St} {id : Nat} {S : Nat → St} : ∀ (vs : List Int) (k n : Nat), (∀ j v, vs[j]? = some v → B (S (k + j)) = if v = 0 then .ok (.norm, S (k + j + 1)) else .ok (.ret, R v)) → B (S (k + vs.length)) = .ok (.exit id, X) → vs.length < n →
    iterR B n (S k) = if fnz vs = 0 then .ok (.exit id, X) else .ok (.ret, R (fnz vs))
  | [], k, n, h, hx, hn => by
    obtain ⟨n, rfl⟩ : ∃ m, n = m + 1 := ⟨n - 1, by omega⟩
    simp only [fnz, if_true]
    exact iterR_exit hx
  | v :: vs, k, n, h, hx, hn => by
    simp only [List.length_cons] at hn
    obtain ⟨n, rfl⟩ : ∃ m, n = m + 1 := ⟨n - 1, by omega⟩
    have h0 := h 0 v rfl
    simp only [Nat.add_zero] at h0
    by_cases hv : v = 0
    · rw [if_pos hv] at h0
      rw [iterR_step h0, iter_fnz vs (k + 1) n (fun j u hu => by have := h (j + 1) u (by simpa using hu); rw [show k + 1 + j = k + (j + 1) by omega]; exact this) (by rw [show k + 1 + vs.length = k + (v :: vs).length by simp; omega]; exact hx) (by omega)]
      simp only [fnz, hv, if_true]
    · rw [if_neg hv] at h0
      rw [iterR_ret h0]
      simp only [fnz, hv, if_false]
theorem foldl_app {α : Type} : ∀ (l : List (List α)) (r : List α), l.foldl (fun r a => r ++ a) r = r ++ l.flatten
  | [], r => by simp
  | a :: l, r => by rw [List.foldl_cons, foldl_app l]; simp
theorem foldl_len : ∀ (l : List (List Int)) (n : Nat), l.foldl (fun n a => n + a.length) n = n + l.flatten.length
  | [], n => by simp
  | a :: l, n => by rw [List.foldl_cons, foldl_len l]; simp; omega
theorem flat_take {α : Type} {l : List (List α)} {j : Nat} {a : List α} (h : l[j]? = some a) : (l.take j).flatten.length + a.length ≤ l.flatten.length := by
  have h1 := (List.getElem?_eq_some_iff.1 h)
  have : l.flatten.length = (l.take (j + 1)).flatten.length + (l.drop (j + 1)).flatten.length := by
    rw [← List.length_append, ← List.flatten_append, List.take_append_drop]
  rw [this, List.take_succ_eq_append_getElem h1.1, List.flatten_append, List.length_append, h1.2]
  simp
theorem take_flat {α : Type} {l : List (List α)} {j : Nat} {a : List α} (h : l[j]? = some a) : (l.take (j + 1)).flatten = (l.take j).flatten ++ a := by
  have h1 := (List.getElem?_eq_some_iff.1 h)
  rw [List.take_succ_eq_append_getElem h1.1, List.flatten_append, h1.2]
  simp
variable [Lv]
theorem f102_ok {M : Nat} {a b : Int} (hM : 1 ≤ M) (ha : ok64 a = true) (hb : ok64 b = true) : callP env (M + 1) 102 [i64 a, i64 b] = .ok (i64 (cmpI a b)) := by
  obtain ⟨m, rfl⟩ := exM hM
  have nn : ∀ {a : Int}, ok64 a = true → callP env (m + 1) 104 [i64 a] = .ok (.bool false) := fun {a} h => by rw [q104, W_ok (wfs1 (wf_int h)), bne_self_eq_false]
  rw [q102, W_ok (wfs2 (wf_int ha) (wf_int hb)), cl_ok (nn ha), cl_ok (nn hb)]
  simp only [bT_bool, cond_false]
  unfold cmpI
  by_cases h : a < b
  · rw [decide_eq_true h, if_pos h]; rfl
  · rw [decide_eq_false h, if_neg h]
    by_cases h2 : b < a
    · rw [decide_eq_true (show a > b from h2), if_pos h2]; rfl
    · rw [decide_eq_false (show ¬ a > b from h2), if_neg h2]; rfl
theorem cmp_ok (a b : Int) : ok64 (cmpI a b) = true := by
  unfold cmpI
  split
  · rfl
  · split <;> rfl
theorem f103_ok {M : Nat} {l m : List Int} (hM : big + 2 ≤ M) (hl : okL okI l) (hm : okL okI m) : callP env (M + 1) 103 [.sl 1 (ints l), .sl 1 (ints m)] = .ok (i64 (cmpL l m)) := by
  rw [q103, W_ok (wfs2 (wf_ints hl) (wf_ints hm))]
  have hbl := hl.1
  have hbm := hm.1
  have main : ∀ (r : List Int) (i n : Nat), l.drop i = r → i ≤ l.length → r.length < n →
      (iterR (bodyL env M 103 0 2) n (sCm l m i)).bind (fun p => tailL env M 103 0 2 (outK env 103) p.1 p.2) = rI (cmpL r (m.drop i)) := by
    intro r
    induction r with
    | nil =>
      intro i n hd hi hn
      obtain ⟨n, rfl⟩ : ∃ m, n = m + 1 := ⟨n - 1, by omega⟩
      have hil : i = l.length := by have := congrArg List.length hd; simp at this; omega
      subst hil
      have hb : bodyL env M 103 0 2 (sCm l m (l.length : Int)) = .ok (.exit 0, ⟨slots 36 [(0, .t (.sl 1 (ints l))), (1, .t (.sl 1 (ints m)))], []⟩) := by
        rw [b103_2, decide_eq_false (by omega)]; rfl
      rw [iterR_exit hb]
      refine (t103_2_exit0 M l m).trans ?_
      rw [ints_map, ints_map, List.length_map, List.length_map]
      by_cases h : l.length < m.length
      · rw [decide_eq_true (by omega)]
        cases hdm : m.drop l.length with
        | nil => have := congrArg List.length hdm; simp at this; omega
        | cons => rfl
      · rw [decide_eq_false (by omega), List.drop_eq_nil_of_le (by omega)]; rfl
    | cons x r ih =>
      intro i n hd hi hn
      simp only [List.length_cons] at hn
      obtain ⟨n, rfl⟩ : ∃ m, n = m + 1 := ⟨n - 1, by omega⟩
      have hil : i < l.length := by have := congrArg List.length hd; simp at this; omega
      have hx : l[i]? = some x := by have := congrArg (fun z => z[0]?) hd; simpa using this
      have hd' : l.drop (i + 1) = r := by rw [← List.drop_drop, hd]; rfl
      have hb := b103_2 M l m i
      rw [decide_eq_true (by omega)] at hb
      simp only [cond_true] at hb
      rw [atT_get (ints_get hx), ints_map, List.length_map] at hb
      by_cases him : i < m.length
      case neg =>
        rw [decide_eq_true (by omega)] at hb
        rw [List.drop_eq_nil_of_le (show m.length ≤ i by omega), iterR_ret hb]
        exact t103_2_ret M 1
      have hy : m[i]? = some m[i] := List.getElem?_eq_getElem him
      rw [decide_eq_false (by omega)] at hb
      simp only [cond_false] at hb
      rw [← ints_map, atT_get (ints_get hy)] at hb
      obtain ⟨m', rfl⟩ := exM (show 1 ≤ M by omega)
      rw [cl_ok (f102_ok (by omega) (hl.2 x (List.mem_of_getElem? hx)) (hm.2 _ (List.mem_of_getElem? hy)))] at hb
      simp only [iT_int] at hb
      rw [show m.drop i = m[i] :: m.drop (i + 1) from List.drop_eq_getElem_cons him]
      simp only [cmpL]
      by_cases hc : x = m[i]
      · rw [cmpI_zero.2 hc, show ((0 : Int) != 0) = false from rfl, wrap_succ (show i ≤ big by omega)] at hb
        rw [if_pos hc, iterR_step hb]
        exact ih (i + 1) n hd' (by omega) (by omega)
      · rw [bne_iff_ne.2 (fun h => hc (cmpI_zero.1 h))] at hb
        rw [if_neg hc, iterR_ret hb]
        exact t103_2_ret (m' + 1) (cmpI x m[i])
  have := main l 0 M rfl (Nat.zero_le _) (by omega)
  rw [List.drop_zero] at this
  rw [show ((ints l).length : Int) = (l.length : Int) by rw [ints_map, List.length_map]]
  exact this
theorem wf_two {a b : Rt} (ha : a.ok) (hb : b.ok) : T.wfs [twT a b] = true := by
  have h1 := ha.wf; have h2 := hb.wf
  simp only [Rt.t, T.wf, T.wfs, Bool.and_true, Bool.and_eq_true] at h1 h2
  simp [twT, T.wf, T.wfs, h1, h2]
def sRc (a b : Rt) (i : Nat) : St := ⟨slots 38 [(26, .own 0), (27, .t (i64 7)), (28, .t (i64 i))], [.row 103 1 (rowC a b)]⟩
set_option maxHeartbeats 4000000 in
theorem f74_ok {M : Nat} {a b : Rt} (hM : big + 4 ≤ M) (ha : a.ok) (hb : b.ok) : callP env (M + 1) 74 [a.t, b.t] = .ok (i64 (cmpR a b)) := by
  obtain ⟨m, rfl⟩ := exM (show 1 ≤ M by omega)
  have hw := wf_two ha hb
  have ni : ∀ n : Nat, n ≤ big → ok64 (n : Int) = true := fun n hn => ok64_iff.2 (by have := big_val; omega)
  have la := pa_ints ha.p
  have lb := pa_ints hb.p
  have m1 : callP env (m + 1) 82 [twT a b] = .ok (i64 (cmpI b.n a.n)) := by
    obtain ⟨m, rfl⟩ := exM (show 1 ≤ m by omega)
    rw [q82, W_ok hw, cl_ok (f102_ok (by omega) hb.n ha.n)]
  have m2 : callP env (m + 1) 83 [twT a b] = .ok (i64 (cmpI a.p.s.length b.p.s.length)) := by
    obtain ⟨m, rfl⟩ := exM (show 1 ≤ m by omega)
    rw [q83, W_ok hw, ints_map, ints_map, List.length_map, List.length_map, cl_ok (f102_ok (by omega) (ni _ la.1) (ni _ lb.1))]
  have m3 : callP env (m + 1) 84 [twT a b] = .ok (i64 (cmpI a.p.o b.p.o)) := by
    obtain ⟨m, rfl⟩ := exM (show 1 ≤ m by omega)
    rw [q84, W_ok hw, cl_ok (f102_ok (by omega) ha.p.o hb.p.o)]
  have m4 : callP env (m + 1) 85 [twT a b] = .ok (i64 (cmpL a.p.s b.p.s)) := by
    obtain ⟨m, rfl⟩ := exM (show 1 ≤ m by omega)
    rw [q85, W_ok hw, cl_ok (f103_ok (by omega) la lb)]
  have m5 : callP env (m + 1) 86 [twT a b] = .ok (i64 (cmpI a.p.h b.p.h)) := by
    obtain ⟨m, rfl⟩ := exM (show 1 ≤ m by omega)
    rw [q86, W_ok hw, cl_ok (f102_ok (by omega) ha.p.h hb.p.h)]
  have m6 : callP env (m + 1) 87 [twT a b] = .ok (i64 (cmpI a.p.c b.p.c)) := by
    obtain ⟨m, rfl⟩ := exM (show 1 ≤ m by omega)
    rw [q87, W_ok hw, cl_ok (f102_ok (by omega) ha.p.c hb.p.c)]
  have m7 : callP env (m + 1) 88 [twT a b] = .ok (i64 (cmpI a.f b.f)) := by
    obtain ⟨m, rfl⟩ := exM (show 1 ≤ m by omega)
    rw [q88, W_ok hw, cl_ok (f102_ok (by omega) ha.f hb.f)]
  have rnd : ∀ {f : FuncId} {ts : List T} {v : Int} {S : St}, callP env (m + 1) f ts = .ok (i64 v) →
      (cl (m + 1) f ts fun r => iT .i64 r fun a => bif a != 0 then (.ok (.ret, ⟨slots 38 [(4, .t r)], []⟩) : Res (Ex × St)) else .ok (.norm, S)) = if v = 0 then .ok (.norm, S) else .ok (.ret, ⟨slots 38 [(4, .t (i64 v))], []⟩) := fun {f ts v S} h => by
    rw [cl_ok h]
    simp only [iT_int]
    by_cases hv : v = 0
    · rw [if_pos hv, hv]; rfl
    · rw [if_neg hv, bne_iff_ne.2 hv]; rfl
  rw [q74, W_ok (wfs2 ha.wf hb.wf)]
  refine Eq.trans (show _ = loopL env (m + 1) 74 3 (sRc a b 0) from rfl) ?_
  have it := iter_fnz (B := bodyL env (m + 1) 74 0 3) (R := fun v => ⟨slots 38 [(4, .t (i64 v))], []⟩) (X := ⟨slots 38 [], []⟩) (id := 0) (S := sRc a b)
    [cmpI b.n a.n, cmpI a.p.s.length b.p.s.length, cmpI a.p.o b.p.o, cmpL a.p.s b.p.s, cmpI a.p.h b.p.h, cmpI a.p.c b.p.c, cmpI a.f b.f] 0 (m + 1) (fun j v hj => ?_) (b74_3_8 (m + 1) a b) (show 7 < m + 1 by have := big_val; omega)
  · unfold cmpR
    generalize fnz [cmpI b.n a.n, cmpI a.p.s.length b.p.s.length, cmpI a.p.o b.p.o, cmpL a.p.s b.p.s, cmpI a.p.h b.p.h, cmpI a.p.c b.p.c, cmpI a.f b.f] = v at it ⊢
    by_cases hv : v = 0
    · rw [if_pos hv] at it
      rw [hv]
      exact (loopL_end it).trans (t74_3_exit0 (m + 1))
    · rw [if_neg hv] at it
      exact (loopL_end it).trans (t74_3_ret (m + 1) v)
  · have hj7 : j < 7 := (List.getElem?_eq_some_iff.1 hj).1
    rw [Nat.zero_add]
    have hc : j = 0 ∨ j = 1 ∨ j = 2 ∨ j = 3 ∨ j = 4 ∨ j = 5 ∨ j = 6 := by omega
    clear hj7
    rcases hc with rfl | rfl | rfl | rfl | rfl | rfl | rfl
    all_goals simp only [List.getElem?_cons_zero, List.getElem?_cons_succ, Option.some.injEq] at hj; subst hj
    · exact (b74_3 (m + 1) a b).trans (rnd (S := sRc a b 1) m1)
    · exact (b74_3_2 (m + 1) a b).trans (rnd (S := sRc a b 2) m2)
    · exact (b74_3_3 (m + 1) a b).trans (rnd (S := sRc a b 3) m3)
    · exact (b74_3_4 (m + 1) a b).trans (rnd (S := sRc a b 4) m4)
    · exact (b74_3_5 (m + 1) a b).trans (rnd (S := sRc a b 5) m5)
    · exact (b74_3_6 (m + 1) a b).trans (rnd (S := sRc a b 6) m6)
    · exact (b74_3_7 (m + 1) a b).trans (rnd (S := sRc a b 7) m7)
theorem ownR_ok {h : Int} (hh : ok64 h = true) : (ownR h).ok := ⟨rfl, ⟨rfl, Nat.zero_le _, fun _ h => (by cases h), hh, rfl⟩, rfl⟩
theorem f64_ok {M : Nat} {n : Int} (h : ok64 n = true) : callP env (M + 1) 64 [i64 n] = .ok (ownR n).t := by
  rw [q64, W_ok (wfs1 (wf_int h))]; rfl
theorem f63_ok {M : Nat} {a b : Rt} (hM : big + 5 ≤ M) (ha : a.ok) (hb : b.ok) : callP env (M + 1) 63 [a.t, b.t] = .ok (.bool (cmpR a b == 0)) := by
  obtain ⟨m, rfl⟩ := exM (show 1 ≤ M by omega)
  rw [q63, W_ok (wfs2 ha.wf hb.wf), clI_ok (f74_ok (by omega) ha hb)]
theorem f37_ok {M : Nat} {r : Rt} (hM : big + 6 ≤ M) (h : r.ok) : callP env (M + 1) 37 [r.t] = .ok (.bool (rtsane r)) := by
  obtain ⟨m, rfl⟩ := exM (show 1 ≤ M by omega)
  have ho := f64_ok (M := m) h.p.h
  rw [q37, W_ok (wfs1 h.wf), clB_ok (f21_ok (by omega) h.p)]
  unfold rtsane
  cases asane7 r.p with
  | false => rfl
  | true =>
  have hl : ((ints r.p.s).length : Int) = (r.p.s.length : Int) := by rw [ints_map, List.length_map]
  rw [hl]
  by_cases h1 : r.p.s.length ≤ 32
  case neg => rw [decide_eq_true (show (r.p.s.length : Int) > 32 by omega), decide_eq_false h1]; rfl
  rw [decide_eq_false (show ¬ (r.p.s.length : Int) > 32 by omega), decide_eq_true h1]
  simp only [Bool.not_true, cond_false, Bool.true_and]
  by_cases h2 : r.f = -1
  · rw [beq_iff_eq.2 h2, if_pos h2]
    simp only [cond_true]
    rw [cl_ok ho, cl_ok (f63_ok (by omega) h (ownR_ok h.p.h))]
  · rw [beq_eq_false_iff_ne.2 h2, if_neg h2]
    simp only [cond_false, and_rB]
theorem f41_ok {M : Nat} {a b c : Int} (hM : 1 ≤ M) (ha : ok64 a = true) (hb : ok64 b = true) (hc : ok64 c = true) : callP env (M + 1) 41 [i64 a, i64 b, i64 c] = .ok (.tup [i64 ((roleOut a b c).getD 0), .bool (roleOut a b c).isSome]) := by
  obtain ⟨m, rfl⟩ := exM hM
  have ho := f54_ok (M := m) hc hb
  rw [q41, W_ok (wfs3 (wf_int ha) (wf_int hb) (wf_int hc))]
  unfold roleOut
  by_cases h1 : a = 1
  · rw [beq_iff_eq.2 h1, if_pos h1]; simp only [cond_true]; rw [cl_ok ho]; rfl
  rw [beq_eq_false_iff_ne.2 h1, if_neg h1]; simp only [cond_false]
  by_cases h2 : a = 2
  · rw [beq_iff_eq.2 h2, if_pos h2]; simp only [cond_true]
    by_cases he : c = 0
    · rw [beq_iff_eq.2 he, if_pos he]; simp only [cond_true]; rw [cl_ok ho]; rfl
    · rw [beq_eq_false_iff_ne.2 he, if_neg he, beq_eq_false_iff_ne.2 (show a ≠ 3 by omega)]; rfl
  rw [beq_eq_false_iff_ne.2 h2, if_neg h2]; simp only [cond_false]
  by_cases h3 : a = 3
  · rw [beq_iff_eq.2 h3, if_pos h3]; simp only [cond_true]
    by_cases he : c = 0
    · rw [beq_iff_eq.2 he, if_pos he]; rfl
    · rw [beq_eq_false_iff_ne.2 he, if_neg he]; rfl
  · rw [beq_eq_false_iff_ne.2 h3, if_neg h3]; rfl
theorem f43_ok {M : Nat} {l : List (List Int)} (hM : l.length + 2 ≤ M) (hl : okL (okL okI) l) (hs : l.flatten.length * 8 ≤ big) : callP env (M + 1) 43 [.sl 1 (l.map fun a => .sl 1 (ints a))] = .ok (.sl 1 (ints l.flatten)) := by
  have hb := big_val
  have h1 := hl.1
  have hw : (T.sl 1 (l.map fun a => T.sl 1 (ints a))).wf = true := wf_okL (f := fun a => T.sl 1 (ints a)) (p := okL okI) (fun x hx => wf_ints hx) hl
  rw [q43, W_ok (wfs1 hw)]
  have i1 := iter_fold (B := bodyL env M 43 0 3) (S := fun (n : Nat) i => sCc l n i) (X := fun n => ⟨slots 36 [(0, PV.t (T.sl 1 (List.map (fun a => T.sl 1 (ints a)) l))), (3, PV.t (i64 n))], []⟩) (id := 0)
    (fun n j => n = (l.take j).flatten.length) (fun n (a : List Int) => n + a.length) l (n := M) 0 (by omega) (fun n j a hj hI => by
      have hjl := (List.getElem?_eq_some_iff.1 hj).1
      have hf := flat_take hj
      rw [← hI] at hf
      refine ⟨?_, ?_⟩
      · show bodyL env M 43 0 3 (sCc l n j) = _
        rw [b43_3, decide_eq_true (by omega)]
        simp only [cond_true]
        rw [atT_get (map_get (f := fun a => T.sl 1 (ints a)) hj)]
        have e : sllT (T.sl 1 (ints a)) = fun (K : Int → Res (Ex × St)) => K (a.length : Int) := by funext K; show K ((ints a).length : Int) = _; rw [ints_map, List.length_map]
        rw [e]
        simp only []
        rw [show ((n : Int) + (a.length : Int)) = ((n + a.length : Nat) : Int) by omega, wrap_nat (by omega), decide_eq_false (by omega), wrap_succ (show j ≤ big by omega)]
        rfl
      · rw [take_flat hj, List.length_append, hI]) (fun n hI => by
      show bodyL env M 43 0 3 (sCc l n l.length) = _
      rw [b43_3, decide_eq_false (by omega)]; rfl) rfl
  have e1 := i1.1
  rw [foldl_len, Nat.zero_add] at e1
  rw [show ((List.map (fun a => T.sl 1 (ints a)) l).length : Int) = (l.length : Int) by rw [List.length_map]]
  refine (loopL_end e1).trans ?_
  refine (t43_3_exit0 M l _).trans ?_
  rw [decide_eq_true (show (0 : Int) ≤ (l.flatten.length : Int) by omega), decide_eq_true (show (0 + (l.flatten.length : Int).toNat) * 8 ≤ 140737488355328 by rw [Int.toNat_natCast]; omega)]
  simp only [Bool.and_self, cond_true, Res.bind_ok]
  have i2 := iter_fold (B := bodyL env M 43 0 11) (S := fun (r : List Int) i => sCc2 l r i) (X := fun r => ⟨slots 36 [(6, .own 0)], [.row 3 1 (ints r)]⟩) (id := 2)
    (fun r j => r = (l.take j).flatten) (fun r (a : List Int) => r ++ a) l (n := M) [] (by omega) (fun r j a hj hI => by
      have hjl := (List.getElem?_eq_some_iff.1 hj).1
      have hf := flat_take hj
      rw [← hI] at hf
      refine ⟨?_, ?_⟩
      · show bodyL env M 43 0 11 (sCc2 l r j) = _
        rw [b43_11, decide_eq_true (by omega)]
        simp only [cond_true]
        rw [atT_get (map_get (f := fun a => T.sl 1 (ints a)) hj)]
        have e : ∀ K : List T → Res (Ex × St), slT 1 (T.sl 1 (ints a)) K = K (ints a) := fun K => rfl
        simp only [e]
        rw [wrap_succ (show j ≤ big by omega), decide_eq_true (show ((ints r).length + (ints a).length) * 8 ≤ 140737488355328 by rw [ints_map, ints_map, List.length_map, List.length_map]; omega), chk_true]
        rw [show ints r ++ ints a = ints (r ++ a) by rw [ints_map, ints_map, ints_map, List.map_append]]
        rfl
      · rw [take_flat hj, hI]) (fun r hI => by
      show bodyL env M 43 0 11 (sCc2 l r l.length) = _
      rw [b43_11, decide_eq_false (by omega)]; rfl) rfl
  have e2 := i2.1
  rw [foldl_app, List.nil_append] at e2
  rw [show ((List.map (fun a => T.sl 1 (ints a)) l).length : Int) = (l.length : Int) by rw [List.length_map]]
  refine (loopL_end e2).trans ?_
  exact t43_11_exit2 M l _
end Go.Sim

/- What calls come to: printed by wip/tools/eq2.py: edge.all over edge.Out's closures. -/
namespace Go.Sim
open Go.RowKit Go.Proofs
set_option linter.unusedVariables false
set_option maxRecDepth 100000
variable [Lv]

def outV : List PV := [.fn 36 [] [.ptr 0 0, .ptr 1 0, .ptr 2 0, .ptr 3 0], .fn 38 [] [.ptr 3 0, .ptr 1 0, .ptr 0 0], .fn 39 [] [.ptr 0 0, .ptr 1 0, .ptr 2 0, .ptr 3 0, .ptr 5 0], .fn 40 [] [.ptr 0 0, .ptr 1 0, .ptr 3 0, .ptr 6 0], .fn 42 [] [.ptr 0 0, .ptr 5 0, .ptr 3 0, .ptr 6 0]]
def outH0 (c : Cf) (k : Int) (x : Px) (v : Rt) (r : T) : List AObj := [.box 25 6 (.t c.t), .box 3 1 (.t (i64 k)), .box 27 2 (.t x.t), .box 32 6 (.t v.t), .box 30 4 (.agg [.t (i64 0), .nil 3 1, .t (i64 0), .t (i64 0)]), .box 46 6 (.t r), .box 30 4 (.agg [.t (i64 v.p.o), .nil 3 1, .t (i64 c.d), .t (i64 0)]), .vec 33 outV]
def outH (c : Cf) (k : Int) (x : Px) (v : Rt) (r : T) (o : Int) : List AObj := [.box 25 6 (.t c.t), .box 3 1 (.t (i64 k)), .box 27 2 (.t x.t), .box 32 6 (.t v.t), .box 30 4 (.agg [.t (i64 0), .own 8, .t (i64 0), .t (i64 0)]), .box 46 6 (.t r), .box 30 4 (.agg [.t (i64 v.p.o), .own 9, .t (i64 c.d), .t (i64 o)]), .vec 33 outV, .row 3 1 [], .row 3 1 []]
def outH5 (c : Cf) (k : Int) (x : Px) (v : Rt) (r : T) (o : Int) (s : T) (f : List T) : List AObj := [.box 25 6 (.t c.t), .box 3 1 (.t (i64 k)), .box 27 2 (.t x.t), .box 32 6 (.t v.t), .box 30 4 (.agg [.t (i64 0), .own 8, .t (i64 0), .t (i64 0)]), .box 46 6 (.t r), .box 30 4 (.t (.agg [i64 v.p.o, s, i64 c.d, i64 o])), .vec 33 outV, .row 3 1 [], .row 3 1 [], .frow 28 1 f]
theorem k36 (N : Nat) (c : Cf) (k : Int) (x : Px) (v : Rt) (r : T) (o : Int) {β : Type} (K : PV → List AObj → Res β) : funK env (recOf env N) N 36 [.ptr 0 0, .ptr 1 0, .ptr 2 0, .ptr 3 0] [.box 25 6 (.t c.t), .box 3 1 (.t (i64 k)), .box 27 2 (.t x.t), .box 32 6 (.t v.t), .box 30 4 (.agg [.t (i64 0), .own 8, .t (i64 0), .t (i64 0)]), .box 46 6 (.t r), .box 30 4 (.agg [.t (i64 v.p.o), .own 9, .t (i64 c.d), .t (i64 o)]), .vec 33 outV, .row 3 1 [], .row 3 1 []] K = clB N 18 [c.t] fun b => bif b then clB N 19 [c.t, i64 k] fun b => bif b then clB N 20 [x.t] fun b => bif b then cl N 37 [v.t] fun x_1 => K (PV.t x_1) [AObj.box 25 6 (PV.t c.t), AObj.box 3 1 (PV.t (i64 k)), AObj.box 27 2 (PV.t x.t), AObj.box 32 6 (PV.t v.t), AObj.box 30 4 (PV.agg [PV.t (i64 0), PV.own 8, PV.t (i64 0), PV.t (i64 0)]), AObj.box 46 6 (PV.t r), AObj.box 30 4 (PV.agg [PV.t (i64 v.p.o), PV.own 9, PV.t (i64 c.d), PV.t (i64 o)]), AObj.vec 33 [PV.fn 36 [] [PV.ptr 0 0, PV.ptr 1 0, PV.ptr 2 0, PV.ptr 3 0], PV.fn 38 [] [PV.ptr 3 0, PV.ptr 1 0, PV.ptr 0 0], PV.fn 39 [] [PV.ptr 0 0, PV.ptr 1 0, PV.ptr 2 0, PV.ptr 3 0, PV.ptr 5 0], PV.fn 40 [] [PV.ptr 0 0, PV.ptr 1 0, PV.ptr 3 0, PV.ptr 6 0], PV.fn 42 [] [PV.ptr 0 0, PV.ptr 5 0, PV.ptr 3 0, PV.ptr 6 0]], AObj.row 3 1 [], AObj.row 3 1 []] else K (PV.t (T.bool false)) [AObj.box 25 6 (PV.t c.t), AObj.box 3 1 (PV.t (i64 k)), AObj.box 27 2 (PV.t x.t), AObj.box 32 6 (PV.t v.t), AObj.box 30 4 (PV.agg [PV.t (i64 0), PV.own 8, PV.t (i64 0), PV.t (i64 0)]), AObj.box 46 6 (PV.t r), AObj.box 30 4 (PV.agg [PV.t (i64 v.p.o), PV.own 9, PV.t (i64 c.d), PV.t (i64 o)]), AObj.vec 33 [PV.fn 36 [] [PV.ptr 0 0, PV.ptr 1 0, PV.ptr 2 0, PV.ptr 3 0], PV.fn 38 [] [PV.ptr 3 0, PV.ptr 1 0, PV.ptr 0 0], PV.fn 39 [] [PV.ptr 0 0, PV.ptr 1 0, PV.ptr 2 0, PV.ptr 3 0, PV.ptr 5 0], PV.fn 40 [] [PV.ptr 0 0, PV.ptr 1 0, PV.ptr 3 0, PV.ptr 6 0], PV.fn 42 [] [PV.ptr 0 0, PV.ptr 5 0, PV.ptr 3 0, PV.ptr 6 0]], AObj.row 3 1 [], AObj.row 3 1 []] else K (PV.t (T.bool false)) [AObj.box 25 6 (PV.t c.t), AObj.box 3 1 (PV.t (i64 k)), AObj.box 27 2 (PV.t x.t), AObj.box 32 6 (PV.t v.t), AObj.box 30 4 (PV.agg [PV.t (i64 0), PV.own 8, PV.t (i64 0), PV.t (i64 0)]), AObj.box 46 6 (PV.t r), AObj.box 30 4 (PV.agg [PV.t (i64 v.p.o), PV.own 9, PV.t (i64 c.d), PV.t (i64 o)]), AObj.vec 33 [PV.fn 36 [] [PV.ptr 0 0, PV.ptr 1 0, PV.ptr 2 0, PV.ptr 3 0], PV.fn 38 [] [PV.ptr 3 0, PV.ptr 1 0, PV.ptr 0 0], PV.fn 39 [] [PV.ptr 0 0, PV.ptr 1 0, PV.ptr 2 0, PV.ptr 3 0, PV.ptr 5 0], PV.fn 40 [] [PV.ptr 0 0, PV.ptr 1 0, PV.ptr 3 0, PV.ptr 6 0], PV.fn 42 [] [PV.ptr 0 0, PV.ptr 5 0, PV.ptr 3 0, PV.ptr 6 0]], AObj.row 3 1 [], AObj.row 3 1 []] else K (PV.t (T.bool false)) [AObj.box 25 6 (PV.t c.t), AObj.box 3 1 (PV.t (i64 k)), AObj.box 27 2 (PV.t x.t), AObj.box 32 6 (PV.t v.t), AObj.box 30 4 (PV.agg [PV.t (i64 0), PV.own 8, PV.t (i64 0), PV.t (i64 0)]), AObj.box 46 6 (PV.t r), AObj.box 30 4 (PV.agg [PV.t (i64 v.p.o), PV.own 9, PV.t (i64 c.d), PV.t (i64 o)]), AObj.vec 33 [PV.fn 36 [] [PV.ptr 0 0, PV.ptr 1 0, PV.ptr 2 0, PV.ptr 3 0], PV.fn 38 [] [PV.ptr 3 0, PV.ptr 1 0, PV.ptr 0 0], PV.fn 39 [] [PV.ptr 0 0, PV.ptr 1 0, PV.ptr 2 0, PV.ptr 3 0, PV.ptr 5 0], PV.fn 40 [] [PV.ptr 0 0, PV.ptr 1 0, PV.ptr 3 0, PV.ptr 6 0], PV.fn 42 [] [PV.ptr 0 0, PV.ptr 5 0, PV.ptr 3 0, PV.ptr 6 0]], AObj.row 3 1 [], AObj.row 3 1 []] := by kernel_rfl
theorem k38 (N : Nat) (c : Cf) (k : Int) (x : Px) (v : Rt) (r : T) (o : Int) {β : Type} (K : PV → List AObj → Res β) : funK env (recOf env N) N 38 [.ptr 3 0, .ptr 1 0, .ptr 0 0] [.box 25 6 (.t c.t), .box 3 1 (.t (i64 k)), .box 27 2 (.t x.t), .box 32 6 (.t v.t), .box 30 4 (.agg [.t (i64 0), .own 8, .t (i64 0), .t (i64 0)]), .box 46 6 (.t r), .box 30 4 (.agg [.t (i64 v.p.o), .own 9, .t (i64 c.d), .t (i64 o)]), .vec 33 outV, .row 3 1 [], .row 3 1 []] K = bif v.f != k then K (PV.t (T.bool (decide (v.f < (↑(List.map Sd.t c.s).length : Int))))) [AObj.box 25 6 (PV.t c.t), AObj.box 3 1 (PV.t (i64 k)), AObj.box 27 2 (PV.t x.t), AObj.box 32 6 (PV.t v.t), AObj.box 30 4 (PV.agg [PV.t (i64 0), PV.own 8, PV.t (i64 0), PV.t (i64 0)]), AObj.box 46 6 (PV.t r), AObj.box 30 4 (PV.agg [PV.t (i64 v.p.o), PV.own 9, PV.t (i64 c.d), PV.t (i64 o)]), AObj.vec 33 [PV.fn 36 [] [PV.ptr 0 0, PV.ptr 1 0, PV.ptr 2 0, PV.ptr 3 0], PV.fn 38 [] [PV.ptr 3 0, PV.ptr 1 0, PV.ptr 0 0], PV.fn 39 [] [PV.ptr 0 0, PV.ptr 1 0, PV.ptr 2 0, PV.ptr 3 0, PV.ptr 5 0], PV.fn 40 [] [PV.ptr 0 0, PV.ptr 1 0, PV.ptr 3 0, PV.ptr 6 0], PV.fn 42 [] [PV.ptr 0 0, PV.ptr 5 0, PV.ptr 3 0, PV.ptr 6 0]], AObj.row 3 1 [], AObj.row 3 1 []] else K (PV.t (T.bool false)) [AObj.box 25 6 (PV.t c.t), AObj.box 3 1 (PV.t (i64 k)), AObj.box 27 2 (PV.t x.t), AObj.box 32 6 (PV.t v.t), AObj.box 30 4 (PV.agg [PV.t (i64 0), PV.own 8, PV.t (i64 0), PV.t (i64 0)]), AObj.box 46 6 (PV.t r), AObj.box 30 4 (PV.agg [PV.t (i64 v.p.o), PV.own 9, PV.t (i64 c.d), PV.t (i64 o)]), AObj.vec 33 [PV.fn 36 [] [PV.ptr 0 0, PV.ptr 1 0, PV.ptr 2 0, PV.ptr 3 0], PV.fn 38 [] [PV.ptr 3 0, PV.ptr 1 0, PV.ptr 0 0], PV.fn 39 [] [PV.ptr 0 0, PV.ptr 1 0, PV.ptr 2 0, PV.ptr 3 0, PV.ptr 5 0], PV.fn 40 [] [PV.ptr 0 0, PV.ptr 1 0, PV.ptr 3 0, PV.ptr 6 0], PV.fn 42 [] [PV.ptr 0 0, PV.ptr 5 0, PV.ptr 3 0, PV.ptr 6 0]], AObj.row 3 1 [], AObj.row 3 1 []] := by kernel_rfl
theorem k39 (N : Nat) (c : Cf) (k : Int) (x : Px) (v : Rt) (r : T) (o : Int) {β : Type} (K : PV → List AObj → Res β) : funK env (recOf env N) N 39 [.ptr 0 0, .ptr 1 0, .ptr 2 0, .ptr 3 0, .ptr 5 0] [.box 25 6 (.t c.t), .box 3 1 (.t (i64 k)), .box 27 2 (.t x.t), .box 32 6 (.t v.t), .box 30 4 (.agg [.t (i64 0), .own 8, .t (i64 0), .t (i64 0)]), .box 46 6 (.t r), .box 30 4 (.agg [.t (i64 v.p.o), .own 9, .t (i64 c.d), .t (i64 o)]), .vec 33 outV, .row 3 1 [], .row 3 1 []] K = atT (List.map Sd.t c.s) k fun e => cl N 10 [c.t, i64 v.f] fun x_1 => chk (x_1.cells.length == 1 && !x_1.isTup) (cl N 28 [e.partD 3 1 false, T.agg [i64 x.a, i64 x.n, T.sl 1 (ints v.p.s), x_1.cell 0]] fun x_2 => compT x_2 0 fun y => compT x_2 1 fun y_1 => chk (y.cells.length == 6 && !y.isTup) (bT y_1 fun b => bif b then iT IntKind.i64 (y.partD 4 1 false) fun a => K (PV.t (T.bool (a != 0))) [AObj.box 25 6 (PV.t c.t), AObj.box 3 1 (PV.t (i64 k)), AObj.box 27 2 (PV.t x.t), AObj.box 32 6 (PV.t v.t), AObj.box 30 4 (PV.agg [PV.t (i64 0), PV.own 8, PV.t (i64 0), PV.t (i64 0)]), AObj.box 46 6 (PV.t y), AObj.box 30 4 (PV.agg [PV.t (i64 v.p.o), PV.own 9, PV.t (i64 c.d), PV.t (i64 o)]), AObj.vec 33 [PV.fn 36 [] [PV.ptr 0 0, PV.ptr 1 0, PV.ptr 2 0, PV.ptr 3 0], PV.fn 38 [] [PV.ptr 3 0, PV.ptr 1 0, PV.ptr 0 0], PV.fn 39 [] [PV.ptr 0 0, PV.ptr 1 0, PV.ptr 2 0, PV.ptr 3 0, PV.ptr 5 0], PV.fn 40 [] [PV.ptr 0 0, PV.ptr 1 0, PV.ptr 3 0, PV.ptr 6 0], PV.fn 42 [] [PV.ptr 0 0, PV.ptr 5 0, PV.ptr 3 0, PV.ptr 6 0]], AObj.row 3 1 [], AObj.row 3 1 []] else K (PV.t (T.bool false)) [AObj.box 25 6 (PV.t c.t), AObj.box 3 1 (PV.t (i64 k)), AObj.box 27 2 (PV.t x.t), AObj.box 32 6 (PV.t v.t), AObj.box 30 4 (PV.agg [PV.t (i64 0), PV.own 8, PV.t (i64 0), PV.t (i64 0)]), AObj.box 46 6 (PV.t y), AObj.box 30 4 (PV.agg [PV.t (i64 v.p.o), PV.own 9, PV.t (i64 c.d), PV.t (i64 o)]), AObj.vec 33 [PV.fn 36 [] [PV.ptr 0 0, PV.ptr 1 0, PV.ptr 2 0, PV.ptr 3 0], PV.fn 38 [] [PV.ptr 3 0, PV.ptr 1 0, PV.ptr 0 0], PV.fn 39 [] [PV.ptr 0 0, PV.ptr 1 0, PV.ptr 2 0, PV.ptr 3 0, PV.ptr 5 0], PV.fn 40 [] [PV.ptr 0 0, PV.ptr 1 0, PV.ptr 3 0, PV.ptr 6 0], PV.fn 42 [] [PV.ptr 0 0, PV.ptr 5 0, PV.ptr 3 0, PV.ptr 6 0]], AObj.row 3 1 [], AObj.row 3 1 []])) := by kernel_rfl
theorem k40 (N : Nat) (c : Cf) (k : Int) (x : Px) (v : Rt) (r : T) (o : Int) {β : Type} (K : PV → List AObj → Res β) : funK env (recOf env N) N 40 [.ptr 0 0, .ptr 1 0, .ptr 3 0, .ptr 6 0] [.box 25 6 (.t c.t), .box 3 1 (.t (i64 k)), .box 27 2 (.t x.t), .box 32 6 (.t v.t), .box 30 4 (.agg [.t (i64 0), .own 8, .t (i64 0), .t (i64 0)]), .box 46 6 (.t r), .box 30 4 (.agg [.t (i64 v.p.o), .own 9, .t (i64 c.d), .t (i64 o)]), .vec 33 outV, .row 3 1 [], .row 3 1 []] K = atT (List.map Sd.t c.s) k fun e => cl N 41 [e.partD 1 1 false, i64 c.a, i64 v.p.c] fun x_1 => compT x_1 0 fun y => compT x_1 1 fun y_1 => chk (y.cells.length == 1 && !y.isTup) (K (PV.t y_1) [AObj.box 25 6 (PV.t c.t), AObj.box 3 1 (PV.t (i64 k)), AObj.box 27 2 (PV.t x.t), AObj.box 32 6 (PV.t v.t), AObj.box 30 4 (PV.agg [PV.t (i64 0), PV.own 8, PV.t (i64 0), PV.t (i64 0)]), AObj.box 46 6 (PV.t r), AObj.box 30 4 (PV.agg [PV.t (i64 v.p.o), PV.own 9, PV.t (i64 c.d), PV.t (y.cell 0)]), AObj.vec 33 [PV.fn 36 [] [PV.ptr 0 0, PV.ptr 1 0, PV.ptr 2 0, PV.ptr 3 0], PV.fn 38 [] [PV.ptr 3 0, PV.ptr 1 0, PV.ptr 0 0], PV.fn 39 [] [PV.ptr 0 0, PV.ptr 1 0, PV.ptr 2 0, PV.ptr 3 0, PV.ptr 5 0], PV.fn 40 [] [PV.ptr 0 0, PV.ptr 1 0, PV.ptr 3 0, PV.ptr 6 0], PV.fn 42 [] [PV.ptr 0 0, PV.ptr 5 0, PV.ptr 3 0, PV.ptr 6 0]], AObj.row 3 1 [], AObj.row 3 1 []]) := by kernel_rfl
theorem k42 (N : Nat) (c : Cf) (k : Int) (x : Px) (v : Rt) (r : T) (o : Int) {β : Type} (K : PV → List AObj → Res β) : funK env (recOf env N) N 42 [.ptr 0 0, .ptr 5 0, .ptr 3 0, .ptr 6 0] [.box 25 6 (.t c.t), .box 3 1 (.t (i64 k)), .box 27 2 (.t x.t), .box 32 6 (.t v.t), .box 30 4 (.agg [.t (i64 0), .own 8, .t (i64 0), .t (i64 0)]), .box 46 6 (.t r), .box 30 4 (.agg [.t (i64 v.p.o), .own 9, .t (i64 c.d), .t (i64 o)]), .vec 33 outV, .row 3 1 [], .row 3 1 []] K = chkAll (T.okE 1) [i64 c.a] (iT IntKind.i64 (r.partD 5 1 false) fun b => cl N 44 [T.sl 1 [i64 c.a], i64 (IntKind.i64.wrap (1 + b))] fun x_1 => chkAll (T.okE 1) [x_1, T.sl 1 (ints v.p.s)] (cl N 43 [T.sl 1 [x_1, T.sl 1 (ints v.p.s)]] fun x_2 => chk (x_2.cells.length == 1 && !x_2.isTup) (sllT ((T.agg [i64 v.p.o, x_2.cell 0, i64 c.d, i64 o]).cell 1) fun n => K (PV.t (T.bool (decide (n ≤ 32)))) [AObj.box 25 6 (PV.t c.t), AObj.box 3 1 (PV.t (i64 k)), AObj.box 27 2 (PV.t x.t), AObj.box 32 6 (PV.t v.t), AObj.box 30 4 (PV.agg [PV.t (i64 0), PV.own 8, PV.t (i64 0), PV.t (i64 0)]), AObj.box 46 6 (PV.t r), AObj.box 30 4 (PV.t (T.agg [i64 v.p.o, x_2.cell 0, i64 c.d, i64 o])), AObj.vec 33 [PV.fn 36 [] [PV.ptr 0 0, PV.ptr 1 0, PV.ptr 2 0, PV.ptr 3 0], PV.fn 38 [] [PV.ptr 3 0, PV.ptr 1 0, PV.ptr 0 0], PV.fn 39 [] [PV.ptr 0 0, PV.ptr 1 0, PV.ptr 2 0, PV.ptr 3 0, PV.ptr 5 0], PV.fn 40 [] [PV.ptr 0 0, PV.ptr 1 0, PV.ptr 3 0, PV.ptr 6 0], PV.fn 42 [] [PV.ptr 0 0, PV.ptr 5 0, PV.ptr 3 0, PV.ptr 6 0]], AObj.row 3 1 [], AObj.row 3 1 [], AObj.frow 28 1 [x_1, T.sl 1 (ints v.p.s)]]))) := by kernel_rfl
def pnO1 (c : Cf) (k : Int) (x : Px) (v : Rt) (b : Bool) : Pin := ⟨36, [.ptr 0 0, .ptr 1 0, .ptr 2 0, .ptr 3 0], outH c k x v (T.agg [i64 0, i64 0, i64 0, i64 0, i64 0, i64 0]) 0, .t (.bool b), outH c k x v (T.agg [i64 0, i64 0, i64 0, i64 0, i64 0, i64 0]) 0⟩
def pnO2 (c : Cf) (k : Int) (x : Px) (v : Rt) (b : Bool) : Pin := ⟨38, [.ptr 3 0, .ptr 1 0, .ptr 0 0], outH c k x v (T.agg [i64 0, i64 0, i64 0, i64 0, i64 0, i64 0]) 0, .t (.bool b), outH c k x v (T.agg [i64 0, i64 0, i64 0, i64 0, i64 0, i64 0]) 0⟩
def pnO3 (c : Cf) (k : Int) (x : Px) (v : Rt) (b : Bool) (r : T) : Pin := ⟨39, [.ptr 0 0, .ptr 1 0, .ptr 2 0, .ptr 3 0, .ptr 5 0], outH c k x v (T.agg [i64 0, i64 0, i64 0, i64 0, i64 0, i64 0]) 0, .t (.bool b), outH c k x v r 0⟩
def pnO4 (c : Cf) (k : Int) (x : Px) (v : Rt) (b : Bool) (r : T) (o : Int) : Pin := ⟨40, [.ptr 0 0, .ptr 1 0, .ptr 3 0, .ptr 6 0], outH c k x v r 0, .t (.bool b), outH c k x v r o⟩
def pnO5 (c : Cf) (k : Int) (x : Px) (v : Rt) (b : Bool) (r : T) (o : Int) (s : T) (f : List T) : Pin := ⟨42, [.ptr 0 0, .ptr 5 0, .ptr 3 0, .ptr 6 0], outH c k x v r o, .t (.bool b), outH5 c k x v r o s f⟩
def pnOA (c : Cf) (k : Int) (x : Px) (v : Rt) (b : Bool) (r : T) (o : Int) : Pin := ⟨16, [.own 7], outH0 c k x v (T.agg [i64 0, i64 0, i64 0, i64 0, i64 0, i64 0]), .t (.bool b), outH c k x v r o⟩
def pnOB (c : Cf) (k : Int) (x : Px) (v : Rt) (b : Bool) (r : T) (o : Int) (s : T) (f : List T) : Pin := ⟨16, [.own 7], outH0 c k x v (T.agg [i64 0, i64 0, i64 0, i64 0, i64 0, i64 0]), .t (.bool b), outH5 c k x v r o s f⟩
def sOl0 (c : Cf) (k : Int) (x : Px) (v : Rt) (r : T) (o : Int) : St := ⟨slots 15 [(5, .own 7), (6, .t (i64 5)), (7, .t (i64 0))], [.box 25 6 (.t c.t), .box 3 1 (.t (i64 k)), .box 27 2 (.t x.t), .box 32 6 (.t v.t), .box 30 4 (.agg [.t (i64 0), .own 8, .t (i64 0), .t (i64 0)]), .box 46 6 (.t r), .box 30 4 (.agg [.t (i64 v.p.o), .own 9, .t (i64 c.d), .t (i64 o)]), .vec 33 outV, .row 3 1 [], .row 3 1 []]⟩
def sOl1 (c : Cf) (k : Int) (x : Px) (v : Rt) (r : T) (o : Int) : St := ⟨slots 15 [(5, .own 7), (6, .t (i64 5)), (7, .t (i64 1))], [.box 25 6 (.t c.t), .box 3 1 (.t (i64 k)), .box 27 2 (.t x.t), .box 32 6 (.t v.t), .box 30 4 (.agg [.t (i64 0), .own 8, .t (i64 0), .t (i64 0)]), .box 46 6 (.t r), .box 30 4 (.agg [.t (i64 v.p.o), .own 9, .t (i64 c.d), .t (i64 o)]), .vec 33 outV, .row 3 1 [], .row 3 1 []]⟩
def sOl2 (c : Cf) (k : Int) (x : Px) (v : Rt) (r : T) (o : Int) : St := ⟨slots 15 [(5, .own 7), (6, .t (i64 5)), (7, .t (i64 2))], [.box 25 6 (.t c.t), .box 3 1 (.t (i64 k)), .box 27 2 (.t x.t), .box 32 6 (.t v.t), .box 30 4 (.agg [.t (i64 0), .own 8, .t (i64 0), .t (i64 0)]), .box 46 6 (.t r), .box 30 4 (.agg [.t (i64 v.p.o), .own 9, .t (i64 c.d), .t (i64 o)]), .vec 33 outV, .row 3 1 [], .row 3 1 []]⟩
def sOl3 (c : Cf) (k : Int) (x : Px) (v : Rt) (r : T) (o : Int) : St := ⟨slots 15 [(5, .own 7), (6, .t (i64 5)), (7, .t (i64 3))], [.box 25 6 (.t c.t), .box 3 1 (.t (i64 k)), .box 27 2 (.t x.t), .box 32 6 (.t v.t), .box 30 4 (.agg [.t (i64 0), .own 8, .t (i64 0), .t (i64 0)]), .box 46 6 (.t r), .box 30 4 (.agg [.t (i64 v.p.o), .own 9, .t (i64 c.d), .t (i64 o)]), .vec 33 outV, .row 3 1 [], .row 3 1 []]⟩
def sOl4 (c : Cf) (k : Int) (x : Px) (v : Rt) (r : T) (o : Int) : St := ⟨slots 15 [(5, .own 7), (6, .t (i64 5)), (7, .t (i64 4))], [.box 25 6 (.t c.t), .box 3 1 (.t (i64 k)), .box 27 2 (.t x.t), .box 32 6 (.t v.t), .box 30 4 (.agg [.t (i64 0), .own 8, .t (i64 0), .t (i64 0)]), .box 46 6 (.t r), .box 30 4 (.agg [.t (i64 v.p.o), .own 9, .t (i64 c.d), .t (i64 o)]), .vec 33 outV, .row 3 1 [], .row 3 1 []]⟩
def sOl5 (c : Cf) (k : Int) (x : Px) (v : Rt) (r : T) (o : Int) (s : T) (f : List T) : St := ⟨slots 15 [(5, .own 7), (6, .t (i64 5)), (7, .t (i64 5))], [.box 25 6 (.t c.t), .box 3 1 (.t (i64 k)), .box 27 2 (.t x.t), .box 32 6 (.t v.t), .box 30 4 (.agg [.t (i64 0), .own 8, .t (i64 0), .t (i64 0)]), .box 46 6 (.t r), .box 30 4 (.t (.agg [i64 v.p.o, s, i64 c.d, i64 o])), .vec 33 outV, .row 3 1 [], .row 3 1 [], .frow 28 1 f]⟩
theorem opk16 (N : Nat) (c : Cf) (k : Int) (x : Px) (v : Rt) (b : Bool) {β : Type} (K : PV → List AObj → Res β) : funK env (recP env N [pnO1 c k x v b]) N 16 [.own 7] [.box 25 6 (.t c.t), .box 3 1 (.t (i64 k)), .box 27 2 (.t x.t), .box 32 6 (.t v.t), .box 30 4 (.agg [.t (i64 0), .nil 3 1, .t (i64 0), .t (i64 0)]), .box 46 6 (.t (T.agg [i64 0, i64 0, i64 0, i64 0, i64 0, i64 0])), .box 30 4 (.agg [.t (i64 v.p.o), .nil 3 1, .t (i64 c.d), .t (i64 0)]), .vec 33 outV] K = loopR env (recP env N [pnO1 c k x v b]) N 16 8 2 K { tmps := slots 15 [(5, PV.own 7), (6, PV.t (i64 5)), (7, PV.t (i64 0))], heap := [AObj.box 25 6 (PV.t c.t), AObj.box 3 1 (PV.t (i64 k)), AObj.box 27 2 (PV.t x.t), AObj.box 32 6 (PV.t v.t), AObj.box 30 4 (PV.agg [PV.t (i64 0), PV.own 8, PV.t (i64 0), PV.t (i64 0)]), AObj.box 46 6 (PV.t (T.agg [i64 0, i64 0, i64 0, i64 0, i64 0, i64 0])), AObj.box 30 4 (PV.agg [PV.t (i64 v.p.o), PV.own 9, PV.t (i64 c.d), PV.t (i64 0)]), AObj.vec 33 [PV.fn 36 [] [PV.ptr 0 0, PV.ptr 1 0, PV.ptr 2 0, PV.ptr 3 0], PV.fn 38 [] [PV.ptr 3 0, PV.ptr 1 0, PV.ptr 0 0], PV.fn 39 [] [PV.ptr 0 0, PV.ptr 1 0, PV.ptr 2 0, PV.ptr 3 0, PV.ptr 5 0], PV.fn 40 [] [PV.ptr 0 0, PV.ptr 1 0, PV.ptr 3 0, PV.ptr 6 0], PV.fn 42 [] [PV.ptr 0 0, PV.ptr 5 0, PV.ptr 3 0, PV.ptr 6 0]], AObj.row 3 1 [], AObj.row 3 1 []] } := by kernel_rfl
theorem opkb16_2 (N : Nat) (c : Cf) (k : Int) (x : Px) (v : Rt) (b : Bool) : bodyR env (recP env N [pnO1 c k x v b]) N 16 8 2 (sOl0 c k x v (T.agg [i64 0, i64 0, i64 0, i64 0, i64 0, i64 0]) 0) = chkP ([PV.ptr 0 0, PV.ptr 1 0, PV.ptr 2 0, PV.ptr 3 0] = [PV.ptr 0 0, PV.ptr 1 0, PV.ptr 2 0, PV.ptr 3 0] ∧ [AObj.box 25 6 (PV.t c.t), AObj.box 3 1 (PV.t (i64 k)), AObj.box 27 2 (PV.t x.t), AObj.box 32 6 (PV.t v.t), AObj.box 30 4 (PV.agg [PV.t (i64 0), PV.own 8, PV.t (i64 0), PV.t (i64 0)]), AObj.box 46 6 (PV.t (T.agg [i64 0, i64 0, i64 0, i64 0, i64 0, i64 0])), AObj.box 30 4 (PV.agg [PV.t (i64 v.p.o), PV.own 9, PV.t (i64 c.d), PV.t (i64 0)]), AObj.vec 33 [PV.fn 36 [] [PV.ptr 0 0, PV.ptr 1 0, PV.ptr 2 0, PV.ptr 3 0], PV.fn 38 [] [PV.ptr 3 0, PV.ptr 1 0, PV.ptr 0 0], PV.fn 39 [] [PV.ptr 0 0, PV.ptr 1 0, PV.ptr 2 0, PV.ptr 3 0, PV.ptr 5 0], PV.fn 40 [] [PV.ptr 0 0, PV.ptr 1 0, PV.ptr 3 0, PV.ptr 6 0], PV.fn 42 [] [PV.ptr 0 0, PV.ptr 5 0, PV.ptr 3 0, PV.ptr 6 0]], AObj.row 3 1 [], AObj.row 3 1 []] = [AObj.box 25 6 (PV.t c.t), AObj.box 3 1 (PV.t (i64 k)), AObj.box 27 2 (PV.t x.t), AObj.box 32 6 (PV.t v.t), AObj.box 30 4 (PV.agg [PV.t (i64 0), PV.own 8, PV.t (i64 0), PV.t (i64 0)]), AObj.box 46 6 (PV.t (T.agg [i64 0, i64 0, i64 0, i64 0, i64 0, i64 0])), AObj.box 30 4 (PV.agg [PV.t (i64 v.p.o), PV.own 9, PV.t (i64 c.d), PV.t (i64 0)]), AObj.vec 33 [PV.fn 36 [] [PV.ptr 0 0, PV.ptr 1 0, PV.ptr 2 0, PV.ptr 3 0], PV.fn 38 [] [PV.ptr 3 0, PV.ptr 1 0, PV.ptr 0 0], PV.fn 39 [] [PV.ptr 0 0, PV.ptr 1 0, PV.ptr 2 0, PV.ptr 3 0, PV.ptr 5 0], PV.fn 40 [] [PV.ptr 0 0, PV.ptr 1 0, PV.ptr 3 0, PV.ptr 6 0], PV.fn 42 [] [PV.ptr 0 0, PV.ptr 5 0, PV.ptr 3 0, PV.ptr 6 0]], AObj.row 3 1 [], AObj.row 3 1 []]) (bif !b then Res.ok (Ex.ret, { tmps := slots 15 [(2, PV.t (T.bool false))], heap := [AObj.box 25 6 (PV.t c.t), AObj.box 3 1 (PV.t (i64 k)), AObj.box 27 2 (PV.t x.t), AObj.box 32 6 (PV.t v.t), AObj.box 30 4 (PV.agg [PV.t (i64 0), PV.own 8, PV.t (i64 0), PV.t (i64 0)]), AObj.box 46 6 (PV.t (T.agg [i64 0, i64 0, i64 0, i64 0, i64 0, i64 0])), AObj.box 30 4 (PV.agg [PV.t (i64 v.p.o), PV.own 9, PV.t (i64 c.d), PV.t (i64 0)]), AObj.vec 33 [PV.fn 36 [] [PV.ptr 0 0, PV.ptr 1 0, PV.ptr 2 0, PV.ptr 3 0], PV.fn 38 [] [PV.ptr 3 0, PV.ptr 1 0, PV.ptr 0 0], PV.fn 39 [] [PV.ptr 0 0, PV.ptr 1 0, PV.ptr 2 0, PV.ptr 3 0, PV.ptr 5 0], PV.fn 40 [] [PV.ptr 0 0, PV.ptr 1 0, PV.ptr 3 0, PV.ptr 6 0], PV.fn 42 [] [PV.ptr 0 0, PV.ptr 5 0, PV.ptr 3 0, PV.ptr 6 0]], AObj.row 3 1 [], AObj.row 3 1 []] }) else Res.ok (Ex.norm, { tmps := slots 15 [(5, PV.own 7), (6, PV.t (i64 5)), (7, PV.t (i64 1))], heap := [AObj.box 25 6 (PV.t c.t), AObj.box 3 1 (PV.t (i64 k)), AObj.box 27 2 (PV.t x.t), AObj.box 32 6 (PV.t v.t), AObj.box 30 4 (PV.agg [PV.t (i64 0), PV.own 8, PV.t (i64 0), PV.t (i64 0)]), AObj.box 46 6 (PV.t (T.agg [i64 0, i64 0, i64 0, i64 0, i64 0, i64 0])), AObj.box 30 4 (PV.agg [PV.t (i64 v.p.o), PV.own 9, PV.t (i64 c.d), PV.t (i64 0)]), AObj.vec 33 [PV.fn 36 [] [PV.ptr 0 0, PV.ptr 1 0, PV.ptr 2 0, PV.ptr 3 0], PV.fn 38 [] [PV.ptr 3 0, PV.ptr 1 0, PV.ptr 0 0], PV.fn 39 [] [PV.ptr 0 0, PV.ptr 1 0, PV.ptr 2 0, PV.ptr 3 0, PV.ptr 5 0], PV.fn 40 [] [PV.ptr 0 0, PV.ptr 1 0, PV.ptr 3 0, PV.ptr 6 0], PV.fn 42 [] [PV.ptr 0 0, PV.ptr 5 0, PV.ptr 3 0, PV.ptr 6 0]], AObj.row 3 1 [], AObj.row 3 1 []] })) := by kernel_rfl
theorem opkt16_2_ret (N : Nat) (c : Cf) (k : Int) (x : Px) (v : Rt) (b : Bool) (H : List AObj) {β : Type} (K : PV → List AObj → Res β) : tailR env (recP env N [pnO1 c k x v b]) N 16 8 2 K (.ret) (⟨slots 15 [(2, .t (.bool false))], H⟩) = K (PV.t (T.bool false)) H := by kernel_rfl
theorem opk16_2 (N : Nat) (c : Cf) (k : Int) (x : Px) (v : Rt) (b : Bool) {β : Type} (K : PV → List AObj → Res β) : funK env (recP env N [pnO1 c k x v true, pnO2 c k x v b]) N 16 [.own 7] [.box 25 6 (.t c.t), .box 3 1 (.t (i64 k)), .box 27 2 (.t x.t), .box 32 6 (.t v.t), .box 30 4 (.agg [.t (i64 0), .nil 3 1, .t (i64 0), .t (i64 0)]), .box 46 6 (.t (T.agg [i64 0, i64 0, i64 0, i64 0, i64 0, i64 0])), .box 30 4 (.agg [.t (i64 v.p.o), .nil 3 1, .t (i64 c.d), .t (i64 0)]), .vec 33 outV] K = loopR env (recP env N [pnO1 c k x v true, pnO2 c k x v b]) N 16 8 2 K { tmps := slots 15 [(5, PV.own 7), (6, PV.t (i64 5)), (7, PV.t (i64 0))], heap := [AObj.box 25 6 (PV.t c.t), AObj.box 3 1 (PV.t (i64 k)), AObj.box 27 2 (PV.t x.t), AObj.box 32 6 (PV.t v.t), AObj.box 30 4 (PV.agg [PV.t (i64 0), PV.own 8, PV.t (i64 0), PV.t (i64 0)]), AObj.box 46 6 (PV.t (T.agg [i64 0, i64 0, i64 0, i64 0, i64 0, i64 0])), AObj.box 30 4 (PV.agg [PV.t (i64 v.p.o), PV.own 9, PV.t (i64 c.d), PV.t (i64 0)]), AObj.vec 33 [PV.fn 36 [] [PV.ptr 0 0, PV.ptr 1 0, PV.ptr 2 0, PV.ptr 3 0], PV.fn 38 [] [PV.ptr 3 0, PV.ptr 1 0, PV.ptr 0 0], PV.fn 39 [] [PV.ptr 0 0, PV.ptr 1 0, PV.ptr 2 0, PV.ptr 3 0, PV.ptr 5 0], PV.fn 40 [] [PV.ptr 0 0, PV.ptr 1 0, PV.ptr 3 0, PV.ptr 6 0], PV.fn 42 [] [PV.ptr 0 0, PV.ptr 5 0, PV.ptr 3 0, PV.ptr 6 0]], AObj.row 3 1 [], AObj.row 3 1 []] } := by kernel_rfl
theorem opkb16_2_2 (N : Nat) (c : Cf) (k : Int) (x : Px) (v : Rt) (b : Bool) : bodyR env (recP env N [pnO1 c k x v true, pnO2 c k x v b]) N 16 8 2 (sOl0 c k x v (T.agg [i64 0, i64 0, i64 0, i64 0, i64 0, i64 0]) 0) = chkP ([PV.ptr 0 0, PV.ptr 1 0, PV.ptr 2 0, PV.ptr 3 0] = [PV.ptr 0 0, PV.ptr 1 0, PV.ptr 2 0, PV.ptr 3 0] ∧ [AObj.box 25 6 (PV.t c.t), AObj.box 3 1 (PV.t (i64 k)), AObj.box 27 2 (PV.t x.t), AObj.box 32 6 (PV.t v.t), AObj.box 30 4 (PV.agg [PV.t (i64 0), PV.own 8, PV.t (i64 0), PV.t (i64 0)]), AObj.box 46 6 (PV.t (T.agg [i64 0, i64 0, i64 0, i64 0, i64 0, i64 0])), AObj.box 30 4 (PV.agg [PV.t (i64 v.p.o), PV.own 9, PV.t (i64 c.d), PV.t (i64 0)]), AObj.vec 33 [PV.fn 36 [] [PV.ptr 0 0, PV.ptr 1 0, PV.ptr 2 0, PV.ptr 3 0], PV.fn 38 [] [PV.ptr 3 0, PV.ptr 1 0, PV.ptr 0 0], PV.fn 39 [] [PV.ptr 0 0, PV.ptr 1 0, PV.ptr 2 0, PV.ptr 3 0, PV.ptr 5 0], PV.fn 40 [] [PV.ptr 0 0, PV.ptr 1 0, PV.ptr 3 0, PV.ptr 6 0], PV.fn 42 [] [PV.ptr 0 0, PV.ptr 5 0, PV.ptr 3 0, PV.ptr 6 0]], AObj.row 3 1 [], AObj.row 3 1 []] = [AObj.box 25 6 (PV.t c.t), AObj.box 3 1 (PV.t (i64 k)), AObj.box 27 2 (PV.t x.t), AObj.box 32 6 (PV.t v.t), AObj.box 30 4 (PV.agg [PV.t (i64 0), PV.own 8, PV.t (i64 0), PV.t (i64 0)]), AObj.box 46 6 (PV.t (T.agg [i64 0, i64 0, i64 0, i64 0, i64 0, i64 0])), AObj.box 30 4 (PV.agg [PV.t (i64 v.p.o), PV.own 9, PV.t (i64 c.d), PV.t (i64 0)]), AObj.vec 33 [PV.fn 36 [] [PV.ptr 0 0, PV.ptr 1 0, PV.ptr 2 0, PV.ptr 3 0], PV.fn 38 [] [PV.ptr 3 0, PV.ptr 1 0, PV.ptr 0 0], PV.fn 39 [] [PV.ptr 0 0, PV.ptr 1 0, PV.ptr 2 0, PV.ptr 3 0, PV.ptr 5 0], PV.fn 40 [] [PV.ptr 0 0, PV.ptr 1 0, PV.ptr 3 0, PV.ptr 6 0], PV.fn 42 [] [PV.ptr 0 0, PV.ptr 5 0, PV.ptr 3 0, PV.ptr 6 0]], AObj.row 3 1 [], AObj.row 3 1 []]) (Res.ok (Ex.norm, { tmps := slots 15 [(5, PV.own 7), (6, PV.t (i64 5)), (7, PV.t (i64 1))], heap := [AObj.box 25 6 (PV.t c.t), AObj.box 3 1 (PV.t (i64 k)), AObj.box 27 2 (PV.t x.t), AObj.box 32 6 (PV.t v.t), AObj.box 30 4 (PV.agg [PV.t (i64 0), PV.own 8, PV.t (i64 0), PV.t (i64 0)]), AObj.box 46 6 (PV.t (T.agg [i64 0, i64 0, i64 0, i64 0, i64 0, i64 0])), AObj.box 30 4 (PV.agg [PV.t (i64 v.p.o), PV.own 9, PV.t (i64 c.d), PV.t (i64 0)]), AObj.vec 33 [PV.fn 36 [] [PV.ptr 0 0, PV.ptr 1 0, PV.ptr 2 0, PV.ptr 3 0], PV.fn 38 [] [PV.ptr 3 0, PV.ptr 1 0, PV.ptr 0 0], PV.fn 39 [] [PV.ptr 0 0, PV.ptr 1 0, PV.ptr 2 0, PV.ptr 3 0, PV.ptr 5 0], PV.fn 40 [] [PV.ptr 0 0, PV.ptr 1 0, PV.ptr 3 0, PV.ptr 6 0], PV.fn 42 [] [PV.ptr 0 0, PV.ptr 5 0, PV.ptr 3 0, PV.ptr 6 0]], AObj.row 3 1 [], AObj.row 3 1 []] })) := by kernel_rfl
theorem opkb16_2_3 (N : Nat) (c : Cf) (k : Int) (x : Px) (v : Rt) (b : Bool) : bodyR env (recP env N [pnO1 c k x v true, pnO2 c k x v b]) N 16 8 2 (sOl1 c k x v (T.agg [i64 0, i64 0, i64 0, i64 0, i64 0, i64 0]) 0) = chkP ([PV.ptr 3 0, PV.ptr 1 0, PV.ptr 0 0] = [PV.ptr 3 0, PV.ptr 1 0, PV.ptr 0 0] ∧ [AObj.box 25 6 (PV.t c.t), AObj.box 3 1 (PV.t (i64 k)), AObj.box 27 2 (PV.t x.t), AObj.box 32 6 (PV.t v.t), AObj.box 30 4 (PV.agg [PV.t (i64 0), PV.own 8, PV.t (i64 0), PV.t (i64 0)]), AObj.box 46 6 (PV.t (T.agg [i64 0, i64 0, i64 0, i64 0, i64 0, i64 0])), AObj.box 30 4 (PV.agg [PV.t (i64 v.p.o), PV.own 9, PV.t (i64 c.d), PV.t (i64 0)]), AObj.vec 33 [PV.fn 36 [] [PV.ptr 0 0, PV.ptr 1 0, PV.ptr 2 0, PV.ptr 3 0], PV.fn 38 [] [PV.ptr 3 0, PV.ptr 1 0, PV.ptr 0 0], PV.fn 39 [] [PV.ptr 0 0, PV.ptr 1 0, PV.ptr 2 0, PV.ptr 3 0, PV.ptr 5 0], PV.fn 40 [] [PV.ptr 0 0, PV.ptr 1 0, PV.ptr 3 0, PV.ptr 6 0], PV.fn 42 [] [PV.ptr 0 0, PV.ptr 5 0, PV.ptr 3 0, PV.ptr 6 0]], AObj.row 3 1 [], AObj.row 3 1 []] = [AObj.box 25 6 (PV.t c.t), AObj.box 3 1 (PV.t (i64 k)), AObj.box 27 2 (PV.t x.t), AObj.box 32 6 (PV.t v.t), AObj.box 30 4 (PV.agg [PV.t (i64 0), PV.own 8, PV.t (i64 0), PV.t (i64 0)]), AObj.box 46 6 (PV.t (T.agg [i64 0, i64 0, i64 0, i64 0, i64 0, i64 0])), AObj.box 30 4 (PV.agg [PV.t (i64 v.p.o), PV.own 9, PV.t (i64 c.d), PV.t (i64 0)]), AObj.vec 33 [PV.fn 36 [] [PV.ptr 0 0, PV.ptr 1 0, PV.ptr 2 0, PV.ptr 3 0], PV.fn 38 [] [PV.ptr 3 0, PV.ptr 1 0, PV.ptr 0 0], PV.fn 39 [] [PV.ptr 0 0, PV.ptr 1 0, PV.ptr 2 0, PV.ptr 3 0, PV.ptr 5 0], PV.fn 40 [] [PV.ptr 0 0, PV.ptr 1 0, PV.ptr 3 0, PV.ptr 6 0], PV.fn 42 [] [PV.ptr 0 0, PV.ptr 5 0, PV.ptr 3 0, PV.ptr 6 0]], AObj.row 3 1 [], AObj.row 3 1 []]) (bif !b then Res.ok (Ex.ret, { tmps := slots 15 [(2, PV.t (T.bool false))], heap := [AObj.box 25 6 (PV.t c.t), AObj.box 3 1 (PV.t (i64 k)), AObj.box 27 2 (PV.t x.t), AObj.box 32 6 (PV.t v.t), AObj.box 30 4 (PV.agg [PV.t (i64 0), PV.own 8, PV.t (i64 0), PV.t (i64 0)]), AObj.box 46 6 (PV.t (T.agg [i64 0, i64 0, i64 0, i64 0, i64 0, i64 0])), AObj.box 30 4 (PV.agg [PV.t (i64 v.p.o), PV.own 9, PV.t (i64 c.d), PV.t (i64 0)]), AObj.vec 33 [PV.fn 36 [] [PV.ptr 0 0, PV.ptr 1 0, PV.ptr 2 0, PV.ptr 3 0], PV.fn 38 [] [PV.ptr 3 0, PV.ptr 1 0, PV.ptr 0 0], PV.fn 39 [] [PV.ptr 0 0, PV.ptr 1 0, PV.ptr 2 0, PV.ptr 3 0, PV.ptr 5 0], PV.fn 40 [] [PV.ptr 0 0, PV.ptr 1 0, PV.ptr 3 0, PV.ptr 6 0], PV.fn 42 [] [PV.ptr 0 0, PV.ptr 5 0, PV.ptr 3 0, PV.ptr 6 0]], AObj.row 3 1 [], AObj.row 3 1 []] }) else Res.ok (Ex.norm, { tmps := slots 15 [(5, PV.own 7), (6, PV.t (i64 5)), (7, PV.t (i64 2))], heap := [AObj.box 25 6 (PV.t c.t), AObj.box 3 1 (PV.t (i64 k)), AObj.box 27 2 (PV.t x.t), AObj.box 32 6 (PV.t v.t), AObj.box 30 4 (PV.agg [PV.t (i64 0), PV.own 8, PV.t (i64 0), PV.t (i64 0)]), AObj.box 46 6 (PV.t (T.agg [i64 0, i64 0, i64 0, i64 0, i64 0, i64 0])), AObj.box 30 4 (PV.agg [PV.t (i64 v.p.o), PV.own 9, PV.t (i64 c.d), PV.t (i64 0)]), AObj.vec 33 [PV.fn 36 [] [PV.ptr 0 0, PV.ptr 1 0, PV.ptr 2 0, PV.ptr 3 0], PV.fn 38 [] [PV.ptr 3 0, PV.ptr 1 0, PV.ptr 0 0], PV.fn 39 [] [PV.ptr 0 0, PV.ptr 1 0, PV.ptr 2 0, PV.ptr 3 0, PV.ptr 5 0], PV.fn 40 [] [PV.ptr 0 0, PV.ptr 1 0, PV.ptr 3 0, PV.ptr 6 0], PV.fn 42 [] [PV.ptr 0 0, PV.ptr 5 0, PV.ptr 3 0, PV.ptr 6 0]], AObj.row 3 1 [], AObj.row 3 1 []] })) := by kernel_rfl
theorem opkt16_2_ret_2 (N : Nat) (c : Cf) (k : Int) (x : Px) (v : Rt) (b : Bool) (H : List AObj) {β : Type} (K : PV → List AObj → Res β) : tailR env (recP env N [pnO1 c k x v true, pnO2 c k x v b]) N 16 8 2 K (.ret) (⟨slots 15 [(2, .t (.bool false))], H⟩) = K (PV.t (T.bool false)) H := by kernel_rfl
theorem opk16_3 (N : Nat) (c : Cf) (k : Int) (x : Px) (v : Rt) (b : Bool) (r : T) {β : Type} (K : PV → List AObj → Res β) : funK env (recP env N [pnO1 c k x v true, pnO2 c k x v true, pnO3 c k x v b r]) N 16 [.own 7] [.box 25 6 (.t c.t), .box 3 1 (.t (i64 k)), .box 27 2 (.t x.t), .box 32 6 (.t v.t), .box 30 4 (.agg [.t (i64 0), .nil 3 1, .t (i64 0), .t (i64 0)]), .box 46 6 (.t (T.agg [i64 0, i64 0, i64 0, i64 0, i64 0, i64 0])), .box 30 4 (.agg [.t (i64 v.p.o), .nil 3 1, .t (i64 c.d), .t (i64 0)]), .vec 33 outV] K = loopR env (recP env N [pnO1 c k x v true, pnO2 c k x v true, pnO3 c k x v b r]) N 16 8 2 K { tmps := slots 15 [(5, PV.own 7), (6, PV.t (i64 5)), (7, PV.t (i64 0))], heap := [AObj.box 25 6 (PV.t c.t), AObj.box 3 1 (PV.t (i64 k)), AObj.box 27 2 (PV.t x.t), AObj.box 32 6 (PV.t v.t), AObj.box 30 4 (PV.agg [PV.t (i64 0), PV.own 8, PV.t (i64 0), PV.t (i64 0)]), AObj.box 46 6 (PV.t (T.agg [i64 0, i64 0, i64 0, i64 0, i64 0, i64 0])), AObj.box 30 4 (PV.agg [PV.t (i64 v.p.o), PV.own 9, PV.t (i64 c.d), PV.t (i64 0)]), AObj.vec 33 [PV.fn 36 [] [PV.ptr 0 0, PV.ptr 1 0, PV.ptr 2 0, PV.ptr 3 0], PV.fn 38 [] [PV.ptr 3 0, PV.ptr 1 0, PV.ptr 0 0], PV.fn 39 [] [PV.ptr 0 0, PV.ptr 1 0, PV.ptr 2 0, PV.ptr 3 0, PV.ptr 5 0], PV.fn 40 [] [PV.ptr 0 0, PV.ptr 1 0, PV.ptr 3 0, PV.ptr 6 0], PV.fn 42 [] [PV.ptr 0 0, PV.ptr 5 0, PV.ptr 3 0, PV.ptr 6 0]], AObj.row 3 1 [], AObj.row 3 1 []] } := by kernel_rfl
theorem opkb16_2_4 (N : Nat) (c : Cf) (k : Int) (x : Px) (v : Rt) (b : Bool) (r : T) : bodyR env (recP env N [pnO1 c k x v true, pnO2 c k x v true, pnO3 c k x v b r]) N 16 8 2 (sOl0 c k x v (T.agg [i64 0, i64 0, i64 0, i64 0, i64 0, i64 0]) 0) = chkP ([PV.ptr 0 0, PV.ptr 1 0, PV.ptr 2 0, PV.ptr 3 0] = [PV.ptr 0 0, PV.ptr 1 0, PV.ptr 2 0, PV.ptr 3 0] ∧ [AObj.box 25 6 (PV.t c.t), AObj.box 3 1 (PV.t (i64 k)), AObj.box 27 2 (PV.t x.t), AObj.box 32 6 (PV.t v.t), AObj.box 30 4 (PV.agg [PV.t (i64 0), PV.own 8, PV.t (i64 0), PV.t (i64 0)]), AObj.box 46 6 (PV.t (T.agg [i64 0, i64 0, i64 0, i64 0, i64 0, i64 0])), AObj.box 30 4 (PV.agg [PV.t (i64 v.p.o), PV.own 9, PV.t (i64 c.d), PV.t (i64 0)]), AObj.vec 33 [PV.fn 36 [] [PV.ptr 0 0, PV.ptr 1 0, PV.ptr 2 0, PV.ptr 3 0], PV.fn 38 [] [PV.ptr 3 0, PV.ptr 1 0, PV.ptr 0 0], PV.fn 39 [] [PV.ptr 0 0, PV.ptr 1 0, PV.ptr 2 0, PV.ptr 3 0, PV.ptr 5 0], PV.fn 40 [] [PV.ptr 0 0, PV.ptr 1 0, PV.ptr 3 0, PV.ptr 6 0], PV.fn 42 [] [PV.ptr 0 0, PV.ptr 5 0, PV.ptr 3 0, PV.ptr 6 0]], AObj.row 3 1 [], AObj.row 3 1 []] = [AObj.box 25 6 (PV.t c.t), AObj.box 3 1 (PV.t (i64 k)), AObj.box 27 2 (PV.t x.t), AObj.box 32 6 (PV.t v.t), AObj.box 30 4 (PV.agg [PV.t (i64 0), PV.own 8, PV.t (i64 0), PV.t (i64 0)]), AObj.box 46 6 (PV.t (T.agg [i64 0, i64 0, i64 0, i64 0, i64 0, i64 0])), AObj.box 30 4 (PV.agg [PV.t (i64 v.p.o), PV.own 9, PV.t (i64 c.d), PV.t (i64 0)]), AObj.vec 33 [PV.fn 36 [] [PV.ptr 0 0, PV.ptr 1 0, PV.ptr 2 0, PV.ptr 3 0], PV.fn 38 [] [PV.ptr 3 0, PV.ptr 1 0, PV.ptr 0 0], PV.fn 39 [] [PV.ptr 0 0, PV.ptr 1 0, PV.ptr 2 0, PV.ptr 3 0, PV.ptr 5 0], PV.fn 40 [] [PV.ptr 0 0, PV.ptr 1 0, PV.ptr 3 0, PV.ptr 6 0], PV.fn 42 [] [PV.ptr 0 0, PV.ptr 5 0, PV.ptr 3 0, PV.ptr 6 0]], AObj.row 3 1 [], AObj.row 3 1 []]) (Res.ok (Ex.norm, { tmps := slots 15 [(5, PV.own 7), (6, PV.t (i64 5)), (7, PV.t (i64 1))], heap := [AObj.box 25 6 (PV.t c.t), AObj.box 3 1 (PV.t (i64 k)), AObj.box 27 2 (PV.t x.t), AObj.box 32 6 (PV.t v.t), AObj.box 30 4 (PV.agg [PV.t (i64 0), PV.own 8, PV.t (i64 0), PV.t (i64 0)]), AObj.box 46 6 (PV.t (T.agg [i64 0, i64 0, i64 0, i64 0, i64 0, i64 0])), AObj.box 30 4 (PV.agg [PV.t (i64 v.p.o), PV.own 9, PV.t (i64 c.d), PV.t (i64 0)]), AObj.vec 33 [PV.fn 36 [] [PV.ptr 0 0, PV.ptr 1 0, PV.ptr 2 0, PV.ptr 3 0], PV.fn 38 [] [PV.ptr 3 0, PV.ptr 1 0, PV.ptr 0 0], PV.fn 39 [] [PV.ptr 0 0, PV.ptr 1 0, PV.ptr 2 0, PV.ptr 3 0, PV.ptr 5 0], PV.fn 40 [] [PV.ptr 0 0, PV.ptr 1 0, PV.ptr 3 0, PV.ptr 6 0], PV.fn 42 [] [PV.ptr 0 0, PV.ptr 5 0, PV.ptr 3 0, PV.ptr 6 0]], AObj.row 3 1 [], AObj.row 3 1 []] })) := by kernel_rfl
theorem opkb16_2_5 (N : Nat) (c : Cf) (k : Int) (x : Px) (v : Rt) (b : Bool) (r : T) : bodyR env (recP env N [pnO1 c k x v true, pnO2 c k x v true, pnO3 c k x v b r]) N 16 8 2 (sOl1 c k x v (T.agg [i64 0, i64 0, i64 0, i64 0, i64 0, i64 0]) 0) = chkP ([PV.ptr 3 0, PV.ptr 1 0, PV.ptr 0 0] = [PV.ptr 3 0, PV.ptr 1 0, PV.ptr 0 0] ∧ [AObj.box 25 6 (PV.t c.t), AObj.box 3 1 (PV.t (i64 k)), AObj.box 27 2 (PV.t x.t), AObj.box 32 6 (PV.t v.t), AObj.box 30 4 (PV.agg [PV.t (i64 0), PV.own 8, PV.t (i64 0), PV.t (i64 0)]), AObj.box 46 6 (PV.t (T.agg [i64 0, i64 0, i64 0, i64 0, i64 0, i64 0])), AObj.box 30 4 (PV.agg [PV.t (i64 v.p.o), PV.own 9, PV.t (i64 c.d), PV.t (i64 0)]), AObj.vec 33 [PV.fn 36 [] [PV.ptr 0 0, PV.ptr 1 0, PV.ptr 2 0, PV.ptr 3 0], PV.fn 38 [] [PV.ptr 3 0, PV.ptr 1 0, PV.ptr 0 0], PV.fn 39 [] [PV.ptr 0 0, PV.ptr 1 0, PV.ptr 2 0, PV.ptr 3 0, PV.ptr 5 0], PV.fn 40 [] [PV.ptr 0 0, PV.ptr 1 0, PV.ptr 3 0, PV.ptr 6 0], PV.fn 42 [] [PV.ptr 0 0, PV.ptr 5 0, PV.ptr 3 0, PV.ptr 6 0]], AObj.row 3 1 [], AObj.row 3 1 []] = [AObj.box 25 6 (PV.t c.t), AObj.box 3 1 (PV.t (i64 k)), AObj.box 27 2 (PV.t x.t), AObj.box 32 6 (PV.t v.t), AObj.box 30 4 (PV.agg [PV.t (i64 0), PV.own 8, PV.t (i64 0), PV.t (i64 0)]), AObj.box 46 6 (PV.t (T.agg [i64 0, i64 0, i64 0, i64 0, i64 0, i64 0])), AObj.box 30 4 (PV.agg [PV.t (i64 v.p.o), PV.own 9, PV.t (i64 c.d), PV.t (i64 0)]), AObj.vec 33 [PV.fn 36 [] [PV.ptr 0 0, PV.ptr 1 0, PV.ptr 2 0, PV.ptr 3 0], PV.fn 38 [] [PV.ptr 3 0, PV.ptr 1 0, PV.ptr 0 0], PV.fn 39 [] [PV.ptr 0 0, PV.ptr 1 0, PV.ptr 2 0, PV.ptr 3 0, PV.ptr 5 0], PV.fn 40 [] [PV.ptr 0 0, PV.ptr 1 0, PV.ptr 3 0, PV.ptr 6 0], PV.fn 42 [] [PV.ptr 0 0, PV.ptr 5 0, PV.ptr 3 0, PV.ptr 6 0]], AObj.row 3 1 [], AObj.row 3 1 []]) (Res.ok (Ex.norm, { tmps := slots 15 [(5, PV.own 7), (6, PV.t (i64 5)), (7, PV.t (i64 2))], heap := [AObj.box 25 6 (PV.t c.t), AObj.box 3 1 (PV.t (i64 k)), AObj.box 27 2 (PV.t x.t), AObj.box 32 6 (PV.t v.t), AObj.box 30 4 (PV.agg [PV.t (i64 0), PV.own 8, PV.t (i64 0), PV.t (i64 0)]), AObj.box 46 6 (PV.t (T.agg [i64 0, i64 0, i64 0, i64 0, i64 0, i64 0])), AObj.box 30 4 (PV.agg [PV.t (i64 v.p.o), PV.own 9, PV.t (i64 c.d), PV.t (i64 0)]), AObj.vec 33 [PV.fn 36 [] [PV.ptr 0 0, PV.ptr 1 0, PV.ptr 2 0, PV.ptr 3 0], PV.fn 38 [] [PV.ptr 3 0, PV.ptr 1 0, PV.ptr 0 0], PV.fn 39 [] [PV.ptr 0 0, PV.ptr 1 0, PV.ptr 2 0, PV.ptr 3 0, PV.ptr 5 0], PV.fn 40 [] [PV.ptr 0 0, PV.ptr 1 0, PV.ptr 3 0, PV.ptr 6 0], PV.fn 42 [] [PV.ptr 0 0, PV.ptr 5 0, PV.ptr 3 0, PV.ptr 6 0]], AObj.row 3 1 [], AObj.row 3 1 []] })) := by kernel_rfl
theorem opkb16_2_6 (N : Nat) (c : Cf) (k : Int) (x : Px) (v : Rt) (b : Bool) (r : T) : bodyR env (recP env N [pnO1 c k x v true, pnO2 c k x v true, pnO3 c k x v b r]) N 16 8 2 (sOl2 c k x v (T.agg [i64 0, i64 0, i64 0, i64 0, i64 0, i64 0]) 0) = chkP ([PV.ptr 0 0, PV.ptr 1 0, PV.ptr 2 0, PV.ptr 3 0, PV.ptr 5 0] = [PV.ptr 0 0, PV.ptr 1 0, PV.ptr 2 0, PV.ptr 3 0, PV.ptr 5 0] ∧ [AObj.box 25 6 (PV.t c.t), AObj.box 3 1 (PV.t (i64 k)), AObj.box 27 2 (PV.t x.t), AObj.box 32 6 (PV.t v.t), AObj.box 30 4 (PV.agg [PV.t (i64 0), PV.own 8, PV.t (i64 0), PV.t (i64 0)]), AObj.box 46 6 (PV.t (T.agg [i64 0, i64 0, i64 0, i64 0, i64 0, i64 0])), AObj.box 30 4 (PV.agg [PV.t (i64 v.p.o), PV.own 9, PV.t (i64 c.d), PV.t (i64 0)]), AObj.vec 33 [PV.fn 36 [] [PV.ptr 0 0, PV.ptr 1 0, PV.ptr 2 0, PV.ptr 3 0], PV.fn 38 [] [PV.ptr 3 0, PV.ptr 1 0, PV.ptr 0 0], PV.fn 39 [] [PV.ptr 0 0, PV.ptr 1 0, PV.ptr 2 0, PV.ptr 3 0, PV.ptr 5 0], PV.fn 40 [] [PV.ptr 0 0, PV.ptr 1 0, PV.ptr 3 0, PV.ptr 6 0], PV.fn 42 [] [PV.ptr 0 0, PV.ptr 5 0, PV.ptr 3 0, PV.ptr 6 0]], AObj.row 3 1 [], AObj.row 3 1 []] = [AObj.box 25 6 (PV.t c.t), AObj.box 3 1 (PV.t (i64 k)), AObj.box 27 2 (PV.t x.t), AObj.box 32 6 (PV.t v.t), AObj.box 30 4 (PV.agg [PV.t (i64 0), PV.own 8, PV.t (i64 0), PV.t (i64 0)]), AObj.box 46 6 (PV.t (T.agg [i64 0, i64 0, i64 0, i64 0, i64 0, i64 0])), AObj.box 30 4 (PV.agg [PV.t (i64 v.p.o), PV.own 9, PV.t (i64 c.d), PV.t (i64 0)]), AObj.vec 33 [PV.fn 36 [] [PV.ptr 0 0, PV.ptr 1 0, PV.ptr 2 0, PV.ptr 3 0], PV.fn 38 [] [PV.ptr 3 0, PV.ptr 1 0, PV.ptr 0 0], PV.fn 39 [] [PV.ptr 0 0, PV.ptr 1 0, PV.ptr 2 0, PV.ptr 3 0, PV.ptr 5 0], PV.fn 40 [] [PV.ptr 0 0, PV.ptr 1 0, PV.ptr 3 0, PV.ptr 6 0], PV.fn 42 [] [PV.ptr 0 0, PV.ptr 5 0, PV.ptr 3 0, PV.ptr 6 0]], AObj.row 3 1 [], AObj.row 3 1 []]) (bif !b then Res.ok (Ex.ret, { tmps := slots 15 [(2, PV.t (T.bool false))], heap := [AObj.box 25 6 (PV.t c.t), AObj.box 3 1 (PV.t (i64 k)), AObj.box 27 2 (PV.t x.t), AObj.box 32 6 (PV.t v.t), AObj.box 30 4 (PV.agg [PV.t (i64 0), PV.own 8, PV.t (i64 0), PV.t (i64 0)]), AObj.box 46 6 (PV.t r), AObj.box 30 4 (PV.agg [PV.t (i64 v.p.o), PV.own 9, PV.t (i64 c.d), PV.t (i64 0)]), AObj.vec 33 [PV.fn 36 [] [PV.ptr 0 0, PV.ptr 1 0, PV.ptr 2 0, PV.ptr 3 0], PV.fn 38 [] [PV.ptr 3 0, PV.ptr 1 0, PV.ptr 0 0], PV.fn 39 [] [PV.ptr 0 0, PV.ptr 1 0, PV.ptr 2 0, PV.ptr 3 0, PV.ptr 5 0], PV.fn 40 [] [PV.ptr 0 0, PV.ptr 1 0, PV.ptr 3 0, PV.ptr 6 0], PV.fn 42 [] [PV.ptr 0 0, PV.ptr 5 0, PV.ptr 3 0, PV.ptr 6 0]], AObj.row 3 1 [], AObj.row 3 1 []] }) else Res.ok (Ex.norm, { tmps := slots 15 [(5, PV.own 7), (6, PV.t (i64 5)), (7, PV.t (i64 3))], heap := [AObj.box 25 6 (PV.t c.t), AObj.box 3 1 (PV.t (i64 k)), AObj.box 27 2 (PV.t x.t), AObj.box 32 6 (PV.t v.t), AObj.box 30 4 (PV.agg [PV.t (i64 0), PV.own 8, PV.t (i64 0), PV.t (i64 0)]), AObj.box 46 6 (PV.t r), AObj.box 30 4 (PV.agg [PV.t (i64 v.p.o), PV.own 9, PV.t (i64 c.d), PV.t (i64 0)]), AObj.vec 33 [PV.fn 36 [] [PV.ptr 0 0, PV.ptr 1 0, PV.ptr 2 0, PV.ptr 3 0], PV.fn 38 [] [PV.ptr 3 0, PV.ptr 1 0, PV.ptr 0 0], PV.fn 39 [] [PV.ptr 0 0, PV.ptr 1 0, PV.ptr 2 0, PV.ptr 3 0, PV.ptr 5 0], PV.fn 40 [] [PV.ptr 0 0, PV.ptr 1 0, PV.ptr 3 0, PV.ptr 6 0], PV.fn 42 [] [PV.ptr 0 0, PV.ptr 5 0, PV.ptr 3 0, PV.ptr 6 0]], AObj.row 3 1 [], AObj.row 3 1 []] })) := by kernel_rfl
theorem opkt16_2_ret_3 (N : Nat) (c : Cf) (k : Int) (x : Px) (v : Rt) (b : Bool) (r : T) (H : List AObj) {β : Type} (K : PV → List AObj → Res β) : tailR env (recP env N [pnO1 c k x v true, pnO2 c k x v true, pnO3 c k x v b r]) N 16 8 2 K (.ret) (⟨slots 15 [(2, .t (.bool false))], H⟩) = K (PV.t (T.bool false)) H := by kernel_rfl
theorem opk16_4 (N : Nat) (c : Cf) (k : Int) (x : Px) (v : Rt) (b : Bool) (r : T) (o : Int) {β : Type} (K : PV → List AObj → Res β) : funK env (recP env N [pnO1 c k x v true, pnO2 c k x v true, pnO3 c k x v true r, pnO4 c k x v b r o]) N 16 [.own 7] [.box 25 6 (.t c.t), .box 3 1 (.t (i64 k)), .box 27 2 (.t x.t), .box 32 6 (.t v.t), .box 30 4 (.agg [.t (i64 0), .nil 3 1, .t (i64 0), .t (i64 0)]), .box 46 6 (.t (T.agg [i64 0, i64 0, i64 0, i64 0, i64 0, i64 0])), .box 30 4 (.agg [.t (i64 v.p.o), .nil 3 1, .t (i64 c.d), .t (i64 0)]), .vec 33 outV] K = loopR env (recP env N [pnO1 c k x v true, pnO2 c k x v true, pnO3 c k x v true r, pnO4 c k x v b r o]) N 16 8 2 K { tmps := slots 15 [(5, PV.own 7), (6, PV.t (i64 5)), (7, PV.t (i64 0))], heap := [AObj.box 25 6 (PV.t c.t), AObj.box 3 1 (PV.t (i64 k)), AObj.box 27 2 (PV.t x.t), AObj.box 32 6 (PV.t v.t), AObj.box 30 4 (PV.agg [PV.t (i64 0), PV.own 8, PV.t (i64 0), PV.t (i64 0)]), AObj.box 46 6 (PV.t (T.agg [i64 0, i64 0, i64 0, i64 0, i64 0, i64 0])), AObj.box 30 4 (PV.agg [PV.t (i64 v.p.o), PV.own 9, PV.t (i64 c.d), PV.t (i64 0)]), AObj.vec 33 [PV.fn 36 [] [PV.ptr 0 0, PV.ptr 1 0, PV.ptr 2 0, PV.ptr 3 0], PV.fn 38 [] [PV.ptr 3 0, PV.ptr 1 0, PV.ptr 0 0], PV.fn 39 [] [PV.ptr 0 0, PV.ptr 1 0, PV.ptr 2 0, PV.ptr 3 0, PV.ptr 5 0], PV.fn 40 [] [PV.ptr 0 0, PV.ptr 1 0, PV.ptr 3 0, PV.ptr 6 0], PV.fn 42 [] [PV.ptr 0 0, PV.ptr 5 0, PV.ptr 3 0, PV.ptr 6 0]], AObj.row 3 1 [], AObj.row 3 1 []] } := by kernel_rfl
theorem opkb16_2_7 (N : Nat) (c : Cf) (k : Int) (x : Px) (v : Rt) (b : Bool) (r : T) (o : Int) : bodyR env (recP env N [pnO1 c k x v true, pnO2 c k x v true, pnO3 c k x v true r, pnO4 c k x v b r o]) N 16 8 2 (sOl0 c k x v (T.agg [i64 0, i64 0, i64 0, i64 0, i64 0, i64 0]) 0) = chkP ([PV.ptr 0 0, PV.ptr 1 0, PV.ptr 2 0, PV.ptr 3 0] = [PV.ptr 0 0, PV.ptr 1 0, PV.ptr 2 0, PV.ptr 3 0] ∧ [AObj.box 25 6 (PV.t c.t), AObj.box 3 1 (PV.t (i64 k)), AObj.box 27 2 (PV.t x.t), AObj.box 32 6 (PV.t v.t), AObj.box 30 4 (PV.agg [PV.t (i64 0), PV.own 8, PV.t (i64 0), PV.t (i64 0)]), AObj.box 46 6 (PV.t (T.agg [i64 0, i64 0, i64 0, i64 0, i64 0, i64 0])), AObj.box 30 4 (PV.agg [PV.t (i64 v.p.o), PV.own 9, PV.t (i64 c.d), PV.t (i64 0)]), AObj.vec 33 [PV.fn 36 [] [PV.ptr 0 0, PV.ptr 1 0, PV.ptr 2 0, PV.ptr 3 0], PV.fn 38 [] [PV.ptr 3 0, PV.ptr 1 0, PV.ptr 0 0], PV.fn 39 [] [PV.ptr 0 0, PV.ptr 1 0, PV.ptr 2 0, PV.ptr 3 0, PV.ptr 5 0], PV.fn 40 [] [PV.ptr 0 0, PV.ptr 1 0, PV.ptr 3 0, PV.ptr 6 0], PV.fn 42 [] [PV.ptr 0 0, PV.ptr 5 0, PV.ptr 3 0, PV.ptr 6 0]], AObj.row 3 1 [], AObj.row 3 1 []] = [AObj.box 25 6 (PV.t c.t), AObj.box 3 1 (PV.t (i64 k)), AObj.box 27 2 (PV.t x.t), AObj.box 32 6 (PV.t v.t), AObj.box 30 4 (PV.agg [PV.t (i64 0), PV.own 8, PV.t (i64 0), PV.t (i64 0)]), AObj.box 46 6 (PV.t (T.agg [i64 0, i64 0, i64 0, i64 0, i64 0, i64 0])), AObj.box 30 4 (PV.agg [PV.t (i64 v.p.o), PV.own 9, PV.t (i64 c.d), PV.t (i64 0)]), AObj.vec 33 [PV.fn 36 [] [PV.ptr 0 0, PV.ptr 1 0, PV.ptr 2 0, PV.ptr 3 0], PV.fn 38 [] [PV.ptr 3 0, PV.ptr 1 0, PV.ptr 0 0], PV.fn 39 [] [PV.ptr 0 0, PV.ptr 1 0, PV.ptr 2 0, PV.ptr 3 0, PV.ptr 5 0], PV.fn 40 [] [PV.ptr 0 0, PV.ptr 1 0, PV.ptr 3 0, PV.ptr 6 0], PV.fn 42 [] [PV.ptr 0 0, PV.ptr 5 0, PV.ptr 3 0, PV.ptr 6 0]], AObj.row 3 1 [], AObj.row 3 1 []]) (Res.ok (Ex.norm, { tmps := slots 15 [(5, PV.own 7), (6, PV.t (i64 5)), (7, PV.t (i64 1))], heap := [AObj.box 25 6 (PV.t c.t), AObj.box 3 1 (PV.t (i64 k)), AObj.box 27 2 (PV.t x.t), AObj.box 32 6 (PV.t v.t), AObj.box 30 4 (PV.agg [PV.t (i64 0), PV.own 8, PV.t (i64 0), PV.t (i64 0)]), AObj.box 46 6 (PV.t (T.agg [i64 0, i64 0, i64 0, i64 0, i64 0, i64 0])), AObj.box 30 4 (PV.agg [PV.t (i64 v.p.o), PV.own 9, PV.t (i64 c.d), PV.t (i64 0)]), AObj.vec 33 [PV.fn 36 [] [PV.ptr 0 0, PV.ptr 1 0, PV.ptr 2 0, PV.ptr 3 0], PV.fn 38 [] [PV.ptr 3 0, PV.ptr 1 0, PV.ptr 0 0], PV.fn 39 [] [PV.ptr 0 0, PV.ptr 1 0, PV.ptr 2 0, PV.ptr 3 0, PV.ptr 5 0], PV.fn 40 [] [PV.ptr 0 0, PV.ptr 1 0, PV.ptr 3 0, PV.ptr 6 0], PV.fn 42 [] [PV.ptr 0 0, PV.ptr 5 0, PV.ptr 3 0, PV.ptr 6 0]], AObj.row 3 1 [], AObj.row 3 1 []] })) := by kernel_rfl
theorem opkb16_2_8 (N : Nat) (c : Cf) (k : Int) (x : Px) (v : Rt) (b : Bool) (r : T) (o : Int) : bodyR env (recP env N [pnO1 c k x v true, pnO2 c k x v true, pnO3 c k x v true r, pnO4 c k x v b r o]) N 16 8 2 (sOl1 c k x v (T.agg [i64 0, i64 0, i64 0, i64 0, i64 0, i64 0]) 0) = chkP ([PV.ptr 3 0, PV.ptr 1 0, PV.ptr 0 0] = [PV.ptr 3 0, PV.ptr 1 0, PV.ptr 0 0] ∧ [AObj.box 25 6 (PV.t c.t), AObj.box 3 1 (PV.t (i64 k)), AObj.box 27 2 (PV.t x.t), AObj.box 32 6 (PV.t v.t), AObj.box 30 4 (PV.agg [PV.t (i64 0), PV.own 8, PV.t (i64 0), PV.t (i64 0)]), AObj.box 46 6 (PV.t (T.agg [i64 0, i64 0, i64 0, i64 0, i64 0, i64 0])), AObj.box 30 4 (PV.agg [PV.t (i64 v.p.o), PV.own 9, PV.t (i64 c.d), PV.t (i64 0)]), AObj.vec 33 [PV.fn 36 [] [PV.ptr 0 0, PV.ptr 1 0, PV.ptr 2 0, PV.ptr 3 0], PV.fn 38 [] [PV.ptr 3 0, PV.ptr 1 0, PV.ptr 0 0], PV.fn 39 [] [PV.ptr 0 0, PV.ptr 1 0, PV.ptr 2 0, PV.ptr 3 0, PV.ptr 5 0], PV.fn 40 [] [PV.ptr 0 0, PV.ptr 1 0, PV.ptr 3 0, PV.ptr 6 0], PV.fn 42 [] [PV.ptr 0 0, PV.ptr 5 0, PV.ptr 3 0, PV.ptr 6 0]], AObj.row 3 1 [], AObj.row 3 1 []] = [AObj.box 25 6 (PV.t c.t), AObj.box 3 1 (PV.t (i64 k)), AObj.box 27 2 (PV.t x.t), AObj.box 32 6 (PV.t v.t), AObj.box 30 4 (PV.agg [PV.t (i64 0), PV.own 8, PV.t (i64 0), PV.t (i64 0)]), AObj.box 46 6 (PV.t (T.agg [i64 0, i64 0, i64 0, i64 0, i64 0, i64 0])), AObj.box 30 4 (PV.agg [PV.t (i64 v.p.o), PV.own 9, PV.t (i64 c.d), PV.t (i64 0)]), AObj.vec 33 [PV.fn 36 [] [PV.ptr 0 0, PV.ptr 1 0, PV.ptr 2 0, PV.ptr 3 0], PV.fn 38 [] [PV.ptr 3 0, PV.ptr 1 0, PV.ptr 0 0], PV.fn 39 [] [PV.ptr 0 0, PV.ptr 1 0, PV.ptr 2 0, PV.ptr 3 0, PV.ptr 5 0], PV.fn 40 [] [PV.ptr 0 0, PV.ptr 1 0, PV.ptr 3 0, PV.ptr 6 0], PV.fn 42 [] [PV.ptr 0 0, PV.ptr 5 0, PV.ptr 3 0, PV.ptr 6 0]], AObj.row 3 1 [], AObj.row 3 1 []]) (Res.ok (Ex.norm, { tmps := slots 15 [(5, PV.own 7), (6, PV.t (i64 5)), (7, PV.t (i64 2))], heap := [AObj.box 25 6 (PV.t c.t), AObj.box 3 1 (PV.t (i64 k)), AObj.box 27 2 (PV.t x.t), AObj.box 32 6 (PV.t v.t), AObj.box 30 4 (PV.agg [PV.t (i64 0), PV.own 8, PV.t (i64 0), PV.t (i64 0)]), AObj.box 46 6 (PV.t (T.agg [i64 0, i64 0, i64 0, i64 0, i64 0, i64 0])), AObj.box 30 4 (PV.agg [PV.t (i64 v.p.o), PV.own 9, PV.t (i64 c.d), PV.t (i64 0)]), AObj.vec 33 [PV.fn 36 [] [PV.ptr 0 0, PV.ptr 1 0, PV.ptr 2 0, PV.ptr 3 0], PV.fn 38 [] [PV.ptr 3 0, PV.ptr 1 0, PV.ptr 0 0], PV.fn 39 [] [PV.ptr 0 0, PV.ptr 1 0, PV.ptr 2 0, PV.ptr 3 0, PV.ptr 5 0], PV.fn 40 [] [PV.ptr 0 0, PV.ptr 1 0, PV.ptr 3 0, PV.ptr 6 0], PV.fn 42 [] [PV.ptr 0 0, PV.ptr 5 0, PV.ptr 3 0, PV.ptr 6 0]], AObj.row 3 1 [], AObj.row 3 1 []] })) := by kernel_rfl
theorem opkb16_2_9 (N : Nat) (c : Cf) (k : Int) (x : Px) (v : Rt) (b : Bool) (r : T) (o : Int) : bodyR env (recP env N [pnO1 c k x v true, pnO2 c k x v true, pnO3 c k x v true r, pnO4 c k x v b r o]) N 16 8 2 (sOl2 c k x v (T.agg [i64 0, i64 0, i64 0, i64 0, i64 0, i64 0]) 0) = chkP ([PV.ptr 0 0, PV.ptr 1 0, PV.ptr 2 0, PV.ptr 3 0, PV.ptr 5 0] = [PV.ptr 0 0, PV.ptr 1 0, PV.ptr 2 0, PV.ptr 3 0, PV.ptr 5 0] ∧ [AObj.box 25 6 (PV.t c.t), AObj.box 3 1 (PV.t (i64 k)), AObj.box 27 2 (PV.t x.t), AObj.box 32 6 (PV.t v.t), AObj.box 30 4 (PV.agg [PV.t (i64 0), PV.own 8, PV.t (i64 0), PV.t (i64 0)]), AObj.box 46 6 (PV.t (T.agg [i64 0, i64 0, i64 0, i64 0, i64 0, i64 0])), AObj.box 30 4 (PV.agg [PV.t (i64 v.p.o), PV.own 9, PV.t (i64 c.d), PV.t (i64 0)]), AObj.vec 33 [PV.fn 36 [] [PV.ptr 0 0, PV.ptr 1 0, PV.ptr 2 0, PV.ptr 3 0], PV.fn 38 [] [PV.ptr 3 0, PV.ptr 1 0, PV.ptr 0 0], PV.fn 39 [] [PV.ptr 0 0, PV.ptr 1 0, PV.ptr 2 0, PV.ptr 3 0, PV.ptr 5 0], PV.fn 40 [] [PV.ptr 0 0, PV.ptr 1 0, PV.ptr 3 0, PV.ptr 6 0], PV.fn 42 [] [PV.ptr 0 0, PV.ptr 5 0, PV.ptr 3 0, PV.ptr 6 0]], AObj.row 3 1 [], AObj.row 3 1 []] = [AObj.box 25 6 (PV.t c.t), AObj.box 3 1 (PV.t (i64 k)), AObj.box 27 2 (PV.t x.t), AObj.box 32 6 (PV.t v.t), AObj.box 30 4 (PV.agg [PV.t (i64 0), PV.own 8, PV.t (i64 0), PV.t (i64 0)]), AObj.box 46 6 (PV.t (T.agg [i64 0, i64 0, i64 0, i64 0, i64 0, i64 0])), AObj.box 30 4 (PV.agg [PV.t (i64 v.p.o), PV.own 9, PV.t (i64 c.d), PV.t (i64 0)]), AObj.vec 33 [PV.fn 36 [] [PV.ptr 0 0, PV.ptr 1 0, PV.ptr 2 0, PV.ptr 3 0], PV.fn 38 [] [PV.ptr 3 0, PV.ptr 1 0, PV.ptr 0 0], PV.fn 39 [] [PV.ptr 0 0, PV.ptr 1 0, PV.ptr 2 0, PV.ptr 3 0, PV.ptr 5 0], PV.fn 40 [] [PV.ptr 0 0, PV.ptr 1 0, PV.ptr 3 0, PV.ptr 6 0], PV.fn 42 [] [PV.ptr 0 0, PV.ptr 5 0, PV.ptr 3 0, PV.ptr 6 0]], AObj.row 3 1 [], AObj.row 3 1 []]) (Res.ok (Ex.norm, { tmps := slots 15 [(5, PV.own 7), (6, PV.t (i64 5)), (7, PV.t (i64 3))], heap := [AObj.box 25 6 (PV.t c.t), AObj.box 3 1 (PV.t (i64 k)), AObj.box 27 2 (PV.t x.t), AObj.box 32 6 (PV.t v.t), AObj.box 30 4 (PV.agg [PV.t (i64 0), PV.own 8, PV.t (i64 0), PV.t (i64 0)]), AObj.box 46 6 (PV.t r), AObj.box 30 4 (PV.agg [PV.t (i64 v.p.o), PV.own 9, PV.t (i64 c.d), PV.t (i64 0)]), AObj.vec 33 [PV.fn 36 [] [PV.ptr 0 0, PV.ptr 1 0, PV.ptr 2 0, PV.ptr 3 0], PV.fn 38 [] [PV.ptr 3 0, PV.ptr 1 0, PV.ptr 0 0], PV.fn 39 [] [PV.ptr 0 0, PV.ptr 1 0, PV.ptr 2 0, PV.ptr 3 0, PV.ptr 5 0], PV.fn 40 [] [PV.ptr 0 0, PV.ptr 1 0, PV.ptr 3 0, PV.ptr 6 0], PV.fn 42 [] [PV.ptr 0 0, PV.ptr 5 0, PV.ptr 3 0, PV.ptr 6 0]], AObj.row 3 1 [], AObj.row 3 1 []] })) := by kernel_rfl
theorem opkb16_2_10 (N : Nat) (c : Cf) (k : Int) (x : Px) (v : Rt) (b : Bool) (r : T) (o : Int) : bodyR env (recP env N [pnO1 c k x v true, pnO2 c k x v true, pnO3 c k x v true r, pnO4 c k x v b r o]) N 16 8 2 (sOl3 c k x v r 0) = chkP ([PV.ptr 0 0, PV.ptr 1 0, PV.ptr 3 0, PV.ptr 6 0] = [PV.ptr 0 0, PV.ptr 1 0, PV.ptr 3 0, PV.ptr 6 0] ∧ [AObj.box 25 6 (PV.t c.t), AObj.box 3 1 (PV.t (i64 k)), AObj.box 27 2 (PV.t x.t), AObj.box 32 6 (PV.t v.t), AObj.box 30 4 (PV.agg [PV.t (i64 0), PV.own 8, PV.t (i64 0), PV.t (i64 0)]), AObj.box 46 6 (PV.t r), AObj.box 30 4 (PV.agg [PV.t (i64 v.p.o), PV.own 9, PV.t (i64 c.d), PV.t (i64 0)]), AObj.vec 33 [PV.fn 36 [] [PV.ptr 0 0, PV.ptr 1 0, PV.ptr 2 0, PV.ptr 3 0], PV.fn 38 [] [PV.ptr 3 0, PV.ptr 1 0, PV.ptr 0 0], PV.fn 39 [] [PV.ptr 0 0, PV.ptr 1 0, PV.ptr 2 0, PV.ptr 3 0, PV.ptr 5 0], PV.fn 40 [] [PV.ptr 0 0, PV.ptr 1 0, PV.ptr 3 0, PV.ptr 6 0], PV.fn 42 [] [PV.ptr 0 0, PV.ptr 5 0, PV.ptr 3 0, PV.ptr 6 0]], AObj.row 3 1 [], AObj.row 3 1 []] = [AObj.box 25 6 (PV.t c.t), AObj.box 3 1 (PV.t (i64 k)), AObj.box 27 2 (PV.t x.t), AObj.box 32 6 (PV.t v.t), AObj.box 30 4 (PV.agg [PV.t (i64 0), PV.own 8, PV.t (i64 0), PV.t (i64 0)]), AObj.box 46 6 (PV.t r), AObj.box 30 4 (PV.agg [PV.t (i64 v.p.o), PV.own 9, PV.t (i64 c.d), PV.t (i64 0)]), AObj.vec 33 [PV.fn 36 [] [PV.ptr 0 0, PV.ptr 1 0, PV.ptr 2 0, PV.ptr 3 0], PV.fn 38 [] [PV.ptr 3 0, PV.ptr 1 0, PV.ptr 0 0], PV.fn 39 [] [PV.ptr 0 0, PV.ptr 1 0, PV.ptr 2 0, PV.ptr 3 0, PV.ptr 5 0], PV.fn 40 [] [PV.ptr 0 0, PV.ptr 1 0, PV.ptr 3 0, PV.ptr 6 0], PV.fn 42 [] [PV.ptr 0 0, PV.ptr 5 0, PV.ptr 3 0, PV.ptr 6 0]], AObj.row 3 1 [], AObj.row 3 1 []]) (bif !b then Res.ok (Ex.ret, { tmps := slots 15 [(2, PV.t (T.bool false))], heap := [AObj.box 25 6 (PV.t c.t), AObj.box 3 1 (PV.t (i64 k)), AObj.box 27 2 (PV.t x.t), AObj.box 32 6 (PV.t v.t), AObj.box 30 4 (PV.agg [PV.t (i64 0), PV.own 8, PV.t (i64 0), PV.t (i64 0)]), AObj.box 46 6 (PV.t r), AObj.box 30 4 (PV.agg [PV.t (i64 v.p.o), PV.own 9, PV.t (i64 c.d), PV.t (i64 o)]), AObj.vec 33 [PV.fn 36 [] [PV.ptr 0 0, PV.ptr 1 0, PV.ptr 2 0, PV.ptr 3 0], PV.fn 38 [] [PV.ptr 3 0, PV.ptr 1 0, PV.ptr 0 0], PV.fn 39 [] [PV.ptr 0 0, PV.ptr 1 0, PV.ptr 2 0, PV.ptr 3 0, PV.ptr 5 0], PV.fn 40 [] [PV.ptr 0 0, PV.ptr 1 0, PV.ptr 3 0, PV.ptr 6 0], PV.fn 42 [] [PV.ptr 0 0, PV.ptr 5 0, PV.ptr 3 0, PV.ptr 6 0]], AObj.row 3 1 [], AObj.row 3 1 []] }) else Res.ok (Ex.norm, { tmps := slots 15 [(5, PV.own 7), (6, PV.t (i64 5)), (7, PV.t (i64 4))], heap := [AObj.box 25 6 (PV.t c.t), AObj.box 3 1 (PV.t (i64 k)), AObj.box 27 2 (PV.t x.t), AObj.box 32 6 (PV.t v.t), AObj.box 30 4 (PV.agg [PV.t (i64 0), PV.own 8, PV.t (i64 0), PV.t (i64 0)]), AObj.box 46 6 (PV.t r), AObj.box 30 4 (PV.agg [PV.t (i64 v.p.o), PV.own 9, PV.t (i64 c.d), PV.t (i64 o)]), AObj.vec 33 [PV.fn 36 [] [PV.ptr 0 0, PV.ptr 1 0, PV.ptr 2 0, PV.ptr 3 0], PV.fn 38 [] [PV.ptr 3 0, PV.ptr 1 0, PV.ptr 0 0], PV.fn 39 [] [PV.ptr 0 0, PV.ptr 1 0, PV.ptr 2 0, PV.ptr 3 0, PV.ptr 5 0], PV.fn 40 [] [PV.ptr 0 0, PV.ptr 1 0, PV.ptr 3 0, PV.ptr 6 0], PV.fn 42 [] [PV.ptr 0 0, PV.ptr 5 0, PV.ptr 3 0, PV.ptr 6 0]], AObj.row 3 1 [], AObj.row 3 1 []] })) := by kernel_rfl
theorem opkt16_2_ret_4 (N : Nat) (c : Cf) (k : Int) (x : Px) (v : Rt) (b : Bool) (r : T) (o : Int) (H : List AObj) {β : Type} (K : PV → List AObj → Res β) : tailR env (recP env N [pnO1 c k x v true, pnO2 c k x v true, pnO3 c k x v true r, pnO4 c k x v b r o]) N 16 8 2 K (.ret) (⟨slots 15 [(2, .t (.bool false))], H⟩) = K (PV.t (T.bool false)) H := by kernel_rfl
theorem opk16_5 (N : Nat) (c : Cf) (k : Int) (x : Px) (v : Rt) (b : Bool) (r : T) (o : Int) (s : T) (f : List T) {β : Type} (K : PV → List AObj → Res β) : funK env (recP env N [pnO1 c k x v true, pnO2 c k x v true, pnO3 c k x v true r, pnO4 c k x v true r o, pnO5 c k x v b r o s f]) N 16 [.own 7] [.box 25 6 (.t c.t), .box 3 1 (.t (i64 k)), .box 27 2 (.t x.t), .box 32 6 (.t v.t), .box 30 4 (.agg [.t (i64 0), .nil 3 1, .t (i64 0), .t (i64 0)]), .box 46 6 (.t (T.agg [i64 0, i64 0, i64 0, i64 0, i64 0, i64 0])), .box 30 4 (.agg [.t (i64 v.p.o), .nil 3 1, .t (i64 c.d), .t (i64 0)]), .vec 33 outV] K = loopR env (recP env N [pnO1 c k x v true, pnO2 c k x v true, pnO3 c k x v true r, pnO4 c k x v true r o, pnO5 c k x v b r o s f]) N 16 8 2 K { tmps := slots 15 [(5, PV.own 7), (6, PV.t (i64 5)), (7, PV.t (i64 0))], heap := [AObj.box 25 6 (PV.t c.t), AObj.box 3 1 (PV.t (i64 k)), AObj.box 27 2 (PV.t x.t), AObj.box 32 6 (PV.t v.t), AObj.box 30 4 (PV.agg [PV.t (i64 0), PV.own 8, PV.t (i64 0), PV.t (i64 0)]), AObj.box 46 6 (PV.t (T.agg [i64 0, i64 0, i64 0, i64 0, i64 0, i64 0])), AObj.box 30 4 (PV.agg [PV.t (i64 v.p.o), PV.own 9, PV.t (i64 c.d), PV.t (i64 0)]), AObj.vec 33 [PV.fn 36 [] [PV.ptr 0 0, PV.ptr 1 0, PV.ptr 2 0, PV.ptr 3 0], PV.fn 38 [] [PV.ptr 3 0, PV.ptr 1 0, PV.ptr 0 0], PV.fn 39 [] [PV.ptr 0 0, PV.ptr 1 0, PV.ptr 2 0, PV.ptr 3 0, PV.ptr 5 0], PV.fn 40 [] [PV.ptr 0 0, PV.ptr 1 0, PV.ptr 3 0, PV.ptr 6 0], PV.fn 42 [] [PV.ptr 0 0, PV.ptr 5 0, PV.ptr 3 0, PV.ptr 6 0]], AObj.row 3 1 [], AObj.row 3 1 []] } := by kernel_rfl
theorem opkb16_2_11 (N : Nat) (c : Cf) (k : Int) (x : Px) (v : Rt) (b : Bool) (r : T) (o : Int) (s : T) (f : List T) : bodyR env (recP env N [pnO1 c k x v true, pnO2 c k x v true, pnO3 c k x v true r, pnO4 c k x v true r o, pnO5 c k x v b r o s f]) N 16 8 2 (sOl0 c k x v (T.agg [i64 0, i64 0, i64 0, i64 0, i64 0, i64 0]) 0) = chkP ([PV.ptr 0 0, PV.ptr 1 0, PV.ptr 2 0, PV.ptr 3 0] = [PV.ptr 0 0, PV.ptr 1 0, PV.ptr 2 0, PV.ptr 3 0] ∧ [AObj.box 25 6 (PV.t c.t), AObj.box 3 1 (PV.t (i64 k)), AObj.box 27 2 (PV.t x.t), AObj.box 32 6 (PV.t v.t), AObj.box 30 4 (PV.agg [PV.t (i64 0), PV.own 8, PV.t (i64 0), PV.t (i64 0)]), AObj.box 46 6 (PV.t (T.agg [i64 0, i64 0, i64 0, i64 0, i64 0, i64 0])), AObj.box 30 4 (PV.agg [PV.t (i64 v.p.o), PV.own 9, PV.t (i64 c.d), PV.t (i64 0)]), AObj.vec 33 [PV.fn 36 [] [PV.ptr 0 0, PV.ptr 1 0, PV.ptr 2 0, PV.ptr 3 0], PV.fn 38 [] [PV.ptr 3 0, PV.ptr 1 0, PV.ptr 0 0], PV.fn 39 [] [PV.ptr 0 0, PV.ptr 1 0, PV.ptr 2 0, PV.ptr 3 0, PV.ptr 5 0], PV.fn 40 [] [PV.ptr 0 0, PV.ptr 1 0, PV.ptr 3 0, PV.ptr 6 0], PV.fn 42 [] [PV.ptr 0 0, PV.ptr 5 0, PV.ptr 3 0, PV.ptr 6 0]], AObj.row 3 1 [], AObj.row 3 1 []] = [AObj.box 25 6 (PV.t c.t), AObj.box 3 1 (PV.t (i64 k)), AObj.box 27 2 (PV.t x.t), AObj.box 32 6 (PV.t v.t), AObj.box 30 4 (PV.agg [PV.t (i64 0), PV.own 8, PV.t (i64 0), PV.t (i64 0)]), AObj.box 46 6 (PV.t (T.agg [i64 0, i64 0, i64 0, i64 0, i64 0, i64 0])), AObj.box 30 4 (PV.agg [PV.t (i64 v.p.o), PV.own 9, PV.t (i64 c.d), PV.t (i64 0)]), AObj.vec 33 [PV.fn 36 [] [PV.ptr 0 0, PV.ptr 1 0, PV.ptr 2 0, PV.ptr 3 0], PV.fn 38 [] [PV.ptr 3 0, PV.ptr 1 0, PV.ptr 0 0], PV.fn 39 [] [PV.ptr 0 0, PV.ptr 1 0, PV.ptr 2 0, PV.ptr 3 0, PV.ptr 5 0], PV.fn 40 [] [PV.ptr 0 0, PV.ptr 1 0, PV.ptr 3 0, PV.ptr 6 0], PV.fn 42 [] [PV.ptr 0 0, PV.ptr 5 0, PV.ptr 3 0, PV.ptr 6 0]], AObj.row 3 1 [], AObj.row 3 1 []]) (Res.ok (Ex.norm, { tmps := slots 15 [(5, PV.own 7), (6, PV.t (i64 5)), (7, PV.t (i64 1))], heap := [AObj.box 25 6 (PV.t c.t), AObj.box 3 1 (PV.t (i64 k)), AObj.box 27 2 (PV.t x.t), AObj.box 32 6 (PV.t v.t), AObj.box 30 4 (PV.agg [PV.t (i64 0), PV.own 8, PV.t (i64 0), PV.t (i64 0)]), AObj.box 46 6 (PV.t (T.agg [i64 0, i64 0, i64 0, i64 0, i64 0, i64 0])), AObj.box 30 4 (PV.agg [PV.t (i64 v.p.o), PV.own 9, PV.t (i64 c.d), PV.t (i64 0)]), AObj.vec 33 [PV.fn 36 [] [PV.ptr 0 0, PV.ptr 1 0, PV.ptr 2 0, PV.ptr 3 0], PV.fn 38 [] [PV.ptr 3 0, PV.ptr 1 0, PV.ptr 0 0], PV.fn 39 [] [PV.ptr 0 0, PV.ptr 1 0, PV.ptr 2 0, PV.ptr 3 0, PV.ptr 5 0], PV.fn 40 [] [PV.ptr 0 0, PV.ptr 1 0, PV.ptr 3 0, PV.ptr 6 0], PV.fn 42 [] [PV.ptr 0 0, PV.ptr 5 0, PV.ptr 3 0, PV.ptr 6 0]], AObj.row 3 1 [], AObj.row 3 1 []] })) := by kernel_rfl
theorem opkb16_2_12 (N : Nat) (c : Cf) (k : Int) (x : Px) (v : Rt) (b : Bool) (r : T) (o : Int) (s : T) (f : List T) : bodyR env (recP env N [pnO1 c k x v true, pnO2 c k x v true, pnO3 c k x v true r, pnO4 c k x v true r o, pnO5 c k x v b r o s f]) N 16 8 2 (sOl1 c k x v (T.agg [i64 0, i64 0, i64 0, i64 0, i64 0, i64 0]) 0) = chkP ([PV.ptr 3 0, PV.ptr 1 0, PV.ptr 0 0] = [PV.ptr 3 0, PV.ptr 1 0, PV.ptr 0 0] ∧ [AObj.box 25 6 (PV.t c.t), AObj.box 3 1 (PV.t (i64 k)), AObj.box 27 2 (PV.t x.t), AObj.box 32 6 (PV.t v.t), AObj.box 30 4 (PV.agg [PV.t (i64 0), PV.own 8, PV.t (i64 0), PV.t (i64 0)]), AObj.box 46 6 (PV.t (T.agg [i64 0, i64 0, i64 0, i64 0, i64 0, i64 0])), AObj.box 30 4 (PV.agg [PV.t (i64 v.p.o), PV.own 9, PV.t (i64 c.d), PV.t (i64 0)]), AObj.vec 33 [PV.fn 36 [] [PV.ptr 0 0, PV.ptr 1 0, PV.ptr 2 0, PV.ptr 3 0], PV.fn 38 [] [PV.ptr 3 0, PV.ptr 1 0, PV.ptr 0 0], PV.fn 39 [] [PV.ptr 0 0, PV.ptr 1 0, PV.ptr 2 0, PV.ptr 3 0, PV.ptr 5 0], PV.fn 40 [] [PV.ptr 0 0, PV.ptr 1 0, PV.ptr 3 0, PV.ptr 6 0], PV.fn 42 [] [PV.ptr 0 0, PV.ptr 5 0, PV.ptr 3 0, PV.ptr 6 0]], AObj.row 3 1 [], AObj.row 3 1 []] = [AObj.box 25 6 (PV.t c.t), AObj.box 3 1 (PV.t (i64 k)), AObj.box 27 2 (PV.t x.t), AObj.box 32 6 (PV.t v.t), AObj.box 30 4 (PV.agg [PV.t (i64 0), PV.own 8, PV.t (i64 0), PV.t (i64 0)]), AObj.box 46 6 (PV.t (T.agg [i64 0, i64 0, i64 0, i64 0, i64 0, i64 0])), AObj.box 30 4 (PV.agg [PV.t (i64 v.p.o), PV.own 9, PV.t (i64 c.d), PV.t (i64 0)]), AObj.vec 33 [PV.fn 36 [] [PV.ptr 0 0, PV.ptr 1 0, PV.ptr 2 0, PV.ptr 3 0], PV.fn 38 [] [PV.ptr 3 0, PV.ptr 1 0, PV.ptr 0 0], PV.fn 39 [] [PV.ptr 0 0, PV.ptr 1 0, PV.ptr 2 0, PV.ptr 3 0, PV.ptr 5 0], PV.fn 40 [] [PV.ptr 0 0, PV.ptr 1 0, PV.ptr 3 0, PV.ptr 6 0], PV.fn 42 [] [PV.ptr 0 0, PV.ptr 5 0, PV.ptr 3 0, PV.ptr 6 0]], AObj.row 3 1 [], AObj.row 3 1 []]) (Res.ok (Ex.norm, { tmps := slots 15 [(5, PV.own 7), (6, PV.t (i64 5)), (7, PV.t (i64 2))], heap := [AObj.box 25 6 (PV.t c.t), AObj.box 3 1 (PV.t (i64 k)), AObj.box 27 2 (PV.t x.t), AObj.box 32 6 (PV.t v.t), AObj.box 30 4 (PV.agg [PV.t (i64 0), PV.own 8, PV.t (i64 0), PV.t (i64 0)]), AObj.box 46 6 (PV.t (T.agg [i64 0, i64 0, i64 0, i64 0, i64 0, i64 0])), AObj.box 30 4 (PV.agg [PV.t (i64 v.p.o), PV.own 9, PV.t (i64 c.d), PV.t (i64 0)]), AObj.vec 33 [PV.fn 36 [] [PV.ptr 0 0, PV.ptr 1 0, PV.ptr 2 0, PV.ptr 3 0], PV.fn 38 [] [PV.ptr 3 0, PV.ptr 1 0, PV.ptr 0 0], PV.fn 39 [] [PV.ptr 0 0, PV.ptr 1 0, PV.ptr 2 0, PV.ptr 3 0, PV.ptr 5 0], PV.fn 40 [] [PV.ptr 0 0, PV.ptr 1 0, PV.ptr 3 0, PV.ptr 6 0], PV.fn 42 [] [PV.ptr 0 0, PV.ptr 5 0, PV.ptr 3 0, PV.ptr 6 0]], AObj.row 3 1 [], AObj.row 3 1 []] })) := by kernel_rfl
theorem opkb16_2_13 (N : Nat) (c : Cf) (k : Int) (x : Px) (v : Rt) (b : Bool) (r : T) (o : Int) (s : T) (f : List T) : bodyR env (recP env N [pnO1 c k x v true, pnO2 c k x v true, pnO3 c k x v true r, pnO4 c k x v true r o, pnO5 c k x v b r o s f]) N 16 8 2 (sOl2 c k x v (T.agg [i64 0, i64 0, i64 0, i64 0, i64 0, i64 0]) 0) = chkP ([PV.ptr 0 0, PV.ptr 1 0, PV.ptr 2 0, PV.ptr 3 0, PV.ptr 5 0] = [PV.ptr 0 0, PV.ptr 1 0, PV.ptr 2 0, PV.ptr 3 0, PV.ptr 5 0] ∧ [AObj.box 25 6 (PV.t c.t), AObj.box 3 1 (PV.t (i64 k)), AObj.box 27 2 (PV.t x.t), AObj.box 32 6 (PV.t v.t), AObj.box 30 4 (PV.agg [PV.t (i64 0), PV.own 8, PV.t (i64 0), PV.t (i64 0)]), AObj.box 46 6 (PV.t (T.agg [i64 0, i64 0, i64 0, i64 0, i64 0, i64 0])), AObj.box 30 4 (PV.agg [PV.t (i64 v.p.o), PV.own 9, PV.t (i64 c.d), PV.t (i64 0)]), AObj.vec 33 [PV.fn 36 [] [PV.ptr 0 0, PV.ptr 1 0, PV.ptr 2 0, PV.ptr 3 0], PV.fn 38 [] [PV.ptr 3 0, PV.ptr 1 0, PV.ptr 0 0], PV.fn 39 [] [PV.ptr 0 0, PV.ptr 1 0, PV.ptr 2 0, PV.ptr 3 0, PV.ptr 5 0], PV.fn 40 [] [PV.ptr 0 0, PV.ptr 1 0, PV.ptr 3 0, PV.ptr 6 0], PV.fn 42 [] [PV.ptr 0 0, PV.ptr 5 0, PV.ptr 3 0, PV.ptr 6 0]], AObj.row 3 1 [], AObj.row 3 1 []] = [AObj.box 25 6 (PV.t c.t), AObj.box 3 1 (PV.t (i64 k)), AObj.box 27 2 (PV.t x.t), AObj.box 32 6 (PV.t v.t), AObj.box 30 4 (PV.agg [PV.t (i64 0), PV.own 8, PV.t (i64 0), PV.t (i64 0)]), AObj.box 46 6 (PV.t (T.agg [i64 0, i64 0, i64 0, i64 0, i64 0, i64 0])), AObj.box 30 4 (PV.agg [PV.t (i64 v.p.o), PV.own 9, PV.t (i64 c.d), PV.t (i64 0)]), AObj.vec 33 [PV.fn 36 [] [PV.ptr 0 0, PV.ptr 1 0, PV.ptr 2 0, PV.ptr 3 0], PV.fn 38 [] [PV.ptr 3 0, PV.ptr 1 0, PV.ptr 0 0], PV.fn 39 [] [PV.ptr 0 0, PV.ptr 1 0, PV.ptr 2 0, PV.ptr 3 0, PV.ptr 5 0], PV.fn 40 [] [PV.ptr 0 0, PV.ptr 1 0, PV.ptr 3 0, PV.ptr 6 0], PV.fn 42 [] [PV.ptr 0 0, PV.ptr 5 0, PV.ptr 3 0, PV.ptr 6 0]], AObj.row 3 1 [], AObj.row 3 1 []]) (Res.ok (Ex.norm, { tmps := slots 15 [(5, PV.own 7), (6, PV.t (i64 5)), (7, PV.t (i64 3))], heap := [AObj.box 25 6 (PV.t c.t), AObj.box 3 1 (PV.t (i64 k)), AObj.box 27 2 (PV.t x.t), AObj.box 32 6 (PV.t v.t), AObj.box 30 4 (PV.agg [PV.t (i64 0), PV.own 8, PV.t (i64 0), PV.t (i64 0)]), AObj.box 46 6 (PV.t r), AObj.box 30 4 (PV.agg [PV.t (i64 v.p.o), PV.own 9, PV.t (i64 c.d), PV.t (i64 0)]), AObj.vec 33 [PV.fn 36 [] [PV.ptr 0 0, PV.ptr 1 0, PV.ptr 2 0, PV.ptr 3 0], PV.fn 38 [] [PV.ptr 3 0, PV.ptr 1 0, PV.ptr 0 0], PV.fn 39 [] [PV.ptr 0 0, PV.ptr 1 0, PV.ptr 2 0, PV.ptr 3 0, PV.ptr 5 0], PV.fn 40 [] [PV.ptr 0 0, PV.ptr 1 0, PV.ptr 3 0, PV.ptr 6 0], PV.fn 42 [] [PV.ptr 0 0, PV.ptr 5 0, PV.ptr 3 0, PV.ptr 6 0]], AObj.row 3 1 [], AObj.row 3 1 []] })) := by kernel_rfl
theorem opkb16_2_14 (N : Nat) (c : Cf) (k : Int) (x : Px) (v : Rt) (b : Bool) (r : T) (o : Int) (s : T) (f : List T) : bodyR env (recP env N [pnO1 c k x v true, pnO2 c k x v true, pnO3 c k x v true r, pnO4 c k x v true r o, pnO5 c k x v b r o s f]) N 16 8 2 (sOl3 c k x v r 0) = chkP ([PV.ptr 0 0, PV.ptr 1 0, PV.ptr 3 0, PV.ptr 6 0] = [PV.ptr 0 0, PV.ptr 1 0, PV.ptr 3 0, PV.ptr 6 0] ∧ [AObj.box 25 6 (PV.t c.t), AObj.box 3 1 (PV.t (i64 k)), AObj.box 27 2 (PV.t x.t), AObj.box 32 6 (PV.t v.t), AObj.box 30 4 (PV.agg [PV.t (i64 0), PV.own 8, PV.t (i64 0), PV.t (i64 0)]), AObj.box 46 6 (PV.t r), AObj.box 30 4 (PV.agg [PV.t (i64 v.p.o), PV.own 9, PV.t (i64 c.d), PV.t (i64 0)]), AObj.vec 33 [PV.fn 36 [] [PV.ptr 0 0, PV.ptr 1 0, PV.ptr 2 0, PV.ptr 3 0], PV.fn 38 [] [PV.ptr 3 0, PV.ptr 1 0, PV.ptr 0 0], PV.fn 39 [] [PV.ptr 0 0, PV.ptr 1 0, PV.ptr 2 0, PV.ptr 3 0, PV.ptr 5 0], PV.fn 40 [] [PV.ptr 0 0, PV.ptr 1 0, PV.ptr 3 0, PV.ptr 6 0], PV.fn 42 [] [PV.ptr 0 0, PV.ptr 5 0, PV.ptr 3 0, PV.ptr 6 0]], AObj.row 3 1 [], AObj.row 3 1 []] = [AObj.box 25 6 (PV.t c.t), AObj.box 3 1 (PV.t (i64 k)), AObj.box 27 2 (PV.t x.t), AObj.box 32 6 (PV.t v.t), AObj.box 30 4 (PV.agg [PV.t (i64 0), PV.own 8, PV.t (i64 0), PV.t (i64 0)]), AObj.box 46 6 (PV.t r), AObj.box 30 4 (PV.agg [PV.t (i64 v.p.o), PV.own 9, PV.t (i64 c.d), PV.t (i64 0)]), AObj.vec 33 [PV.fn 36 [] [PV.ptr 0 0, PV.ptr 1 0, PV.ptr 2 0, PV.ptr 3 0], PV.fn 38 [] [PV.ptr 3 0, PV.ptr 1 0, PV.ptr 0 0], PV.fn 39 [] [PV.ptr 0 0, PV.ptr 1 0, PV.ptr 2 0, PV.ptr 3 0, PV.ptr 5 0], PV.fn 40 [] [PV.ptr 0 0, PV.ptr 1 0, PV.ptr 3 0, PV.ptr 6 0], PV.fn 42 [] [PV.ptr 0 0, PV.ptr 5 0, PV.ptr 3 0, PV.ptr 6 0]], AObj.row 3 1 [], AObj.row 3 1 []]) (Res.ok (Ex.norm, { tmps := slots 15 [(5, PV.own 7), (6, PV.t (i64 5)), (7, PV.t (i64 4))], heap := [AObj.box 25 6 (PV.t c.t), AObj.box 3 1 (PV.t (i64 k)), AObj.box 27 2 (PV.t x.t), AObj.box 32 6 (PV.t v.t), AObj.box 30 4 (PV.agg [PV.t (i64 0), PV.own 8, PV.t (i64 0), PV.t (i64 0)]), AObj.box 46 6 (PV.t r), AObj.box 30 4 (PV.agg [PV.t (i64 v.p.o), PV.own 9, PV.t (i64 c.d), PV.t (i64 o)]), AObj.vec 33 [PV.fn 36 [] [PV.ptr 0 0, PV.ptr 1 0, PV.ptr 2 0, PV.ptr 3 0], PV.fn 38 [] [PV.ptr 3 0, PV.ptr 1 0, PV.ptr 0 0], PV.fn 39 [] [PV.ptr 0 0, PV.ptr 1 0, PV.ptr 2 0, PV.ptr 3 0, PV.ptr 5 0], PV.fn 40 [] [PV.ptr 0 0, PV.ptr 1 0, PV.ptr 3 0, PV.ptr 6 0], PV.fn 42 [] [PV.ptr 0 0, PV.ptr 5 0, PV.ptr 3 0, PV.ptr 6 0]], AObj.row 3 1 [], AObj.row 3 1 []] })) := by kernel_rfl
theorem opkb16_2_15 (N : Nat) (c : Cf) (k : Int) (x : Px) (v : Rt) (b : Bool) (r : T) (o : Int) (s : T) (f : List T) : bodyR env (recP env N [pnO1 c k x v true, pnO2 c k x v true, pnO3 c k x v true r, pnO4 c k x v true r o, pnO5 c k x v b r o s f]) N 16 8 2 (sOl4 c k x v r o) = chkP ([PV.ptr 0 0, PV.ptr 5 0, PV.ptr 3 0, PV.ptr 6 0] = [PV.ptr 0 0, PV.ptr 5 0, PV.ptr 3 0, PV.ptr 6 0] ∧ [AObj.box 25 6 (PV.t c.t), AObj.box 3 1 (PV.t (i64 k)), AObj.box 27 2 (PV.t x.t), AObj.box 32 6 (PV.t v.t), AObj.box 30 4 (PV.agg [PV.t (i64 0), PV.own 8, PV.t (i64 0), PV.t (i64 0)]), AObj.box 46 6 (PV.t r), AObj.box 30 4 (PV.agg [PV.t (i64 v.p.o), PV.own 9, PV.t (i64 c.d), PV.t (i64 o)]), AObj.vec 33 [PV.fn 36 [] [PV.ptr 0 0, PV.ptr 1 0, PV.ptr 2 0, PV.ptr 3 0], PV.fn 38 [] [PV.ptr 3 0, PV.ptr 1 0, PV.ptr 0 0], PV.fn 39 [] [PV.ptr 0 0, PV.ptr 1 0, PV.ptr 2 0, PV.ptr 3 0, PV.ptr 5 0], PV.fn 40 [] [PV.ptr 0 0, PV.ptr 1 0, PV.ptr 3 0, PV.ptr 6 0], PV.fn 42 [] [PV.ptr 0 0, PV.ptr 5 0, PV.ptr 3 0, PV.ptr 6 0]], AObj.row 3 1 [], AObj.row 3 1 []] = [AObj.box 25 6 (PV.t c.t), AObj.box 3 1 (PV.t (i64 k)), AObj.box 27 2 (PV.t x.t), AObj.box 32 6 (PV.t v.t), AObj.box 30 4 (PV.agg [PV.t (i64 0), PV.own 8, PV.t (i64 0), PV.t (i64 0)]), AObj.box 46 6 (PV.t r), AObj.box 30 4 (PV.agg [PV.t (i64 v.p.o), PV.own 9, PV.t (i64 c.d), PV.t (i64 o)]), AObj.vec 33 [PV.fn 36 [] [PV.ptr 0 0, PV.ptr 1 0, PV.ptr 2 0, PV.ptr 3 0], PV.fn 38 [] [PV.ptr 3 0, PV.ptr 1 0, PV.ptr 0 0], PV.fn 39 [] [PV.ptr 0 0, PV.ptr 1 0, PV.ptr 2 0, PV.ptr 3 0, PV.ptr 5 0], PV.fn 40 [] [PV.ptr 0 0, PV.ptr 1 0, PV.ptr 3 0, PV.ptr 6 0], PV.fn 42 [] [PV.ptr 0 0, PV.ptr 5 0, PV.ptr 3 0, PV.ptr 6 0]], AObj.row 3 1 [], AObj.row 3 1 []]) (bif !b then Res.ok (Ex.ret, { tmps := slots 15 [(2, PV.t (T.bool false))], heap := [AObj.box 25 6 (PV.t c.t), AObj.box 3 1 (PV.t (i64 k)), AObj.box 27 2 (PV.t x.t), AObj.box 32 6 (PV.t v.t), AObj.box 30 4 (PV.agg [PV.t (i64 0), PV.own 8, PV.t (i64 0), PV.t (i64 0)]), AObj.box 46 6 (PV.t r), AObj.box 30 4 (PV.t (T.agg [i64 v.p.o, s, i64 c.d, i64 o])), AObj.vec 33 [PV.fn 36 [] [PV.ptr 0 0, PV.ptr 1 0, PV.ptr 2 0, PV.ptr 3 0], PV.fn 38 [] [PV.ptr 3 0, PV.ptr 1 0, PV.ptr 0 0], PV.fn 39 [] [PV.ptr 0 0, PV.ptr 1 0, PV.ptr 2 0, PV.ptr 3 0, PV.ptr 5 0], PV.fn 40 [] [PV.ptr 0 0, PV.ptr 1 0, PV.ptr 3 0, PV.ptr 6 0], PV.fn 42 [] [PV.ptr 0 0, PV.ptr 5 0, PV.ptr 3 0, PV.ptr 6 0]], AObj.row 3 1 [], AObj.row 3 1 [], AObj.frow 28 1 f] }) else Res.ok (Ex.norm, { tmps := slots 15 [(5, PV.own 7), (6, PV.t (i64 5)), (7, PV.t (i64 5))], heap := [AObj.box 25 6 (PV.t c.t), AObj.box 3 1 (PV.t (i64 k)), AObj.box 27 2 (PV.t x.t), AObj.box 32 6 (PV.t v.t), AObj.box 30 4 (PV.agg [PV.t (i64 0), PV.own 8, PV.t (i64 0), PV.t (i64 0)]), AObj.box 46 6 (PV.t r), AObj.box 30 4 (PV.t (T.agg [i64 v.p.o, s, i64 c.d, i64 o])), AObj.vec 33 [PV.fn 36 [] [PV.ptr 0 0, PV.ptr 1 0, PV.ptr 2 0, PV.ptr 3 0], PV.fn 38 [] [PV.ptr 3 0, PV.ptr 1 0, PV.ptr 0 0], PV.fn 39 [] [PV.ptr 0 0, PV.ptr 1 0, PV.ptr 2 0, PV.ptr 3 0, PV.ptr 5 0], PV.fn 40 [] [PV.ptr 0 0, PV.ptr 1 0, PV.ptr 3 0, PV.ptr 6 0], PV.fn 42 [] [PV.ptr 0 0, PV.ptr 5 0, PV.ptr 3 0, PV.ptr 6 0]], AObj.row 3 1 [], AObj.row 3 1 [], AObj.frow 28 1 f] })) := by kernel_rfl
theorem opkb16_2_16 (N : Nat) (c : Cf) (k : Int) (x : Px) (v : Rt) (b : Bool) (r : T) (o : Int) (s : T) (f : List T) : bodyR env (recP env N [pnO1 c k x v true, pnO2 c k x v true, pnO3 c k x v true r, pnO4 c k x v true r o, pnO5 c k x v b r o s f]) N 16 8 2 (sOl5 c k x v r o s f) = Res.ok (Ex.exit 0, { tmps := slots 15 [], heap := [AObj.box 25 6 (PV.t c.t), AObj.box 3 1 (PV.t (i64 k)), AObj.box 27 2 (PV.t x.t), AObj.box 32 6 (PV.t v.t), AObj.box 30 4 (PV.agg [PV.t (i64 0), PV.own 8, PV.t (i64 0), PV.t (i64 0)]), AObj.box 46 6 (PV.t r), AObj.box 30 4 (PV.t (T.agg [i64 v.p.o, s, i64 c.d, i64 o])), AObj.vec 33 [PV.fn 36 [] [PV.ptr 0 0, PV.ptr 1 0, PV.ptr 2 0, PV.ptr 3 0], PV.fn 38 [] [PV.ptr 3 0, PV.ptr 1 0, PV.ptr 0 0], PV.fn 39 [] [PV.ptr 0 0, PV.ptr 1 0, PV.ptr 2 0, PV.ptr 3 0, PV.ptr 5 0], PV.fn 40 [] [PV.ptr 0 0, PV.ptr 1 0, PV.ptr 3 0, PV.ptr 6 0], PV.fn 42 [] [PV.ptr 0 0, PV.ptr 5 0, PV.ptr 3 0, PV.ptr 6 0]], AObj.row 3 1 [], AObj.row 3 1 [], AObj.frow 28 1 f] }) := by kernel_rfl
theorem opkt16_2_ret_5 (N : Nat) (c : Cf) (k : Int) (x : Px) (v : Rt) (b : Bool) (r : T) (o : Int) (s : T) (f : List T) (H : List AObj) {β : Type} (K : PV → List AObj → Res β) : tailR env (recP env N [pnO1 c k x v true, pnO2 c k x v true, pnO3 c k x v true r, pnO4 c k x v true r o, pnO5 c k x v b r o s f]) N 16 8 2 K (.ret) (⟨slots 15 [(2, .t (.bool false))], H⟩) = K (PV.t (T.bool false)) H := by kernel_rfl
theorem opkt16_2_exit0 (N : Nat) (c : Cf) (k : Int) (x : Px) (v : Rt) (b : Bool) (r : T) (o : Int) (s : T) (f : List T) (H : List AObj) {β : Type} (K : PV → List AObj → Res β) : tailR env (recP env N [pnO1 c k x v true, pnO2 c k x v true, pnO3 c k x v true r, pnO4 c k x v true r o, pnO5 c k x v b r o s f]) N 16 8 2 K (.exit 0) (⟨slots 15 [], H⟩) = K (PV.t (T.bool true)) H := by kernel_rfl
theorem pq8 (N : Nat) (c : Cf) (k : Int) (x : Px) (v : Rt) (b : Bool) (r : T) (o : Int) : funK env (recP env N [pnOA c k x v b r o]) N 8 [.t (c.t), .t (i64 k), .t (x.t), .t (v.t)] [] (outK env 8) = chkAll (fun p => ((match p with | PV.t x => x.cells.length == 1 && !x.isTup | PV.agg cs => cs.length == 1 | PV.tup xs => false | PV.junk => false | x => true) && !match p with | PV.agg cs => true | x => false) && !match p with | PV.t x => x.isAgg | x => false) [PV.fn 36 [] [PV.ptr 0 0, PV.ptr 1 0, PV.ptr 2 0, PV.ptr 3 0], PV.fn 38 [] [PV.ptr 3 0, PV.ptr 1 0, PV.ptr 0 0], PV.fn 39 [] [PV.ptr 0 0, PV.ptr 1 0, PV.ptr 2 0, PV.ptr 3 0, PV.ptr 5 0], PV.fn 40 [] [PV.ptr 0 0, PV.ptr 1 0, PV.ptr 3 0, PV.ptr 6 0], PV.fn 42 [] [PV.ptr 0 0, PV.ptr 5 0, PV.ptr 3 0, PV.ptr 6 0]] (chkP ([PV.own 7] = [PV.own 7] ∧ [AObj.box 25 6 (PV.t c.t), AObj.box 3 1 (PV.t (i64 k)), AObj.box 27 2 (PV.t x.t), AObj.box 32 6 (PV.t v.t), AObj.box 30 4 (PV.agg [PV.t (i64 0), PV.nil 3 1, PV.t (i64 0), PV.t (i64 0)]), AObj.box 46 6 (PV.t (T.agg [i64 0, i64 0, i64 0, i64 0, i64 0, i64 0])), AObj.box 30 4 (PV.agg [PV.t (i64 v.p.o), PV.nil 3 1, PV.t (i64 c.d), PV.t (i64 0)]), AObj.vec 33 [PV.fn 36 [] [PV.ptr 0 0, PV.ptr 1 0, PV.ptr 2 0, PV.ptr 3 0], PV.fn 38 [] [PV.ptr 3 0, PV.ptr 1 0, PV.ptr 0 0], PV.fn 39 [] [PV.ptr 0 0, PV.ptr 1 0, PV.ptr 2 0, PV.ptr 3 0, PV.ptr 5 0], PV.fn 40 [] [PV.ptr 0 0, PV.ptr 1 0, PV.ptr 3 0, PV.ptr 6 0], PV.fn 42 [] [PV.ptr 0 0, PV.ptr 5 0, PV.ptr 3 0, PV.ptr 6 0]]] = [AObj.box 25 6 (PV.t c.t), AObj.box 3 1 (PV.t (i64 k)), AObj.box 27 2 (PV.t x.t), AObj.box 32 6 (PV.t v.t), AObj.box 30 4 (PV.agg [PV.t (i64 0), PV.nil 3 1, PV.t (i64 0), PV.t (i64 0)]), AObj.box 46 6 (PV.t (T.agg [i64 0, i64 0, i64 0, i64 0, i64 0, i64 0])), AObj.box 30 4 (PV.agg [PV.t (i64 v.p.o), PV.nil 3 1, PV.t (i64 c.d), PV.t (i64 0)]), AObj.vec 33 [PV.fn 36 [] [PV.ptr 0 0, PV.ptr 1 0, PV.ptr 2 0, PV.ptr 3 0], PV.fn 38 [] [PV.ptr 3 0, PV.ptr 1 0, PV.ptr 0 0], PV.fn 39 [] [PV.ptr 0 0, PV.ptr 1 0, PV.ptr 2 0, PV.ptr 3 0, PV.ptr 5 0], PV.fn 40 [] [PV.ptr 0 0, PV.ptr 1 0, PV.ptr 3 0, PV.ptr 6 0], PV.fn 42 [] [PV.ptr 0 0, PV.ptr 5 0, PV.ptr 3 0, PV.ptr 6 0]]]) (bif !b then Res.ok (T.tup [T.agg [i64 0, T.sl 1 [], i64 0, i64 0], T.bool false]) else Res.ok (T.tup [T.agg [i64 v.p.o, T.sl 1 [], i64 c.d, i64 o], T.bool true]))) := by kernel_rfl
theorem pq8_2 (N : Nat) (c : Cf) (k : Int) (x : Px) (v : Rt) (b : Bool) (r : T) (o : Int) (s : T) (f : List T) : funK env (recP env N [pnOB c k x v b r o s f]) N 8 [.t (c.t), .t (i64 k), .t (x.t), .t (v.t)] [] (outK env 8) = chkAll (fun p => ((match p with | PV.t x => x.cells.length == 1 && !x.isTup | PV.agg cs => cs.length == 1 | PV.tup xs => false | PV.junk => false | x => true) && !match p with | PV.agg cs => true | x => false) && !match p with | PV.t x => x.isAgg | x => false) [PV.fn 36 [] [PV.ptr 0 0, PV.ptr 1 0, PV.ptr 2 0, PV.ptr 3 0], PV.fn 38 [] [PV.ptr 3 0, PV.ptr 1 0, PV.ptr 0 0], PV.fn 39 [] [PV.ptr 0 0, PV.ptr 1 0, PV.ptr 2 0, PV.ptr 3 0, PV.ptr 5 0], PV.fn 40 [] [PV.ptr 0 0, PV.ptr 1 0, PV.ptr 3 0, PV.ptr 6 0], PV.fn 42 [] [PV.ptr 0 0, PV.ptr 5 0, PV.ptr 3 0, PV.ptr 6 0]] (chkP ([PV.own 7] = [PV.own 7] ∧ [AObj.box 25 6 (PV.t c.t), AObj.box 3 1 (PV.t (i64 k)), AObj.box 27 2 (PV.t x.t), AObj.box 32 6 (PV.t v.t), AObj.box 30 4 (PV.agg [PV.t (i64 0), PV.nil 3 1, PV.t (i64 0), PV.t (i64 0)]), AObj.box 46 6 (PV.t (T.agg [i64 0, i64 0, i64 0, i64 0, i64 0, i64 0])), AObj.box 30 4 (PV.agg [PV.t (i64 v.p.o), PV.nil 3 1, PV.t (i64 c.d), PV.t (i64 0)]), AObj.vec 33 [PV.fn 36 [] [PV.ptr 0 0, PV.ptr 1 0, PV.ptr 2 0, PV.ptr 3 0], PV.fn 38 [] [PV.ptr 3 0, PV.ptr 1 0, PV.ptr 0 0], PV.fn 39 [] [PV.ptr 0 0, PV.ptr 1 0, PV.ptr 2 0, PV.ptr 3 0, PV.ptr 5 0], PV.fn 40 [] [PV.ptr 0 0, PV.ptr 1 0, PV.ptr 3 0, PV.ptr 6 0], PV.fn 42 [] [PV.ptr 0 0, PV.ptr 5 0, PV.ptr 3 0, PV.ptr 6 0]]] = [AObj.box 25 6 (PV.t c.t), AObj.box 3 1 (PV.t (i64 k)), AObj.box 27 2 (PV.t x.t), AObj.box 32 6 (PV.t v.t), AObj.box 30 4 (PV.agg [PV.t (i64 0), PV.nil 3 1, PV.t (i64 0), PV.t (i64 0)]), AObj.box 46 6 (PV.t (T.agg [i64 0, i64 0, i64 0, i64 0, i64 0, i64 0])), AObj.box 30 4 (PV.agg [PV.t (i64 v.p.o), PV.nil 3 1, PV.t (i64 c.d), PV.t (i64 0)]), AObj.vec 33 [PV.fn 36 [] [PV.ptr 0 0, PV.ptr 1 0, PV.ptr 2 0, PV.ptr 3 0], PV.fn 38 [] [PV.ptr 3 0, PV.ptr 1 0, PV.ptr 0 0], PV.fn 39 [] [PV.ptr 0 0, PV.ptr 1 0, PV.ptr 2 0, PV.ptr 3 0, PV.ptr 5 0], PV.fn 40 [] [PV.ptr 0 0, PV.ptr 1 0, PV.ptr 3 0, PV.ptr 6 0], PV.fn 42 [] [PV.ptr 0 0, PV.ptr 5 0, PV.ptr 3 0, PV.ptr 6 0]]]) (bif !b then Res.ok (T.tup [T.agg [i64 0, T.sl 1 [], i64 0, i64 0], T.bool false]) else Res.ok (T.tup [T.agg [i64 v.p.o, s, i64 c.d, i64 o], T.bool true]))) := by kernel_rfl
end Go.Sim

/- What slices.Repeat and the five questions of edge.Out come to. -/
namespace Go.Sim
open Go.RowKit Go.Proofs
set_option linter.unusedVariables false
set_option linter.unusedSimpArgs false
set_option linter.unusedSectionVars false
set_option maxRecDepth 100000

/-- A row of n, of which the first j are written. -/
def rl (x : T) (n j : Nat) : List T := List.replicate j x ++ List.replicate (n - j) (i64 0)
theorem rl_len (x : T) {n j : Nat} (h : j ≤ n) : (rl x n j).length = n := by simp [rl]; omega
theorem rl_take (x : T) {n j : Nat} : (rl x n j).take j = List.replicate j x := by
  unfold rl; rw [List.take_append_of_le_length (by simp)]; simp
theorem rl_step (x : T) {n j : Nat} (h : j ≤ n) : spliceT (rl x n j) j ((List.replicate j x).take (n - j)) = rl x n (j + min j (n - j)) := by
  unfold spliceT
  rw [rl_take, List.take_replicate, List.length_replicate]
  unfold rl
  rw [List.drop_append, List.length_replicate, List.drop_eq_nil_of_le (by simp), List.nil_append, List.drop_replicate, List.replicate_append_replicate, Nat.min_comm]
  congr 2
  omega
variable [Lv]
theorem rep_b {M n j : Nat} {x : T} (h1 : 1 ≤ j) (h : j < n) (hn : n ≤ big) : bodyL env M 44 0 8 (sRp (rl x n j) j) = .ok (.norm, sRp (rl x n (j + min j (n - j))) ((j + min j (n - j) : Nat) : Int)) := by
  have hl := rl_len x (Nat.le_of_lt h)
  rw [b44_8, hl, Int.toNat_natCast, Nat.zero_add, Nat.zero_add, decide_eq_true (show (j : Int) < (n : Int) by omega), decide_eq_true (show (0 : Int) ≤ (j : Int) by omega), decide_eq_true (show (j : Int) ≤ (n : Int) by omega), decide_eq_true (show j ≤ n by omega), decide_eq_true (Nat.le_refl n),
    List.drop_zero, rl_take, List.length_replicate]
  simp only [Bool.and_self, cond_true, chk_true]
  rw [rl_step x (Nat.le_of_lt h), show ((j : Int) + ((min j (n - j) : Nat) : Int)) = ((j + min j (n - j) : Nat) : Int) by omega, wrap_nat (by omega)]
theorem rep_loop {M n : Nat} {x : T} (hn : n ≤ big) : ∀ (d j k : Nat), n - j ≤ d → 1 ≤ j → j ≤ n → d < k → iterR (bodyL env M 44 0 8) k (sRp (rl x n j) j) = .ok (.exit 0, ⟨slots 48 [(7, .own 0)], [.row 3 1 (List.replicate n x)]⟩)
  | d, j, 0, _, _, _, h => by omega
  | d, j, k + 1, h1, h2, h3, h4 => by
    rcases Nat.eq_or_lt_of_le h3 with rfl | h5
    · have hb : bodyL env M 44 0 8 (sRp (rl x j j) j) = .ok (.exit 0, ⟨slots 48 [(7, .own 0)], [.row 3 1 (List.replicate j x)]⟩) := by
        rw [b44_8, rl_len x (Nat.le_refl j), decide_eq_false (by omega)]
        simp only [cond_false]
        rw [show rl x j j = List.replicate j x by simp [rl]]
      exact iterR_exit hb
    · rw [iterR_step (rep_b h2 h5 hn)]
      exact rep_loop hn (d - 1) _ k (by omega) (by omega) (by omega) (by omega)
theorem mul64_ok {M n : Nat} (h1 : 1 ≤ n) (h2 : n ≤ 9) : callP env (M + 1) 76 [.int .u64 (IntKind.u64.wrap 1), .int .u64 (IntKind.u64.wrap (n : Int))] = .ok (.tup [.int .u64 0, .int .u64 n]) := by
  have hc : n = 1 ∨ n = 2 ∨ n = 3 ∨ n = 4 ∨ n = 5 ∨ n = 6 ∨ n = 7 ∨ n = 8 ∨ n = 9 := by omega
  clear h1 h2
  rcases hc with rfl | rfl | rfl | rfl | rfl | rfl | rfl | rfl | rfl
  all_goals rw [q76, W_ok rfl]; rfl
theorem mul_ok {M n : Nat} (h1 : 1 ≤ n) (h2 : n ≤ 9) : callP env (M + 2) 66 [.int .u64 (IntKind.u64.wrap 1), .int .u64 (IntKind.u64.wrap (n : Int))] = .ok (.tup [.int .u64 0, .int .u64 n]) := by
  have hm := mul64_ok (M := M) h1 h2
  have hc : n = 1 ∨ n = 2 ∨ n = 3 ∨ n = 4 ∨ n = 5 ∨ n = 6 ∨ n = 7 ∨ n = 8 ∨ n = 9 := by omega
  clear h1 h2
  rcases hc with rfl | rfl | rfl | rfl | rfl | rfl | rfl | rfl | rfl
  all_goals
    rw [q66, W_ok rfl, cl_ok hm]
    rfl
theorem f44_ok {M n : Nat} {a : Int} (hM : 12 ≤ M) (h1 : 1 ≤ n) (h2 : n ≤ 9) (ha : ok64 a = true) : callP env (M + 1) 44 [.sl 1 [i64 a], i64 n] = .ok (.sl 1 (ints (List.replicate n a))) := by
  obtain ⟨m, rfl⟩ := exM (show 1 ≤ M by omega)
  obtain ⟨m, rfl⟩ := exM (show 1 ≤ m by omega)
  have hbg := big_val
  have hn : ok64 (n : Int) = true := ok64_iff.2 (by omega)
  have hw : (T.sl 1 [i64 a]).wf = true := wf_ints (l := [a]) ⟨show 1 ≤ big by omega, fun x hx => by rw [List.mem_singleton.1 hx]; exact ha⟩
  rw [q44, W_ok (wfs2 hw (wf_int hn)), decide_eq_false (show ¬ (n : Int) < 0 by omega)]
  simp only [cond_false]
  rw [cl_ok (mul_ok h1 h2)]
  have iu : ∀ {β : Type} {n : Int} {K : Int → Res β}, iT .u64 (.int .u64 n) K = K n := fun {β n K} => rfl
  simp only [compT, List.getElem?_cons_zero, List.getElem?_cons_succ, iu]
  rw [decide_eq_false (show ¬ (0 : Int) > 0 by omega), decide_eq_false (show ¬ (n : Int) > 9223372036854775807 by omega), wrap_nat (by omega), Int.toNat_natCast, decide_eq_true (show (0 : Int) ≤ (n : Int) by omega), decide_eq_true (show (n : Int) ≤ (n : Int) by omega), decide_eq_true (show n * 8 ≤ 140737488355328 by omega),
    decide_eq_true (Nat.le_refl _), List.length_replicate]
  simp only [cond_false, Bool.and_self, chk_true]
  have e : sRp (spliceT (List.replicate n (i64 0)) 0 (List.take n [i64 a])) ((min 1 n : Nat) : Int) = sRp (rl (i64 a) n 1) ((1 : Nat) : Int) := by
    obtain ⟨n, rfl⟩ := exM h1
    have e1 : min 1 (n + 1) = 1 := by omega
    have e2 : List.take (n + 1) [i64 a] = [i64 a] := by cases n <;> rfl
    have e3 : spliceT (List.replicate (n + 1) (i64 0)) 0 [i64 a] = rl (i64 a) (n + 1) 1 := rfl
    rw [e1, e2, e3]
  rw [e]
  refine (loopL_end (rep_loop (n := n) (by omega) (n - 1) 1 (m + 1 + 1) (by omega) (by omega) (by omega) (by omega))).trans ?_
  refine (t44_8_exit0 (m + 1 + 1) (List.replicate n (i64 a)) 0).trans ?_
  rw [ints_map, List.map_replicate]

theorem pinO1 {M : Nat} {c : Cf} {k : Int} {x : Px} {v : Rt} (hM : big + 15 ≤ M) (h : c.ok) (hk : ok64 k = true) (hx : x.ok) (hv : v.ok) : PinOk env (M + 1) (pnO1 c k x v (csane c && (hasB c k && (psane x && rtsane v)))) := fun β K => by
  obtain ⟨m, rfl⟩ := exM (show 1 ≤ M by omega)
  refine (k36 (m + 1) c k x v _ 0 K).trans ?_
  rw [clB_ok (f18_ok (by omega) h)]
  unfold pnO1
  cases csane c with
  | false => rfl
  | true =>
  rw [cond_true, clB_ok (f19_ok h hk)]
  cases hasB c k with
  | false => rfl
  | true =>
  rw [cond_true, clB_ok (f20_ok hx (by omega))]
  cases psane x with
  | false => rfl
  | true =>
  rw [cond_true, cl_ok (f37_ok (by omega) hv)]
  rfl
theorem pinO2 {M : Nat} {c : Cf} {k : Int} {x : Px} {v : Rt} : PinOk env (M + 1) (pnO2 c k x v (decide (v.f ≠ k) && decide (v.f < (c.s.length : Int)))) := fun β K => by
  refine (k38 M c k x v _ 0 K).trans ?_
  unfold pnO2
  rw [List.length_map]
  by_cases h : v.f = k
  · rw [h, bne_self_eq_false, decide_eq_false (show ¬ k ≠ k from fun e => e rfl)]; rfl
  · rw [bne_iff_ne.2 h, decide_eq_true (show v.f ≠ k from h)]; rfl
theorem pinO3 {M : Nat} {c : Cf} {k : Nat} {x : Px} {v : Rt} {s : Sd} (hM : big + 10 ≤ M) (hs : c.s[k]? = some s) (h : c.ok) (hx : x.ok) (hv : v.ok) :
    PinOk env (M + 1) (pnO3 c k x v (match pickR s.o (vwI x v.p (classI c v.f)) with | some r => r.a != 0 | none => false) (match pickR s.o (vwI x v.p (classI c v.f)) with | some r => r.t | none => T.agg [i64 0, i64 0, i64 0, i64 0, i64 0, i64 0])) := fun β K => by
  obtain ⟨m, rfl⟩ := exM (show 1 ≤ M by omega)
  have ho := h.s.2 _ (List.mem_of_getElem? hs)
  refine (k39 (m + 1) c k x v _ 0 K).trans ?_
  rw [atT_get (map_get hs), cl_ok (f10_ok (by omega) h hv.f)]
  have hc : ok64 (classI c v.f) = true := by
    unfold classI
    split
    · split
      · rename_i t ht; exact (h.s.2 _ (List.mem_of_getElem? ht)).r
      · rfl
    · rfl
  have hvw : (vwI x v.p (classI c v.f)).ok := ⟨hx, pa_ints hv.p, hc⟩
  have hc := f28_ok (M := m) (by omega) ho.o hvw
  refine Eq.trans (show _ = cl (m + 1) 28 [.sl 6 (s.o.map Ru.t), (vwI x v.p (classI c v.f)).t] _ from rfl) ?_
  refine (cl_ok hc).trans ?_
  cases pickR s.o (vwI x v.p (classI c v.f)) <;> rfl
theorem pinO4 {M : Nat} {c : Cf} {k : Nat} {x : Px} {v : Rt} {s : Sd} {r : T} (hM : 2 ≤ M) (hs : c.s[k]? = some s) (h : c.ok) (hv : v.ok) : PinOk env (M + 1) (pnO4 c k x v (roleOut s.r c.a v.p.c).isSome r ((roleOut s.r c.a v.p.c).getD 0)) := fun β K => by
  obtain ⟨m, rfl⟩ := exM (show 1 ≤ M by omega)
  have ho := h.s.2 _ (List.mem_of_getElem? hs)
  refine (k40 (m + 1) c k x v r 0 K).trans ?_
  rw [atT_get (map_get hs)]
  refine (cl_ok (f41_ok (M := m) (by omega) ho.r h.a hv.p.c)).trans ?_
  rfl
def preT (c : Cf) (u : Ru) (v : Rt) : List T := [.sl 1 (ints (List.replicate (1 + u.n).toNat c.a)), .sl 1 (ints v.p.s)]
theorem pinO5 {M : Nat} {c : Cf} {k : Int} {x : Px} {v : Rt} {u : Ru} {o : Int} (hM : 14 ≤ M) (h : c.ok) (hv : v.ok) (h0 : 0 ≤ u.n) (h8 : u.n ≤ 8) (h32 : v.p.s.length ≤ 32) :
    PinOk env (M + 1) (pnO5 c k x v (decide ((preR c u v).length ≤ 32)) u.t o (.sl 1 (ints (preR c u v))) (preT c u v)) := fun β K => by
  obtain ⟨m, rfl⟩ := exM (show 1 ≤ M by omega)
  have hbg := big_val
  refine (k42 (m + 1) c k x v u.t o K).trans ?_
  obtain ⟨n, hn⟩ : ∃ n : Nat, u.n = n := ⟨u.n.toNat, by omega⟩
  have hr := f44_ok (M := m) (n := n + 1) (a := c.a) (by omega) (by omega) (by omega) h.a
  have hlen : ([List.replicate (n + 1) c.a, v.p.s] : List (List Int)).flatten = preR c u v := by
    unfold preR; rw [hn, show (1 + (n : Int)).toNat = n + 1 by omega]; simp
  have hpl : (preR c u v).length = n + 1 + v.p.s.length := by rw [← hlen]; simp
  have ok2 : okL (okL okI) [List.replicate (n + 1) c.a, v.p.s] := ⟨show 2 ≤ big by omega, fun y hy => by
    simp only [List.mem_cons, List.not_mem_nil, or_false] at hy
    rcases hy with rfl | rfl
    · exact ⟨by rw [List.length_replicate]; omega, fun z hz => by rw [(List.mem_replicate.1 hz).2]; exact h.a⟩
    · exact pa_ints hv.p⟩
  have hc := f43_ok (M := m) (l := [List.replicate (n + 1) c.a, v.p.s]) (by simp; omega) ok2 (by rw [hlen, hpl]; omega)
  have e1 : u.t.partD 5 1 false = i64 u.n := rfl
  have e0 : chkAll (T.okE 1) [i64 c.a] = fun (K : Res β) => K := rfl
  rw [e0, e1]
  simp only [iT_int]
  rw [hn, show (1 : Int) + (n : Int) = ((n + 1 : Nat) : Int) by omega, wrap_nat (by omega), cl_ok hr]
  refine Eq.trans (show _ = cl (m + 1) 43 [.sl 1 (List.map (fun a => T.sl 1 (ints a)) [List.replicate (n + 1) c.a, v.p.s])] _ from rfl) ?_
  refine (cl_ok hc).trans ?_
  rw [hlen]
  unfold pnO5 preT
  rw [hn, show (1 + (n : Int)).toNat = n + 1 by omega]
  have e2 : decide ((((ints (preR c u v)).length : Nat) : Int) ≤ 32) = decide ((preR c u v).length ≤ 32) := by rw [ints_map, List.length_map]; exact decide_eq_decide.2 (by omega)
  rw [← e2]
  rfl
end Go.Sim

/- What edge.all comes to over the five questions of edge.Out: printed by wip/tools/gens14h.py. -/
namespace Go.Sim
open Go.RowKit Go.Proofs
set_option linter.unusedVariables false
set_option linter.unusedSimpArgs false
set_option linter.unusedSectionVars false
set_option maxRecDepth 100000
variable [Lv]

theorem outAll1 {M : Nat} {c : Cf} {k : Int} {x : Px} {v : Rt} (hM : 6 ≤ M) (h : PinsOk env M [pnO1 c k x v false]) : PinOk env (M + 1) (pnOA c k x v false (T.agg [i64 0, i64 0, i64 0, i64 0, i64 0, i64 0]) 0) := by
  refine runK_pin h ?_
  refine (opk16 M c k x v false _).trans ?_
  have it : ∀ n, iterR (bodyR env (recP env M [pnO1 c k x v false]) M 16 8 2) (n + 1) (sOl0 c k x v (T.agg [i64 0, i64 0, i64 0, i64 0, i64 0, i64 0]) 0) = .ok (.ret, ⟨slots 15 [(2, .t (.bool false))], outH c k x v (T.agg [i64 0, i64 0, i64 0, i64 0, i64 0, i64 0]) 0⟩) := fun n => by
    exact iterR_ret (n := n) ((opkb16_2 M c k x v false).trans chkP_same)
  obtain ⟨n, hn⟩ : ∃ n, M = n + 1 := ⟨M - 1, by omega⟩
  have it' : iterR (bodyR env (recP env M [pnO1 c k x v false]) M 16 8 2) M (sOl0 c k x v (T.agg [i64 0, i64 0, i64 0, i64 0, i64 0, i64 0]) 0) = _ := (congrArg (fun z => iterR (bodyR env (recP env M [pnO1 c k x v false]) M 16 8 2) z (sOl0 c k x v (T.agg [i64 0, i64 0, i64 0, i64 0, i64 0, i64 0]) 0)) hn).trans (it n)
  exact (loopR_end it').trans (opkt16_2_ret M c k x v false _ _)
theorem outAll2 {M : Nat} {c : Cf} {k : Int} {x : Px} {v : Rt} (hM : 6 ≤ M) (h : PinsOk env M [pnO1 c k x v true, pnO2 c k x v false]) : PinOk env (M + 1) (pnOA c k x v false (T.agg [i64 0, i64 0, i64 0, i64 0, i64 0, i64 0]) 0) := by
  refine runK_pin h ?_
  refine (opk16_2 M c k x v false _).trans ?_
  have it : ∀ n, iterR (bodyR env (recP env M [pnO1 c k x v true, pnO2 c k x v false]) M 16 8 2) (n + 2) (sOl0 c k x v (T.agg [i64 0, i64 0, i64 0, i64 0, i64 0, i64 0]) 0) = .ok (.ret, ⟨slots 15 [(2, .t (.bool false))], outH c k x v (T.agg [i64 0, i64 0, i64 0, i64 0, i64 0, i64 0]) 0⟩) := fun n => by
    refine (iterR_step (n := n + 1) (s' := sOl1 c k x v (T.agg [i64 0, i64 0, i64 0, i64 0, i64 0, i64 0]) 0) ((opkb16_2_2 M c k x v false).trans chkP_same)).trans ?_
    exact iterR_ret (n := n) ((opkb16_2_3 M c k x v false).trans chkP_same)
  obtain ⟨n, hn⟩ : ∃ n, M = n + 2 := ⟨M - 2, by omega⟩
  have it' : iterR (bodyR env (recP env M [pnO1 c k x v true, pnO2 c k x v false]) M 16 8 2) M (sOl0 c k x v (T.agg [i64 0, i64 0, i64 0, i64 0, i64 0, i64 0]) 0) = _ := (congrArg (fun z => iterR (bodyR env (recP env M [pnO1 c k x v true, pnO2 c k x v false]) M 16 8 2) z (sOl0 c k x v (T.agg [i64 0, i64 0, i64 0, i64 0, i64 0, i64 0]) 0)) hn).trans (it n)
  exact (loopR_end it').trans (opkt16_2_ret_2 M c k x v false _ _)
theorem outAll3 {M : Nat} {c : Cf} {k : Int} {x : Px} {v : Rt} {r : T} (hM : 6 ≤ M) (h : PinsOk env M [pnO1 c k x v true, pnO2 c k x v true, pnO3 c k x v false r]) : PinOk env (M + 1) (pnOA c k x v false r 0) := by
  refine runK_pin h ?_
  refine (opk16_3 M c k x v false r _).trans ?_
  have it : ∀ n, iterR (bodyR env (recP env M [pnO1 c k x v true, pnO2 c k x v true, pnO3 c k x v false r]) M 16 8 2) (n + 3) (sOl0 c k x v (T.agg [i64 0, i64 0, i64 0, i64 0, i64 0, i64 0]) 0) = .ok (.ret, ⟨slots 15 [(2, .t (.bool false))], outH c k x v r 0⟩) := fun n => by
    refine (iterR_step (n := n + 2) (s' := sOl1 c k x v (T.agg [i64 0, i64 0, i64 0, i64 0, i64 0, i64 0]) 0) ((opkb16_2_4 M c k x v false r).trans chkP_same)).trans ?_
    refine (iterR_step (n := n + 1) (s' := sOl2 c k x v (T.agg [i64 0, i64 0, i64 0, i64 0, i64 0, i64 0]) 0) ((opkb16_2_5 M c k x v false r).trans chkP_same)).trans ?_
    exact iterR_ret (n := n) ((opkb16_2_6 M c k x v false r).trans chkP_same)
  obtain ⟨n, hn⟩ : ∃ n, M = n + 3 := ⟨M - 3, by omega⟩
  have it' : iterR (bodyR env (recP env M [pnO1 c k x v true, pnO2 c k x v true, pnO3 c k x v false r]) M 16 8 2) M (sOl0 c k x v (T.agg [i64 0, i64 0, i64 0, i64 0, i64 0, i64 0]) 0) = _ := (congrArg (fun z => iterR (bodyR env (recP env M [pnO1 c k x v true, pnO2 c k x v true, pnO3 c k x v false r]) M 16 8 2) z (sOl0 c k x v (T.agg [i64 0, i64 0, i64 0, i64 0, i64 0, i64 0]) 0)) hn).trans (it n)
  exact (loopR_end it').trans (opkt16_2_ret_3 M c k x v false r _ _)
theorem outAll4 {M : Nat} {c : Cf} {k : Int} {x : Px} {v : Rt} {r : T} {o : Int} (hM : 6 ≤ M) (h : PinsOk env M [pnO1 c k x v true, pnO2 c k x v true, pnO3 c k x v true r, pnO4 c k x v false r o]) : PinOk env (M + 1) (pnOA c k x v false r o) := by
  refine runK_pin h ?_
  refine (opk16_4 M c k x v false r o _).trans ?_
  have it : ∀ n, iterR (bodyR env (recP env M [pnO1 c k x v true, pnO2 c k x v true, pnO3 c k x v true r, pnO4 c k x v false r o]) M 16 8 2) (n + 4) (sOl0 c k x v (T.agg [i64 0, i64 0, i64 0, i64 0, i64 0, i64 0]) 0) = .ok (.ret, ⟨slots 15 [(2, .t (.bool false))], outH c k x v r o⟩) := fun n => by
    refine (iterR_step (n := n + 3) (s' := sOl1 c k x v (T.agg [i64 0, i64 0, i64 0, i64 0, i64 0, i64 0]) 0) ((opkb16_2_7 M c k x v false r o).trans chkP_same)).trans ?_
    refine (iterR_step (n := n + 2) (s' := sOl2 c k x v (T.agg [i64 0, i64 0, i64 0, i64 0, i64 0, i64 0]) 0) ((opkb16_2_8 M c k x v false r o).trans chkP_same)).trans ?_
    refine (iterR_step (n := n + 1) (s' := sOl3 c k x v r 0) ((opkb16_2_9 M c k x v false r o).trans chkP_same)).trans ?_
    exact iterR_ret (n := n) ((opkb16_2_10 M c k x v false r o).trans chkP_same)
  obtain ⟨n, hn⟩ : ∃ n, M = n + 4 := ⟨M - 4, by omega⟩
  have it' : iterR (bodyR env (recP env M [pnO1 c k x v true, pnO2 c k x v true, pnO3 c k x v true r, pnO4 c k x v false r o]) M 16 8 2) M (sOl0 c k x v (T.agg [i64 0, i64 0, i64 0, i64 0, i64 0, i64 0]) 0) = _ := (congrArg (fun z => iterR (bodyR env (recP env M [pnO1 c k x v true, pnO2 c k x v true, pnO3 c k x v true r, pnO4 c k x v false r o]) M 16 8 2) z (sOl0 c k x v (T.agg [i64 0, i64 0, i64 0, i64 0, i64 0, i64 0]) 0)) hn).trans (it n)
  exact (loopR_end it').trans (opkt16_2_ret_4 M c k x v false r o _ _)
theorem outAll5 {M : Nat} {c : Cf} {k : Int} {x : Px} {v : Rt} {r : T} {o : Int} {s : T} {f : List T} (hM : 6 ≤ M) (h : PinsOk env M [pnO1 c k x v true, pnO2 c k x v true, pnO3 c k x v true r, pnO4 c k x v true r o, pnO5 c k x v false r o s f]) : PinOk env (M + 1) (pnOB c k x v false r o s f) := by
  refine runK_pin h ?_
  refine (opk16_5 M c k x v false r o s f _).trans ?_
  have it : ∀ n, iterR (bodyR env (recP env M [pnO1 c k x v true, pnO2 c k x v true, pnO3 c k x v true r, pnO4 c k x v true r o, pnO5 c k x v false r o s f]) M 16 8 2) (n + 5) (sOl0 c k x v (T.agg [i64 0, i64 0, i64 0, i64 0, i64 0, i64 0]) 0) = .ok (.ret, ⟨slots 15 [(2, .t (.bool false))], outH5 c k x v r o s f⟩) := fun n => by
    refine (iterR_step (n := n + 4) (s' := sOl1 c k x v (T.agg [i64 0, i64 0, i64 0, i64 0, i64 0, i64 0]) 0) ((opkb16_2_11 M c k x v false r o s f).trans chkP_same)).trans ?_
    refine (iterR_step (n := n + 3) (s' := sOl2 c k x v (T.agg [i64 0, i64 0, i64 0, i64 0, i64 0, i64 0]) 0) ((opkb16_2_12 M c k x v false r o s f).trans chkP_same)).trans ?_
    refine (iterR_step (n := n + 2) (s' := sOl3 c k x v r 0) ((opkb16_2_13 M c k x v false r o s f).trans chkP_same)).trans ?_
    refine (iterR_step (n := n + 1) (s' := sOl4 c k x v r o) ((opkb16_2_14 M c k x v false r o s f).trans chkP_same)).trans ?_
    exact iterR_ret (n := n) ((opkb16_2_15 M c k x v false r o s f).trans chkP_same)
  obtain ⟨n, hn⟩ : ∃ n, M = n + 5 := ⟨M - 5, by omega⟩
  have it' : iterR (bodyR env (recP env M [pnO1 c k x v true, pnO2 c k x v true, pnO3 c k x v true r, pnO4 c k x v true r o, pnO5 c k x v false r o s f]) M 16 8 2) M (sOl0 c k x v (T.agg [i64 0, i64 0, i64 0, i64 0, i64 0, i64 0]) 0) = _ := (congrArg (fun z => iterR (bodyR env (recP env M [pnO1 c k x v true, pnO2 c k x v true, pnO3 c k x v true r, pnO4 c k x v true r o, pnO5 c k x v false r o s f]) M 16 8 2) z (sOl0 c k x v (T.agg [i64 0, i64 0, i64 0, i64 0, i64 0, i64 0]) 0)) hn).trans (it n)
  exact (loopR_end it').trans (opkt16_2_ret_5 M c k x v false r o s f _ _)
theorem outAll6 {M : Nat} {c : Cf} {k : Int} {x : Px} {v : Rt} {r : T} {o : Int} {s : T} {f : List T} (hM : 6 ≤ M) (h : PinsOk env M [pnO1 c k x v true, pnO2 c k x v true, pnO3 c k x v true r, pnO4 c k x v true r o, pnO5 c k x v true r o s f]) : PinOk env (M + 1) (pnOB c k x v true r o s f) := by
  refine runK_pin h ?_
  refine (opk16_5 M c k x v true r o s f _).trans ?_
  have it : ∀ n, iterR (bodyR env (recP env M [pnO1 c k x v true, pnO2 c k x v true, pnO3 c k x v true r, pnO4 c k x v true r o, pnO5 c k x v true r o s f]) M 16 8 2) (n + 6) (sOl0 c k x v (T.agg [i64 0, i64 0, i64 0, i64 0, i64 0, i64 0]) 0) = .ok (.exit 0, ⟨slots 15 [], outH5 c k x v r o s f⟩) := fun n => by
    refine (iterR_step (n := n + 5) (s' := sOl1 c k x v (T.agg [i64 0, i64 0, i64 0, i64 0, i64 0, i64 0]) 0) ((opkb16_2_11 M c k x v true r o s f).trans chkP_same)).trans ?_
    refine (iterR_step (n := n + 4) (s' := sOl2 c k x v (T.agg [i64 0, i64 0, i64 0, i64 0, i64 0, i64 0]) 0) ((opkb16_2_12 M c k x v true r o s f).trans chkP_same)).trans ?_
    refine (iterR_step (n := n + 3) (s' := sOl3 c k x v r 0) ((opkb16_2_13 M c k x v true r o s f).trans chkP_same)).trans ?_
    refine (iterR_step (n := n + 2) (s' := sOl4 c k x v r o) ((opkb16_2_14 M c k x v true r o s f).trans chkP_same)).trans ?_
    refine (iterR_step (n := n + 1) (s' := sOl5 c k x v r o s f) ((opkb16_2_15 M c k x v true r o s f).trans chkP_same)).trans ?_
    exact iterR_exit (n := n) (opkb16_2_16 M c k x v true r o s f)
  obtain ⟨n, hn⟩ : ∃ n, M = n + 6 := ⟨M - 6, by omega⟩
  have it' : iterR (bodyR env (recP env M [pnO1 c k x v true, pnO2 c k x v true, pnO3 c k x v true r, pnO4 c k x v true r o, pnO5 c k x v true r o s f]) M 16 8 2) M (sOl0 c k x v (T.agg [i64 0, i64 0, i64 0, i64 0, i64 0, i64 0]) 0) = _ := (congrArg (fun z => iterR (bodyR env (recP env M [pnO1 c k x v true, pnO2 c k x v true, pnO3 c k x v true r, pnO4 c k x v true r o, pnO5 c k x v true r o s f]) M 16 8 2) z (sOl0 c k x v (T.agg [i64 0, i64 0, i64 0, i64 0, i64 0, i64 0]) 0)) hn).trans (it n)
  exact (loopR_end it').trans (opkt16_2_exit0 M c k x v true r o s f _ _)
end Go.Sim

/- What edge.Out answers. -/
namespace Go.Sim
open Go.RowKit Go.Proofs
set_option linter.unusedVariables false
set_option linter.unusedSimpArgs false
set_option linter.unusedSectionVars false
set_option maxRecDepth 100000
def zP : T := T.agg [i64 0, T.sl 1 [], i64 0, i64 0]
def optP : Option Pa → T
  | some p => .tup [p.t, .bool true]
  | none => .tup [zP, .bool false]
variable [Lv]
theorem out_A {M : Nat} {c : Cf} {k : Int} {x : Px} {v : Rt} {o : Int} {r : T} (hw : T.wfs [c.t, i64 k, x.t, v.t] = true) (h : PinOk env M (pnOA c k x v false r o)) : callP env (M + 1) 8 [c.t, i64 k, x.t, v.t] = .ok (.tup [zP, .bool false]) :=
  callP_pin (ps := [pnOA c k x v false r o]) ⟨h, trivial⟩ hw rfl ((pq8 M c k x v false r o).trans (chkP_ok ⟨rfl, rfl⟩))
theorem out_B {M : Nat} {c : Cf} {k : Int} {x : Px} {v : Rt} {o : Int} {r s : T} {f : List T} (hw : T.wfs [c.t, i64 k, x.t, v.t] = true) (h : PinOk env M (pnOB c k x v false r o s f)) : callP env (M + 1) 8 [c.t, i64 k, x.t, v.t] = .ok (.tup [zP, .bool false]) :=
  callP_pin (ps := [pnOB c k x v false r o s f]) ⟨h, trivial⟩ hw rfl ((pq8_2 M c k x v false r o s f).trans (chkP_ok ⟨rfl, rfl⟩))
theorem out_T {M : Nat} {c : Cf} {k : Int} {x : Px} {v : Rt} {o : Int} {r : T} {l : List Int} {f : List T} (hw : T.wfs [c.t, i64 k, x.t, v.t] = true) (h : PinOk env M (pnOB c k x v true r o (.sl 1 (ints l)) f)) : callP env (M + 1) 8 [c.t, i64 k, x.t, v.t] = .ok (.tup [(Pa.mk v.p.o l c.d o).t, .bool true]) :=
  callP_pin (ps := [pnOB c k x v true r o (.sl 1 (ints l)) f]) ⟨h, trivial⟩ hw rfl ((pq8_2 M c k x v true r o (.sl 1 (ints l)) f).trans (chkP_ok ⟨rfl, rfl⟩))
theorem f8_ok {M : Nat} {c : Cf} {k : Int} {x : Px} {v : Rt} (hM : big + 18 ≤ M) (h : c.ok) (hk : ok64 k = true) (hx : x.ok) (hv : v.ok) : callP env (M + 1) 8 [c.t, i64 k, x.t, v.t] = .ok (optP (outR c k x v)) := by
  obtain ⟨m, rfl⟩ := exM (show 1 ≤ M by omega)
  obtain ⟨m, rfl⟩ := exM (show 1 ≤ m by omega)
  have hw : T.wfs [c.t, i64 k, x.t, v.t] = true := by
    have h1 := h.wf; have h2 := wf_int hk; have h3 := hx.wf; have h4 := hv.wf
    simp only [T.wfs, h1, h2, h3, h4, Bool.and_self]
  have g1 := pinO1 (M := m) (c := c) (k := k) (x := x) (v := v) (by omega) h hk hx hv
  unfold outR
  cases e1 : csane c && (hasB c k && (psane x && rtsane v)) with
  | false =>
    rw [e1] at g1
    exact out_A hw (outAll1 (M := m + 1) (by omega) ⟨g1, trivial⟩)
  | true =>
  rw [e1] at g1
  have g2 := pinO2 (M := m) (c := c) (k := k) (x := x) (v := v)
  simp only [Bool.true_and]
  cases e2 : decide (v.f ≠ k) && decide (v.f < (c.s.length : Int)) with
  | false =>
    rw [e2] at g2
    exact out_A hw (outAll2 (M := m + 1) (by omega) ⟨g1, g2, trivial⟩)
  | true =>
  rw [e2] at g2
  simp only [if_true]
  simp only [Bool.and_eq_true] at e1
  obtain ⟨i, s, rfl, hi, hs⟩ := has_nat e1.2.1
  rw [Int.toNat_natCast, hs]
  simp only []
  have g3 := pinO3 (M := m) (c := c) (x := x) (v := v) (by omega) hs h hx hv
  cases e3 : pickR s.o (vwI x v.p (classI c v.f)) with
  | none =>
    rw [e3] at g3
    exact out_A hw (outAll3 (M := m + 1) (by omega) ⟨g1, g2, g3, trivial⟩)
  | some u =>
  rw [e3] at g3
  simp only [] at g3
  show _ = Res.ok (optP (if u.a = 0 then none else match roleOut s.r c.a v.p.c with | some m => if (preR c u v).length ≤ 32 then some ⟨v.p.o, preR c u v, c.d, m⟩ else none | none => none))
  by_cases e4 : u.a = 0
  · rw [e4, bne_self_eq_false] at g3
    rw [if_pos e4]
    exact out_A hw (outAll3 (M := m + 1) (by omega) ⟨g1, g2, g3, trivial⟩)
  rw [bne_iff_ne.2 e4] at g3
  rw [if_neg e4]
  have g4 := pinO4 (M := m) (c := c) (x := x) (v := v) (r := u.t) (by omega) hs h hv
  cases e5 : roleOut s.r c.a v.p.c with
  | none =>
    rw [e5] at g4
    exact out_A hw (outAll4 (M := m + 1) (by omega) ⟨g1, g2, g3, g4, trivial⟩)
  | some o =>
  rw [e5] at g4
  obtain ⟨s1, s2, s3, s4, s5, s6⟩ := side_parts e1.1 hs
  obtain ⟨u1, u2⟩ := more_out (s6 u (pick_mem e3).1) e4
  have h32 : v.p.s.length ≤ 32 := by
    have := e1.2.2.2
    unfold rtsane at this
    simp only [Bool.and_eq_true, decide_eq_true_eq] at this
    exact this.2.1
  have g5 := pinO5 (M := m) (c := c) (k := (i : Int)) (x := x) (v := v) (u := u) (o := o) (by omega) h hv u1 u2 h32
  simp only []
  by_cases e6 : (preR c u v).length ≤ 32
  · rw [decide_eq_true e6] at g5
    rw [if_pos e6]
    exact out_T hw (outAll6 (M := m + 1) (by omega) ⟨g1, g2, g3, g4, g5, trivial⟩)
  · rw [decide_eq_false e6] at g5
    rw [if_neg e6]
    exact out_B hw (outAll5 (M := m + 1) (by omega) ⟨g1, g2, g3, g4, g5, trivial⟩)
end Go.Sim

/- What edge.In and edge.Out answer, as their callers read it. -/
namespace Go.Sim
open Go.RowKit Go.Proofs
set_option linter.unusedVariables false
set_option linter.unusedSimpArgs false
set_option linter.unusedSectionVars false
set_option maxRecDepth 100000

variable [Lv]
theorem inR_ok {c : Cf} {k : Int} {x : Px} {p : Pa} {r : Rt} (h : inR c k x p = some r) (hc : c.ok) (hk : ok64 k = true) (hp : p.ok) : r.ok := by
  obtain ⟨h1, h2, h3, i, s, m, u, rfl, hi, hs, h4, h5, h6, h7, h8, h9, rfl⟩ := inR_spec h
  have ho := hc.s.2 _ (List.mem_of_getElem? hs)
  obtain ⟨s1, s2, s3, s4, s5, s6⟩ := side_parts h1 hs
  obtain ⟨p1, p2, p3, p4, p5, p6, p7, p8⟩ := asane_parts h3
  have hm : ok64 m = true := by
    have := orI_pos p7 s1
    have := orI_le p8 s2
    refine ok64_iff.2 ?_
    unfold roleIn at h7
    repeat' split at h7
    all_goals first | (injection h7 with h7; omega) | cases h7
  exact ⟨(ho.i.2 u (pick_mem h8).1).n, ⟨hp.o, hp.l, hp.s, hp.h, hm⟩, hk⟩
theorem outR_ok {c : Cf} {k : Int} {x : Px} {r : Rt} {q : Pa} (h : outR c k x r = some q) (hc : c.ok) (hr : r.ok) : q.ok := by
  have hq := (tells_law h).2.2.1
  have hl := (tells_law h).2.2.2.2.2.2.1
  obtain ⟨p1, p2, p3, p4, p5, p6, p7, p8⟩ := asane_parts hq
  have hb := big_val
  refine ⟨ok64_iff.2 (by omega), by omega, fun n hn => ok64_iff.2 (by have := p1 n hn; omega), ok64_iff.2 (by omega), ok64_iff.2 (by omega)⟩
def zRt : Rt := ⟨0, ⟨0, [], 0, 0⟩, 0⟩
def zPa : Pa := ⟨0, [], 0, 0⟩
theorem zRt_ok : zRt.ok := ⟨rfl, ⟨rfl, Nat.zero_le _, fun _ h => (by cases h), rfl, rfl⟩, rfl⟩
theorem zPa_ok : zPa.ok := ⟨rfl, Nat.zero_le _, fun _ h => (by cases h), rfl, rfl⟩
theorem optR_eq (o : Option Rt) : optR o = .tup [(o.getD zRt).t, .bool o.isSome] := by cases o <;> rfl
theorem optP_eq (o : Option Pa) : optP o = .tup [(o.getD zPa).t, .bool o.isSome] := by cases o <;> rfl
theorem inD_ok {c : Cf} {k : Int} {x : Px} {p : Pa} (hc : c.ok) (hk : ok64 k = true) (hp : p.ok) : ((inR c k x p).getD zRt).ok := by
  cases h : inR c k x p with
  | none => exact zRt_ok
  | some r => exact inR_ok h hc hk hp
theorem outD_ok {c : Cf} {k : Int} {x : Px} {r : Rt} (hc : c.ok) (hr : r.ok) : ((outR c k x r).getD zPa).ok := by
  cases h : outR c k x r with
  | none => exact zPa_ok
  | some q => exact outR_ok h hc hr
theorem class_ok {c : Cf} {k : Int} (h : c.ok) : ok64 (classI c k) = true := by
  unfold classI
  split
  · split
    · rename_i t ht; exact (h.s.2 _ (List.mem_of_getElem? ht)).r
    · rfl
  · rfl
theorem rt_chk {r : Rt} : (r.t.cells.length == 6 && !r.t.isTup) = true := rfl
theorem pa_chk {p : Pa} : (p.t.cells.length == 4 && !p.t.isTup) = true := rfl
end Go.Sim

/- What calls come to: printed by wip/tools/eq2.py: the document's layers 2, 7, 9, 10, 12, 13, 14. -/
namespace Go.Sim
open Go.RowKit Go.Proofs
set_option linter.unusedVariables false
set_option maxRecDepth 100000
variable [Lv]

def sSz (m i : Int) : St := ⟨slots 14 [(3, .t (i64 m)), (4, .t (i64 i))], []⟩
def sHa (l : List Int) (n i : Int) : St := ⟨slots 18 [(0, .t (.sl 1 (ints l))), (1, .t (i64 n)), (5, .t (i64 i))], []⟩
def sPk (l : List Ru) (v : Vw) (i : Int) : St := ⟨slots 24 [(0, .t (.sl 6 (l.map Ru.t))), (3, .ptr 0 0), (4, .ptr 1 0), (6, .t (i64 i))], [.box 60 4 (.t v.t), .box 46 6 (.t (T.agg [i64 0, i64 0, i64 0, i64 0, i64 0, i64 0]))]⟩
def sRu (l : List Ru) (b : Bool) (i : Int) : St := ⟨slots 22 [(0, .t (.sl 6 (l.map Ru.t))), (1, .t (.bool b)), (5, .t (i64 i))], []⟩
def sOw (l : List Px) (i : Int) : St := ⟨slots 34 [(0, .t (.sl 2 (l.map Px.t))), (3, .t (i64 i))], []⟩
def sOw2 (l : List Px) (i k : Int) : St := ⟨slots 34 [(0, .t (.sl 2 (l.map Px.t))), (3, .t (i64 i)), (4, .t (i64 k))], []⟩
def sSi (l : List Sd) (a i : Int) : St := ⟨slots 70 [(0, .t (.sl 4 (l.map Sd.t))), (1, .t (i64 a)), (5, .t (i64 i))], []⟩
def sSi2 (l : List Sd) (a i : Int) (s : Sd) (k : Int) : St := ⟨slots 70 [(0, .t (.sl 4 (l.map Sd.t))), (1, .t (i64 a)), (5, .t (i64 i)), (6, .ptr 0 0), (7, .t (i64 k))], [.box 53 4 (.t s.t)]⟩
def sPs (p : Pa) (i : Int) : St := ⟨slots 59 [(1, .ptr 0 0), (3, .t (i64 i))], [.box 30 4 (.t p.t)]⟩
def sHb (l : List Int) (n i : Int) : St := ⟨slots 18 [(0, .t (.sl 1 (ints l))), (1, .t (i64 n)), (5, .t (i64 i))], []⟩
theorem q71 (N : Nat) (n : Int) : callP env (N + 1) 71 [i64 n] = W [i64 n] (loopL env N 71 3 (sSz 1 (minmax true [0] n))) := by kernel_rfl
theorem b71_3 (N : Nat) (m i : Int) : bodyL env N 71 0 3 (sSz m i) = bif decide (i < 32) then Res.ok (Ex.norm, sSz (IntKind.i64.wrap (m * 2)) (IntKind.i64.wrap (i + 1))) else Res.ok (Ex.exit 0, { tmps := slots 14 [(3, PV.t (i64 m))], heap := [] }) := by kernel_rfl
theorem t71_3_exit0 (N : Nat) (m : Int) : tailL env N 71 0 3 (outK env 71) (.exit 0) (⟨slots 14 [(3, .t (i64 m))], []⟩) = rI m := by kernel_rfl
theorem q61 (N : Nat) (a n : Int) : callP env (N + 1) 61 [i64 a, i64 n] = W [i64 a, i64 n] (clI N 71 [i64 n] fun b => chk (!b == 0) (rI (IntKind.i64.wrap (IntKind.i64.wrap (↑(BitVec.ofInt 64 a &&& BitVec.ofInt 64 4294967295).toNat : Int) - (IntKind.i64.wrap (↑(BitVec.ofInt 64 a &&& BitVec.ofInt 64 4294967295).toNat : Int)).tmod b)))) := by kernel_rfl
theorem q31 (N : Nat) (x : Px) : callP env (N + 1) 31 [x.t] = W [x.t] (bif decide (x.n ≥ 0) then bif decide (x.n ≤ 32) then bif decide (x.a ≥ 0) then bif decide (x.a ≤ 4294967295) then clI N 61 [i64 x.a, i64 x.n] fun a => rB (a == x.a) else rB false else rB false else rB false else rB false) := by kernel_rfl
theorem q72 (N : Nat) (x y : Px) : callP env (N + 1) 72 [x.t, y.t] = W [x.t, y.t] (clB N 31 [x.t] fun b => bif b then clB N 31 [y.t] fun b => bif b then bif decide (y.n ≥ x.n) then clI N 61 [i64 y.a, i64 x.n] fun a => rB (a == x.a) else rB false else rB false else rB false) := by kernel_rfl
theorem q101 (N : Nat) (r : Ru) : callP env (N + 1) 101 [r.t] = W [r.t] (bif r.m == 0 then bif r.x.a == 0 && (r.x.n == 0 && true) then rB (r.v == 0) else rB false else bif r.m == 1 then clB N 31 [r.x.t] fun b => bif b then rB (r.v == 0) else rB false else bif r.m == 2 then bif r.x.a == 0 && (r.x.n == 0 && true) then bif decide (r.v ≥ 1) then rB (decide (r.v ≤ 4294967295)) else rB false else rB false else bif r.m == 3 then bif r.x.a == 0 && (r.x.n == 0 && true) then bif decide (r.v ≥ 0) then rB (decide (r.v ≤ 32)) else rB false else rB false else bif r.m == 4 then bif r.x.a == 0 && (r.x.n == 0 && true) then bif decide (r.v ≥ 0) then rB (decide (r.v ≤ 3)) else rB false else rB false else rB false) := by kernel_rfl
theorem q81 (N : Nat) (r : Ru) (b : Bool) : callP env (N + 1) 81 [r.t, .bool b] = W [r.t, .bool b] (clB N 101 [r.t] fun b_1 => bif !b_1 then rB false else bif b then bif r.m == 4 then rB false else bif r.a == 0 then rB (r.n == 0) else bif r.a == 1 then bif !b then rB (r.n == 0) else rB false else bif r.a == 2 then bif b then bif decide (r.n ≥ 1) then rB (decide (r.n ≤ 399)) else rB false else rB false else bif r.a == 3 then bif !b then bif decide (r.n ≥ 1) then rB (decide (r.n ≤ 8)) else rB false else rB false else rB false else bif r.a == 0 then rB (r.n == 0) else bif r.a == 1 then bif !b then rB (r.n == 0) else rB false else bif r.a == 2 then bif b then bif decide (r.n ≥ 1) then rB (decide (r.n ≤ 399)) else rB false else rB false else bif r.a == 3 then bif !b then bif decide (r.n ≥ 1) then rB (decide (r.n ≤ 8)) else rB false else rB false else rB false) := by kernel_rfl
theorem q73 (N : Nat) (l : List Int) (n : Int) : callP env (N + 1) 73 [.sl 1 (ints l), i64 n] = W [.sl 1 (ints l), i64 n] (loopL env N 73 2 (sHa l n 0)) := by kernel_rfl
theorem b73_2 (N : Nat) (l : List Int) (n i : Int) : bodyL env N 73 0 2 (sHa l n i) = bif decide (i < (↑(ints l).length : Int)) then atT (ints l) i fun e => iT IntKind.i64 e fun a => bif a == n then Res.ok (Ex.ret, { tmps := slots 18 [(4, PV.t (T.bool true))], heap := [] }) else Res.ok (Ex.norm, sHa l n (IntKind.i64.wrap (i + 1))) else Res.ok (Ex.exit 0, { tmps := slots 18 [], heap := [] }) := by kernel_rfl
theorem q62 (N : Nat) (r : Ru) (v : Vw) : callP env (N + 1) 62 [r.t, v.t] = W [r.t, v.t] (bif r.m == 0 then rB true else bif r.m == 1 then cl N 72 [r.x.t, v.x.t] fun x => Res.ok x else bif r.m == 2 then cl N 73 [T.sl 1 (ints v.s), i64 r.v] fun x => Res.ok x else bif r.m == 3 then rB (decide ((↑(ints v.s).length : Int) > r.v)) else bif r.m == 4 then rB (v.c == r.v) else rB false) := by kernel_rfl
theorem q35 (N : Nat) (l : List Ru) (v : Vw) : callP env (N + 1) 35 [.sl 6 (l.map Ru.t), v.t] = W [.sl 6 (l.map Ru.t), v.t] (loopL env N 35 2 { tmps := slots 24 [(0, PV.t (T.sl 6 (List.map Ru.t l))), (3, PV.ptr 0 0), (4, PV.ptr 1 0), (6, PV.t (i64 0))], heap := [AObj.box 60 4 (PV.t v.t), AObj.box 46 6 (PV.t (T.agg [i64 0, i64 0, i64 0, i64 0, i64 0, i64 0]))] }) := by kernel_rfl
theorem b35_2 (N : Nat) (l : List Ru) (v : Vw) (i : Int) : bodyL env N 35 0 2 (sPk l v i) = bif decide (i < (↑(List.map Ru.t l).length : Int)) then atT (List.map Ru.t l) i fun e => clB N 62 [e, v.t] fun v_1 => bif v_1 then atT (List.map Ru.t l) i fun e => chk (e.cells.length == 6 && !e.isTup) (Res.ok (Ex.ret, { tmps := slots 24 [(4, PV.ptr 0 0), (5, PV.t (T.bool true))], heap := [AObj.box 46 6 (PV.t e)] })) else Res.ok (Ex.norm, { tmps := slots 24 [(0, PV.t (T.sl 6 (List.map Ru.t l))), (3, PV.ptr 0 0), (4, PV.ptr 1 0), (6, PV.t (i64 (IntKind.i64.wrap (i + 1))))], heap := [AObj.box 60 4 (PV.t v.t), AObj.box 46 6 (PV.t (T.agg [i64 0, i64 0, i64 0, i64 0, i64 0, i64 0]))] }) else Res.ok (Ex.exit 0, { tmps := slots 24 [(4, PV.ptr 0 0)], heap := [AObj.box 46 6 (PV.t (T.agg [i64 0, i64 0, i64 0, i64 0, i64 0, i64 0]))] }) := by kernel_rfl
theorem q70 (N : Nat) (l : List Ru) (b : Bool) : callP env (N + 1) 70 [.sl 6 (l.map Ru.t), .bool b] = W [.sl 6 (l.map Ru.t), .bool b] (loopL env N 70 2 (sRu l b 0)) := by kernel_rfl
theorem b70_2 (N : Nat) (l : List Ru) (b : Bool) (i : Int) : bodyL env N 70 0 2 (sRu l b i) = bif decide (i < (↑(List.map Ru.t l).length : Int)) then atT (List.map Ru.t l) i fun e => clB N 81 [e, T.bool b] fun b_1 => bif !b_1 then Res.ok (Ex.ret, { tmps := slots 22 [(4, PV.t (T.bool false))], heap := [] }) else Res.ok (Ex.norm, sRu l b (IntKind.i64.wrap (i + 1))) else Res.ok (Ex.exit 0, { tmps := slots 22 [(0, PV.t (T.sl 6 (List.map Ru.t l)))], heap := [] }) := by kernel_rfl
theorem t70_2_exit0 (N : Nat) (l : List Ru) : tailL env N 70 0 2 (outK env 70) (.exit 0) (⟨slots 22 [(0, .t (.sl 6 (l.map Ru.t)))], []⟩) = rB (decide ((↑(List.map Ru.t l).length : Int) ≤ 8)) := by kernel_rfl
theorem q58 (N : Nat) (n : Int) : callP env (N + 1) 58 [i64 n] = W [i64 n] (bif n == 0 then rB true else bif decide (n ≥ 3) then rB (decide (n ≤ 65535)) else rB false) := by kernel_rfl
theorem q59 (N : Nat) (l : List Px) : callP env (N + 1) 59 [.sl 2 (l.map Px.t)] = W [.sl 2 (l.map Px.t)] (loopL env N 59 2 (sOw l 0)) := by kernel_rfl
theorem b59_2 (N : Nat) (l : List Px) (i : Int) : bodyL env N 59 0 2 (sOw l i) = bif decide (i < (↑(List.map Px.t l).length : Int)) then atT (List.map Px.t l) i fun e => clB N 31 [e] fun b => bif !b then Res.ok (Ex.ret, { tmps := slots 34 [(2, PV.t (T.bool false))], heap := [] }) else loopI env N 59 2 7 (sOw2 l i 0) else Res.ok (Ex.exit 0, { tmps := slots 34 [(0, PV.t (T.sl 2 (List.map Px.t l)))], heap := [] }) := by kernel_rfl
theorem b59_2_7 (N : Nat) (l : List Px) (i k : Int) : bodyI env N 59 0 2 7 (sOw2 l i k) = bif decide (k < i) then atT (List.map Px.t l) k fun e => atT (List.map Px.t l) i fun e_1 => match T.eqLs [0, 0] e.cells e_1.cells with | some b => bif b then Res.ok (Ex.ret, { tmps := slots 34 [(2, PV.t (T.bool false))], heap := [] }) else Res.ok (Ex.norm, sOw2 l i (IntKind.i64.wrap (k + 1))) | none => Res.stuck else Res.ok (Ex.exit 2, sOw l i) := by kernel_rfl
theorem t59_2_exit0 (N : Nat) (l : List Px) : tailL env N 59 0 2 (outK env 59) (.exit 0) (⟨slots 34 [(0, .t (.sl 2 (l.map Px.t)))], []⟩) = rB (decide ((↑(List.map Px.t l).length : Int) ≤ 8)) := by kernel_rfl
theorem t59_2_7_exit2 (N : Nat) (l : List Px) (i : Int) : tailI env N 59 0 2 7 (.exit 2) (⟨slots 34 [(0, .t (.sl 2 (l.map Px.t))), (3, .t (i64 i))], []⟩) = Res.ok (Ex.norm, sOw l (IntKind.i64.wrap (i + 1))) := by kernel_rfl
theorem q60 (N : Nat) (l : List Sd) (a : Int) : callP env (N + 1) 60 [.sl 4 (l.map Sd.t), i64 a] = W [.sl 4 (l.map Sd.t), i64 a] (loopL env N 60 2 (sSi l a 0)) := by kernel_rfl
theorem b60_2 (N : Nat) (l : List Sd) (a i : Int) : bodyL env N 60 0 2 (sSi l a i) = bif decide (i < (↑(List.map Sd.t l).length : Int)) then atT (List.map Sd.t l) i fun e => chk (e.cells.length == 4 && !e.isTup) (iT IntKind.i64 (e.partD 0 1 false) fun a_1 => bif decide (a_1 < 1) then Res.ok (Ex.ret, { tmps := slots 70 [(4, PV.t (T.bool false))], heap := [] }) else iT IntKind.i64 (e.partD 0 1 false) fun a_2 => bif decide (a_2 > 4294967295) then Res.ok (Ex.ret, { tmps := slots 70 [(4, PV.t (T.bool false))], heap := [] }) else iT IntKind.i64 (e.partD 0 1 false) fun a_3 => bif a_3 == a then Res.ok (Ex.ret, { tmps := slots 70 [(4, PV.t (T.bool false))], heap := [] }) else iT IntKind.i64 (e.partD 1 1 false) fun a_4 => bif decide (a_4 < 1) then Res.ok (Ex.ret, { tmps := slots 70 [(4, PV.t (T.bool false))], heap := [] }) else iT IntKind.i64 (e.partD 1 1 false) fun a_5 => bif decide (a_5 > 3) then Res.ok (Ex.ret, { tmps := slots 70 [(4, PV.t (T.bool false))], heap := [] }) else clB N 70 [e.partD 2 1 false, T.bool true] fun b => bif !b then Res.ok (Ex.ret, { tmps := slots 70 [(4, PV.t (T.bool false))], heap := [] }) else clB N 70 [e.partD 3 1 false, T.bool false] fun b => bif !b then Res.ok (Ex.ret, { tmps := slots 70 [(4, PV.t (T.bool false))], heap := [] }) else loopI env N 60 2 8 { tmps := slots 70 [(0, PV.t (T.sl 4 (List.map Sd.t l))), (1, PV.t (i64 a)), (5, PV.t (i64 i)), (6, PV.ptr 0 0), (7, PV.t (i64 0))], heap := [AObj.box 53 4 (PV.t e)] }) else Res.ok (Ex.exit 0, { tmps := slots 70 [(0, PV.t (T.sl 4 (List.map Sd.t l)))], heap := [] }) := by kernel_rfl
theorem b60_2_8 (N : Nat) (l : List Sd) (a i : Int) (s : Sd) (k : Int) : bodyI env N 60 0 2 8 (sSi2 l a i s k) = bif decide (k < i) then atT (List.map Sd.t l) k fun e => iT IntKind.i64 (e.partD 0 1 false) fun a_1 => bif a_1 == s.a then Res.ok (Ex.ret, { tmps := slots 70 [(4, PV.t (T.bool false))], heap := [] }) else Res.ok (Ex.norm, sSi2 l a i s (IntKind.i64.wrap (k + 1))) else Res.ok (Ex.exit 2, sSi l a i) := by kernel_rfl
theorem t60_2_exit0 (N : Nat) (l : List Sd) : tailL env N 60 0 2 (outK env 60) (.exit 0) (⟨slots 70 [(0, .t (.sl 4 (l.map Sd.t)))], []⟩) = rB (decide ((↑(List.map Sd.t l).length : Int) ≤ 8)) := by kernel_rfl
theorem t60_2_8_exit2 (N : Nat) (l : List Sd) (a i : Int) : tailI env N 60 0 2 8 (.exit 2) (⟨slots 70 [(0, .t (.sl 4 (l.map Sd.t))), (1, .t (i64 a)), (5, .t (i64 i))], []⟩) = Res.ok (Ex.norm, sSi l a (IntKind.i64.wrap (i + 1))) := by kernel_rfl
theorem q29 (N : Nat) (c : Cf) : callP env (N + 1) 29 [c.t] = W [c.t] (bif decide (c.a ≥ 1) then bif decide (c.a ≤ 4294967295) then bif decide (c.d ≥ 1) then bif decide (c.d ≤ 4294967295) then clB N 58 [i64 c.h] fun b => bif b then bif decide (c.k ≥ 1) then bif decide (c.k ≤ 1000) then clB N 59 [T.sl 2 (List.map Px.t c.w)] fun b => bif b then cl N 60 [T.sl 4 (List.map Sd.t c.s), i64 c.a] fun x => Res.ok x else rB false else rB false else rB false else rB false else rB false else rB false else rB false else rB false) := by kernel_rfl
theorem q32 (N : Nat) (p : Pa) : callP env (N + 1) 32 [p.t] = W [p.t] (loopL env N 32 2 (sPs p 0)) := by kernel_rfl
theorem b32_2 (N : Nat) (p : Pa) (i : Int) : bodyL env N 32 0 2 (sPs p i) = bif decide (i < (↑(ints p.s).length : Int)) then atT (ints p.s) i fun e => iT IntKind.i64 e fun a => bif decide (a < 1) then Res.ok (Ex.ret, { tmps := slots 59 [(2, PV.t (T.bool false))], heap := [] }) else atT (ints p.s) i fun e => iT IntKind.i64 e fun a => bif decide (a > 4294967295) then Res.ok (Ex.ret, { tmps := slots 59 [(2, PV.t (T.bool false))], heap := [] }) else Res.ok (Ex.norm, sPs p (IntKind.i64.wrap (i + 1))) else Res.ok (Ex.exit 0, { tmps := slots 59 [(1, PV.ptr 0 0)], heap := [AObj.box 30 4 (PV.t p.t)] }) := by kernel_rfl
theorem t32_2_exit0 (N : Nat) (p : Pa) : tailL env N 32 0 2 (outK env 32) (.exit 0) (⟨slots (59) [(1, .ptr 0 0)], [.box 30 4 (.t p.t)]⟩) = bif decide (p.o ≥ 0) then bif decide (p.o ≤ 2) then bif decide ((↑(ints p.s).length : Int) ≤ 255) then bif decide (p.h ≥ 1) then bif decide (p.h ≤ 4294967295) then bif decide (p.c ≥ 0) then rB (decide (p.c ≤ 4294967295)) else rB false else rB false else rB false else rB false else rB false else rB false := by kernel_rfl
theorem q45 (N : Nat) (r : Rt) : callP env (N + 1) 45 [r.t] = W [r.t] (clB N 32 [r.p.t] fun b => bif !b then rB false else bif decide ((↑(ints r.p.s).length : Int) > 32) then rB false else bif r.f == -1 then bif r.n == 400 then bif (↑(ints r.p.s).length : Int) == 0 then bif r.p.o == 0 then rB (r.p.c == 0) else rB false else rB false else rB false else bif decide (r.f ≥ 0) then bif decide (r.f ≤ 7) then bif decide (r.n ≥ 1) then rB (decide (r.n ≤ 399)) else rB false else rB false else rB false) := by kernel_rfl
theorem q12 (N : Nat) (a b : Rt) : callP env (N + 1) 12 [a.t, b.t] = W [a.t, b.t] (bif a.n == b.n then bif a.f == b.f then cl N 13 [a.p.t, b.p.t] fun x => Res.ok x else rB false else rB false) := by kernel_rfl
theorem q34 (N : Nat) (a b c : Int) : callP env (N + 1) 34 [i64 a, i64 b, i64 c] = W [i64 a, i64 b, i64 c] (bif a == 1 then bif c == 0 then Res.ok (T.tup [i64 0, T.bool true]) else bif a == 2 then bif c == 0 then Res.ok (T.tup [i64 b, T.bool true]) else bif c == b then Res.ok (T.tup [i64 b, T.bool true]) else bif a == 3 then bif c == 0 then Res.ok (T.tup [i64 b, T.bool true]) else bif a == 3 then Res.ok (T.tup [i64 c, T.bool true]) else Res.ok (T.tup [i64 0, T.bool false]) else bif a == 3 then Res.ok (T.tup [i64 c, T.bool true]) else Res.ok (T.tup [i64 0, T.bool false]) else bif a == 3 then bif c == 0 then Res.ok (T.tup [i64 b, T.bool true]) else bif a == 3 then Res.ok (T.tup [i64 c, T.bool true]) else Res.ok (T.tup [i64 0, T.bool false]) else bif a == 3 then Res.ok (T.tup [i64 c, T.bool true]) else Res.ok (T.tup [i64 0, T.bool false]) else bif a == 2 then bif c == 0 then Res.ok (T.tup [i64 b, T.bool true]) else bif c == b then Res.ok (T.tup [i64 b, T.bool true]) else bif a == 3 then bif c == 0 then Res.ok (T.tup [i64 b, T.bool true]) else bif a == 3 then Res.ok (T.tup [i64 c, T.bool true]) else Res.ok (T.tup [i64 0, T.bool false]) else bif a == 3 then Res.ok (T.tup [i64 c, T.bool true]) else Res.ok (T.tup [i64 0, T.bool false]) else bif a == 3 then bif c == 0 then Res.ok (T.tup [i64 b, T.bool true]) else bif a == 3 then Res.ok (T.tup [i64 c, T.bool true]) else Res.ok (T.tup [i64 0, T.bool false]) else bif a == 3 then Res.ok (T.tup [i64 c, T.bool true]) else Res.ok (T.tup [i64 0, T.bool false])) := by kernel_rfl
theorem q46 (N : Nat) (a b c : Int) : callP env (N + 1) 46 [i64 a, i64 b, i64 c] = W [i64 a, i64 b, i64 c] (bif a == 1 then bif c != 0 then Res.ok (T.tup [i64 c, T.bool true]) else bif a == 1 then bif c == 0 then Res.ok (T.tup [i64 b, T.bool true]) else bif a == 3 then bif c == 0 then Res.ok (T.tup [i64 0, T.bool true]) else Res.ok (T.tup [i64 0, T.bool false]) else Res.ok (T.tup [i64 0, T.bool false]) else bif a == 2 then bif c == 0 then Res.ok (T.tup [i64 b, T.bool true]) else bif a == 3 then bif c == 0 then Res.ok (T.tup [i64 0, T.bool true]) else Res.ok (T.tup [i64 0, T.bool false]) else Res.ok (T.tup [i64 0, T.bool false]) else bif a == 3 then bif c == 0 then Res.ok (T.tup [i64 0, T.bool true]) else Res.ok (T.tup [i64 0, T.bool false]) else Res.ok (T.tup [i64 0, T.bool false]) else bif a == 1 then bif c == 0 then Res.ok (T.tup [i64 b, T.bool true]) else bif a == 3 then bif c == 0 then Res.ok (T.tup [i64 0, T.bool true]) else Res.ok (T.tup [i64 0, T.bool false]) else Res.ok (T.tup [i64 0, T.bool false]) else bif a == 2 then bif c == 0 then Res.ok (T.tup [i64 b, T.bool true]) else bif a == 3 then bif c == 0 then Res.ok (T.tup [i64 0, T.bool true]) else Res.ok (T.tup [i64 0, T.bool false]) else Res.ok (T.tup [i64 0, T.bool false]) else bif a == 3 then bif c == 0 then Res.ok (T.tup [i64 0, T.bool true]) else Res.ok (T.tup [i64 0, T.bool false]) else Res.ok (T.tup [i64 0, T.bool false])) := by kernel_rfl
theorem q11 (N : Nat) (c : Cf) (k : Int) : callP env (N + 1) 11 [c.t, i64 k] = W [c.t, i64 k] (clB N 30 [c.t, i64 k] fun b => bif !b then rI 0 else atT (List.map Sd.t c.s) k fun e => Res.ok (e.partD 1 1 false)) := by kernel_rfl
theorem q30 (N : Nat) (c : Cf) (k : Int) : callP env (N + 1) 30 [c.t, i64 k] = W [c.t, i64 k] (bif decide (k ≥ 0) then rB (decide (k < (↑(List.map Sd.t c.s).length : Int))) else rB false) := by kernel_rfl
theorem q33 (N : Nat) (l : List Int) (n : Int) : callP env (N + 1) 33 [.sl 1 (ints l), i64 n] = W [.sl 1 (ints l), i64 n] (loopL env N 33 2 (sHa l n 0)) := by kernel_rfl
theorem b33_2 (N : Nat) (l : List Int) (n i : Int) : bodyL env N 33 0 2 (sHb l n i) = bif decide (i < (↑(ints l).length : Int)) then atT (ints l) i fun e => iT IntKind.i64 e fun a => bif a == n then Res.ok (Ex.ret, { tmps := slots 18 [(4, PV.t (T.bool true))], heap := [] }) else Res.ok (Ex.norm, sHa l n (IntKind.i64.wrap (i + 1))) else Res.ok (Ex.exit 0, { tmps := slots 18 [], heap := [] }) := by kernel_rfl
theorem q7 (N : Nat) (c : Cf) (k : Int) (x : Px) (p : Pa) : callP env (N + 1) 7 [c.t, i64 k, x.t, p.t] = W [c.t, i64 k, x.t, p.t] (clB N 29 [c.t] fun b => bif !b then Res.ok (T.tup [T.agg [i64 0, i64 0, T.sl 1 [], i64 0, i64 0, i64 0], T.bool false]) else clB N 30 [c.t, i64 k] fun b => bif !b then Res.ok (T.tup [T.agg [i64 0, i64 0, T.sl 1 [], i64 0, i64 0, i64 0], T.bool false]) else clB N 31 [x.t] fun b => bif !b then Res.ok (T.tup [T.agg [i64 0, i64 0, T.sl 1 [], i64 0, i64 0, i64 0], T.bool false]) else clB N 32 [p.t] fun b => bif !b then Res.ok (T.tup [T.agg [i64 0, i64 0, T.sl 1 [], i64 0, i64 0, i64 0], T.bool false]) else atT (List.map Sd.t c.s) k fun e => chk (e.cells.length == 4 && !e.isTup) (bif (↑(ints p.s).length : Int) == 0 then Res.ok (T.tup [T.agg [i64 0, i64 0, T.sl 1 [], i64 0, i64 0, i64 0], T.bool false]) else atT (ints p.s) 0 fun e_1 => iT IntKind.i64 e_1 fun a => iT IntKind.i64 (e.partD 0 1 false) fun b => bif a != b then Res.ok (T.tup [T.agg [i64 0, i64 0, T.sl 1 [], i64 0, i64 0, i64 0], T.bool false]) else clB N 33 [T.sl 1 (ints p.s), i64 c.a] fun b => bif b then Res.ok (T.tup [T.agg [i64 0, i64 0, T.sl 1 [], i64 0, i64 0, i64 0], T.bool false]) else bif decide ((↑(ints p.s).length : Int) > 32) then Res.ok (T.tup [T.agg [i64 0, i64 0, T.sl 1 [], i64 0, i64 0, i64 0], T.bool false]) else cl N 34 [e.partD 1 1 false, e.partD 0 1 false, i64 p.c] fun x_1 => compT x_1 0 fun y => compT x_1 1 fun y_1 => chk ((e.partD 1 1 false).cells.length == 1 && !(e.partD 1 1 false).isTup) (cl N 35 [e.partD 2 1 false, T.agg [i64 x.a, i64 x.n, T.sl 1 (ints p.s), (e.partD 1 1 false).cell 0]] fun x => compT x 0 fun y_2 => compT x 1 fun y_3 => chk (y_2.cells.length == 6 && !y_2.isTup) (bT y_1 fun b => bif !b then Res.ok (T.tup [T.agg [i64 0, i64 0, T.sl 1 [], i64 0, i64 0, i64 0], T.bool false]) else bT y_3 fun b => bif !b then Res.ok (T.tup [T.agg [i64 0, i64 0, T.sl 1 [], i64 0, i64 0, i64 0], T.bool false]) else iT IntKind.i64 (y_2.partD 4 1 false) fun a => bif a != 2 then Res.ok (T.tup [T.agg [i64 0, i64 0, T.sl 1 [], i64 0, i64 0, i64 0], T.bool false]) else chk (y.cells.length == 1 && !y.isTup) (chk ((y_2.partD 5 1 false).cells.length == 1 && !(y_2.partD 5 1 false).isTup) (Res.ok (T.tup [T.agg [(y_2.partD 5 1 false).cell 0, i64 p.o, T.sl 1 (ints p.s), i64 p.h, (T.agg [i64 p.o, T.sl 1 (ints p.s), i64 p.h, y.cell 0]).cell 3, i64 k], T.bool true]))))))) := by kernel_rfl
end Go.Sim

/- What calls come to: printed by wip/tools/eq2.py: more of the document's layers. -/
namespace Go.Sim
open Go.RowKit Go.Proofs
set_option linter.unusedVariables false
set_option maxRecDepth 100000
variable [Lv]

theorem t73_2_ret (N : Nat) (v : Bool) : tailL env N 73 0 2 (outK env 73) (.ret) (⟨slots 18 [(4, .t (.bool v))], []⟩) = rB v := by kernel_rfl
theorem t73_2_exit0 (N : Nat)  : tailL env N 73 0 2 (outK env 73) (.exit 0) (⟨slots 18 [], []⟩) = rB false := by kernel_rfl
theorem t33_2_ret (N : Nat) (v : Bool) : tailL env N 33 0 2 (outK env 33) (.ret) (⟨slots 18 [(4, .t (.bool v))], []⟩) = rB v := by kernel_rfl
theorem t33_2_exit0 (N : Nat)  : tailL env N 33 0 2 (outK env 33) (.exit 0) (⟨slots 18 [], []⟩) = rB false := by kernel_rfl
theorem t35_2_ret (N : Nat) (u : Ru) : tailL env N 35 0 2 (outK env 35) (.ret) (⟨slots 24 [(4, .ptr 0 0), (5, .t (.bool true))], [.box 46 6 (.t u.t)]⟩) = Res.ok (T.tup [u.t, T.bool true]) := by kernel_rfl
theorem t35_2_exit0 (N : Nat) (z : T) : tailL env N 35 0 2 (outK env 35) (.exit 0) (⟨slots 24 [(4, .ptr 0 0)], [.box 46 6 (.t z)]⟩) = Res.ok (T.tup [T.agg [i64 0, i64 0, i64 0, i64 0, i64 0, i64 0], T.bool false]) := by kernel_rfl
theorem t70_2_ret (N : Nat) (v : Bool) : tailL env N 70 0 2 (outK env 70) (.ret) (⟨slots 22 [(4, .t (.bool v))], []⟩) = rB v := by kernel_rfl
theorem t59_2_ret (N : Nat) (v : Bool) : tailL env N 59 0 2 (outK env 59) (.ret) (⟨slots 34 [(2, .t (.bool v))], []⟩) = rB v := by kernel_rfl
theorem t59_2_7_ret (N : Nat) (v : Bool) : tailI env N 59 0 2 7 (.ret) (⟨slots 34 [(2, .t (.bool v))], []⟩) = Res.ok (Ex.ret, { tmps := slots 34 [(2, PV.t (T.bool v))], heap := [] }) := by kernel_rfl
theorem t60_2_ret (N : Nat) (v : Bool) : tailL env N 60 0 2 (outK env 60) (.ret) (⟨slots 70 [(4, .t (.bool v))], []⟩) = rB v := by kernel_rfl
theorem t60_2_8_ret (N : Nat) (v : Bool) : tailI env N 60 0 2 8 (.ret) (⟨slots 70 [(4, .t (.bool v))], []⟩) = Res.ok (Ex.ret, { tmps := slots 70 [(4, PV.t (T.bool v))], heap := [] }) := by kernel_rfl
theorem t32_2_ret (N : Nat) (v : Bool) : tailL env N 32 0 2 (outK env 32) (.ret) (⟨slots 59 [(2, .t (.bool v))], []⟩) = rB v := by kernel_rfl
theorem q3 (N : Nat) (c : Cf) (k : Int) (x : Px) (p : Pa) (r : Rt) : callP env (N + 1) 3 [c.t, i64 k, x.t, p.t, r.t] = W [c.t, i64 k, x.t, p.t, r.t] (cl N 4 [] fun x_1 => clB N 5 [c.t, p.t] fun b => bif !b then Res.ok x_1 else clB N 5 [c.t, r.p.t] fun b => bif !b then Res.ok x_1 else cl N 6 [c.t, i64 k, x.t, p.t] fun x_2 => compT x_2 0 fun y => compT x_2 1 fun y_1 => chk (y.cells.length == 6 && !y.isTup) (cl N 7 [c.t, i64 k, x.t, p.t] fun x_3 => compT x_3 0 fun y_2 => compT x_3 1 fun y_3 => chk (y_2.cells.length == 6 && !y_2.isTup) (cl N 8 [c.t, i64 k, x.t, r.t] fun x_4 => compT x_4 0 fun y_4 => compT x_4 1 fun y_5 => chk (y_4.cells.length == 4 && !y_4.isTup) (cl N 9 [c.t, i64 k, x.t, r.t] fun x => compT x 0 fun y_6 => compT x 1 fun y_7 => chk (y_6.cells.length == 4 && !y_6.isTup) (bT x_1 fun b => bif b then cl N 10 [c.t, i64 k] fun x => cl N 11 [c.t, i64 k] fun x_5 => iT IntKind.i64 x fun a => iT IntKind.i64 x_5 fun b => bif a == b then match T.eqLs [1] [y_1] [y_3] with | some b => bif b then clB N 12 [y, y_2] fun b => bif b then match T.eqLs [1] [y_5] [y_7] with | some b => bif b then cl N 13 [y_4, y_6] fun x => Res.ok x else rB false | none => Res.stuck else rB false else rB false | none => Res.stuck else rB false else rB false))))) := by kernel_rfl
end Go.Sim

/- What calls come to: printed by wip/tools/eq2.py: laws of layer 14. -/
namespace Go.Sim
open Go.RowKit Go.Proofs
set_option linter.unusedVariables false
set_option maxRecDepth 100000
variable [Lv]


def sSP (a b : Pa) (i : Int) : St := ⟨slots 52 [(2, .ptr 0 0), (3, .ptr 1 0), (5, .t (i64 i))], [.box 30 4 (.t a.t), .box 30 4 (.t b.t)]⟩
theorem q14 (N : Nat)  : callP env (N + 1) 14 [] = W [] (chkAll (T.okE 6) [T.agg [i64 0, i64 0, i64 0, i64 0, i64 2, i64 300]] (chkAll (T.okE 6) [T.agg [i64 0, i64 0, i64 0, i64 0, i64 1, i64 0]] (chkAll (T.okE 6) [T.agg [i64 0, i64 0, i64 0, i64 0, i64 2, i64 100]] (chkAll (T.okE 6) [T.agg [i64 0, i64 0, i64 0, i64 0, i64 3, i64 1]] (chkAll (T.okE 4) [T.agg [i64 65002, i64 1, T.sl 6 [T.agg [i64 0, i64 0, i64 0, i64 0, i64 2, i64 300]], T.sl 6 [T.agg [i64 0, i64 0, i64 0, i64 0, i64 1, i64 0]]], T.agg [i64 65003, i64 3, T.sl 6 [T.agg [i64 0, i64 0, i64 0, i64 0, i64 2, i64 100]], T.sl 6 [T.agg [i64 0, i64 0, i64 0, i64 0, i64 3, i64 1]]]] (Res.ok (T.agg [i64 65001, i64 9, i64 0, i64 9, T.sl 2 [], T.sl 4 [T.agg [i64 65002, i64 1, T.sl 6 [T.agg [i64 0, i64 0, i64 0, i64 0, i64 2, i64 300]], T.sl 6 [T.agg [i64 0, i64 0, i64 0, i64 0, i64 1, i64 0]]], T.agg [i64 65003, i64 3, T.sl 6 [T.agg [i64 0, i64 0, i64 0, i64 0, i64 2, i64 100]], T.sl 6 [T.agg [i64 0, i64 0, i64 0, i64 0, i64 3, i64 1]]]]]))))))) := by kernel_rfl
theorem q4 (N : Nat)  : callP env (N + 1) 4 [] = W [] (cl N 14 [] fun x => chkAll (T.okE 1) [i64 65002] (cl N 6 [x, i64 0, T.agg [i64 0, i64 0], T.agg [i64 0, T.sl 1 [i64 65002], i64 5, i64 0]] fun x => compT x 0 fun y => compT x 1 fun y_1 => chk (y.cells.length == 6 && !y.isTup) (cl N 14 [] fun x => cl N 8 [x, i64 1, T.agg [i64 0, i64 0], y] fun x => compT x 0 fun y_2 => compT x 1 fun y_3 => chk (y_2.cells.length == 4 && !y_2.isTup) (cl N 14 [] fun x => cl N 8 [x, i64 0, T.agg [i64 0, i64 0], y] fun x => compT x 0 fun y_4 => compT x 1 fun y_5 => chk (y_4.cells.length == 4 && !y_4.isTup) (bT y_1 fun b => bif b then iT IntKind.i64 (y.partD 0 1 false) fun a => bif a == 300 then iT IntKind.i64 (y.partD 5 1 false) fun a => bif a == 0 then bT y_3 fun b => bif b then sllT (y_2.partD 1 1 false) fun n => bif n == 3 then slT 1 (y_2.partD 1 1 false) fun xs => atT xs 0 fun e => iT IntKind.i64 e fun a => bif a == 65001 then slT 1 (y_2.partD 1 1 false) fun xs => atT xs 1 fun e => iT IntKind.i64 e fun a => bif a == 65001 then slT 1 (y_2.partD 1 1 false) fun xs => atT xs 2 fun e => iT IntKind.i64 e fun a => bif a == 65002 then iT IntKind.i64 (y_2.partD 2 1 false) fun a => bif a == 9 then bT y_5 fun b => bif !b then cl N 14 [] fun x => clI N 10 [x, i64 1] fun a => rB (a == 3) else rB false else rB false else rB false else rB false else rB false else rB false else rB false else rB false else rB false else rB false))))) := by kernel_rfl
theorem q5 (N : Nat) (c : Cf) (p : Pa) : callP env (N + 1) 5 [c.t, p.t] = W [c.t, p.t] (clB N 15 [c.t] fun b => bif b then rB (decide ((↑(ints p.s).length : Int) ≤ 100)) else rB false) := by kernel_rfl
theorem q13 (N : Nat) (a b : Pa) : callP env (N + 1) 13 [a.t, b.t] = W [a.t, b.t] (bif a.o != b.o then rB false else bif a.h != b.h then rB false else bif a.c != b.c then rB false else bif (↑(ints a.s).length : Int) != (↑(ints b.s).length : Int) then rB false else loopL env N 13 4 { tmps := slots 52 [(2, PV.ptr 0 0), (3, PV.ptr 1 0), (5, PV.t (i64 0))], heap := [AObj.box 30 4 (PV.t a.t), AObj.box 30 4 (PV.t b.t)] }) := by kernel_rfl
theorem b13_4 (N : Nat) (a b : Pa) (i : Int) : bodyL env N 13 0 4 (sSP a b i) = bif decide (i < (↑(ints a.s).length : Int)) then atT (ints a.s) i fun e => atT (ints b.s) i fun e_1 => iT IntKind.i64 e fun a_1 => iT IntKind.i64 e_1 fun b_1 => bif a_1 != b_1 then Res.ok (Ex.ret, { tmps := slots 52 [(4, PV.t (T.bool false))], heap := [] }) else Res.ok (Ex.norm, sSP a b (IntKind.i64.wrap (i + 1))) else Res.ok (Ex.exit 0, { tmps := slots 52 [], heap := [] }) := by kernel_rfl
theorem t13_4_exit0 (N : Nat) (H : List AObj) : tailL env N 13 0 4 (outK env 13) (.exit 0) (⟨slots 52 [], H⟩) = rB true := by kernel_rfl
theorem t13_4_ret (N : Nat) (H : List AObj) (v : Bool) : tailL env N 13 0 4 (outK env 13) (.ret) (⟨slots 52 [(4, .t (.bool v))], H⟩) = rB v := by kernel_rfl
end Go.Sim

/- What calls come to: printed by wip/tools/eq2.py: laws of layer 14. -/
namespace Go.Sim
open Go.RowKit Go.Proofs
set_option linter.unusedVariables false
set_option maxRecDepth 100000
variable [Lv]


def sTk (c : Cf) (k : Int) (p : Pa) (r : Rt) (i : Int) : St := ⟨slots 110 [(1, .t (i64 k)), (4, .ptr 0 0), (7, .ptr 1 0), (9, .t (.bool true)), (10, .ptr 2 0), (12, .t (i64 i))], [.box 25 6 (.t c.t), .box 30 4 (.t p.t), .box 32 6 (.t r.t)]⟩
end Go.Sim

/- EdgeTakes, EdgeMarks, EdgeLoops: their calls come to 'true'. -/
namespace Go.Sim
open Go.RowKit Go.Proofs
set_option linter.unusedVariables false
set_option linter.unusedSimpArgs false
set_option linter.unusedSectionVars false
set_option maxRecDepth 100000

def nodeE : Cf := ⟨65001, 9, 0, 9, [], [⟨65002, 1, [⟨0, ⟨0, 0⟩, 0, 2, 300⟩], [⟨0, ⟨0, 0⟩, 0, 1, 0⟩]⟩, ⟨65003, 3, [⟨0, ⟨0, 0⟩, 0, 2, 100⟩], [⟨0, ⟨0, 0⟩, 0, 3, 1⟩]⟩]⟩
theorem nodeE_ok : nodeE.ok := ⟨rfl, rfl, rfl, rfl, okL_nil, okL_two ⟨rfl, rfl, okL_one ⟨rfl, ⟨rfl, rfl⟩, rfl, rfl, rfl⟩, okL_one ⟨rfl, ⟨rfl, rfl⟩, rfl, rfl, rfl⟩⟩ ⟨rfl, rfl, okL_one ⟨rfl, ⟨rfl, rfl⟩, rfl, rfl, rfl⟩, okL_one ⟨rfl, ⟨rfl, rfl⟩, rfl, rfl, rfl⟩⟩⟩
def pathE : Pa := ⟨0, [65002], 5, 0⟩
theorem pathE_ok : pathE.ok := ⟨rfl, show 1 ≤ big by decide, fun x hx => (by rw [List.mem_singleton.1 hx]; rfl), rfl, rfl⟩
def routeE : Rt := ⟨300, pathE, 0⟩
theorem routeE_ok : routeE.ok := ⟨rfl, pathE_ok, rfl⟩
variable [Lv]
theorem f14_ok {M : Nat} : callP env (M + 1) 14 [] = .ok nodeE.t := by rw [q14]; kernel_rfl
set_option maxHeartbeats 1000000 in
theorem f4_ok {M : Nat} (hM : big + 20 ≤ M) : callP env (M + 1) 4 [] = .ok (.bool true) := by
  obtain ⟨m, rfl⟩ := exM (show 1 ≤ M by omega)
  have hx : (⟨0, 0⟩ : Px).ok := ⟨rfl, rfl⟩
  have i1 : callP env (m + 1) 6 [nodeE.t, i64 0, T.agg [i64 0, i64 0], T.agg [i64 0, T.sl 1 [i64 65002], i64 5, i64 0]] = .ok (.tup [routeE.t, .bool true]) := by
    have := f6_ok (M := m) (k := 0) (by omega) nodeE_ok rfl hx pathE_ok
    rw [show inR nodeE 0 ⟨0, 0⟩ pathE = some routeE by decide +kernel] at this
    exact this
  have i2 : callP env (m + 1) 8 [nodeE.t, i64 1, T.agg [i64 0, i64 0], routeE.t] = .ok (.tup [(Pa.mk 0 [65001, 65001, 65002] 9 0).t, .bool true]) := by
    have := f8_ok (M := m) (k := 1) (by omega) nodeE_ok rfl hx routeE_ok
    rw [show outR nodeE 1 ⟨0, 0⟩ routeE = some ⟨0, [65001, 65001, 65002], 9, 0⟩ by decide +kernel] at this
    exact this
  have i3 : callP env (m + 1) 8 [nodeE.t, i64 0, T.agg [i64 0, i64 0], routeE.t] = .ok (.tup [zP, .bool false]) := by
    have := f8_ok (M := m) (k := 0) (by omega) nodeE_ok rfl hx routeE_ok
    rw [show outR nodeE 0 ⟨0, 0⟩ routeE = none by decide +kernel] at this
    exact this
  have i4 : callP env (m + 1) 10 [nodeE.t, i64 1] = .ok (i64 3) := by
    have := f10_ok (M := m) (k := 1) (by omega) nodeE_ok rfl
    rw [show classI nodeE 1 = 3 by decide +kernel] at this
    exact this
  have e0 : chkAll (T.okE 1) [i64 65002] = fun (K : Res T) => K := rfl
  have zc : (zP.cells.length == 4 && !zP.isTup) = true := rfl
  rw [q4, W_ok rfl, cl_ok f14_ok, e0]
  simp only []
  rw [cl_ok i1]
  simp only [compT, List.getElem?_cons_zero, List.getElem?_cons_succ, rt_chk, chk_true]
  rw [cl_ok f14_ok, cl_ok i2]
  simp only [compT, List.getElem?_cons_zero, List.getElem?_cons_succ, pa_chk, chk_true]
  rw [cl_ok f14_ok, cl_ok i3]
  have p0 : routeE.t.partD 0 1 false = i64 300 := rfl
  have p5 : routeE.t.partD 5 1 false = i64 0 := rfl
  have q1 : (Pa.mk 0 [65001, 65001, 65002] 9 0).t.partD 1 1 false = T.sl 1 [i64 65001, i64 65001, i64 65002] := rfl
  have q2 : (Pa.mk 0 [65001, 65001, 65002] 9 0).t.partD 2 1 false = i64 9 := rfl
  have s1 : ∀ K : Int → Res T, sllT (T.sl 1 [i64 65001, i64 65001, i64 65002]) K = K 3 := fun K => rfl
  have s2 : ∀ (l : List T) (K : List T → Res T), slT 1 (T.sl 1 l) K = K l := fun l K => rfl
  have a0 : ∀ K : T → Res T, atT [i64 65001, i64 65001, i64 65002] 0 K = K (i64 65001) := fun K => rfl
  have a1 : ∀ K : T → Res T, atT [i64 65001, i64 65001, i64 65002] 1 K = K (i64 65001) := fun K => rfl
  have a2 : ∀ K : T → Res T, atT [i64 65001, i64 65001, i64 65002] 2 K = K (i64 65002) := fun K => rfl
  simp only [compT, List.getElem?_cons_zero, List.getElem?_cons_succ, zc, chk_true, bT_bool, cond_true, p0, p5, q1, q2, s1, s2, a0, a1, a2, iT_int, beq_self_eq_true, Bool.not_false]
  rw [cl_ok f14_ok, clI_ok i4]
  rfl
theorem f5_ok {M : Nat} {c : Cf} {p : Pa} (hM : big + 5 ≤ M) (h : c.ok) (hp : p.ok) : callP env (M + 1) 5 [c.t, p.t] = .ok (.bool (few12 c && decide (p.s.length ≤ 100))) := by
  obtain ⟨m, rfl⟩ := exM (show 1 ≤ M by omega)
  rw [q5, W_ok (wfs2 h.wf hp.wf), clB_ok (f15_ok (by omega) h), and_rB]
  have : decide (((ints p.s).length : Int) ≤ 100) = decide (p.s.length ≤ 100) := by rw [ints_map, List.length_map]; exact decide_eq_decide.2 (by omega)
  rw [this]
theorem same_loop {M : Nat} {a b : Pa} (hM : big + 1 ≤ M) (ha : a.s.length ≤ big) (hs : a.s.length = b.s.length) : loopL env M 13 4 (sSP a b 0) = rB (decide (a.s = b.s)) := by
  have hit := iter_seek (B := bodyL env M 13 0 4) (S := fun i => sSP a b i) (R := fun _ => ⟨slots 52 [(4, .t (.bool false))], []⟩) (X := ⟨slots 52 [], []⟩) (id := 0) (fun i => !(a.s[i]? == b.s[i]?)) a.s.length 0 M (by omega)
    (fun j h0 h1 hp => by
      have hj : j < a.s.length := by omega
      have e1 : a.s[j]? = some a.s[j] := List.getElem?_eq_getElem hj
      have e2 : b.s[j]? = some (b.s[j]'(by omega)) := List.getElem?_eq_getElem (by omega)
      rw [b13_4, decide_eq_true (by rw [ints_map, List.length_map]; omega)]
      simp only [cond_true]
      rw [atT_get (ints_get e1), atT_get (ints_get e2)]
      simp only [iT_int]
      rw [e1, e2] at hp
      have : (a.s[j] != b.s[j]'(by omega)) = true := by simpa using hp
      rw [this]; rfl)
    (fun j h0 h1 hp => by
      have hj : j < a.s.length := by omega
      have e1 : a.s[j]? = some a.s[j] := List.getElem?_eq_getElem hj
      have e2 : b.s[j]? = some (b.s[j]'(by omega)) := List.getElem?_eq_getElem (by omega)
      rw [b13_4, decide_eq_true (by rw [ints_map, List.length_map]; omega)]
      simp only [cond_true]
      rw [atT_get (ints_get e1), atT_get (ints_get e2)]
      simp only [iT_int]
      rw [e1, e2] at hp
      have : (a.s[j] != b.s[j]'(by omega)) = false := by simpa using hp
      rw [this, wrap_succ (show j ≤ big by omega)]; rfl)
    (by rw [Nat.zero_add, b13_4, decide_eq_false (by rw [ints_map, List.length_map]; omega)]; rfl)
  cases hk : seekI (fun i => !(a.s[i]? == b.s[i]?)) 0 a.s.length with
  | some j =>
    rw [hk] at hit
    obtain ⟨_, hj, hp⟩ := seekI_some hk
    refine (loopL_end hit).trans ((t13_4_ret M [] false).trans ?_)
    rw [decide_eq_false]
    intro he
    rw [he] at hp
    simp at hp
  | none =>
    rw [hk] at hit
    refine (loopL_end hit).trans ((t13_4_exit0 M []).trans ?_)
    rw [decide_eq_true]
    refine List.ext_getElem? fun i => ?_
    rcases Nat.lt_or_ge i a.s.length with hi | hi
    · have := seekI_none hk i (by omega) (by omega)
      simpa using this
    · rw [List.getElem?_eq_none hi, List.getElem?_eq_none (by omega)]
theorem f13_ok {M : Nat} {a b : Pa} (hM : big + 1 ≤ M) (ha : a.ok) (hb : b.ok) : callP env (M + 1) 13 [a.t, b.t] = .ok (.bool (decide (a = b))) := by
  have e : decide (a = b) = (decide (a.o = b.o) && (decide (a.h = b.h) && (decide (a.c = b.c) && decide (a.s = b.s)))) := by
    rw [Bool.eq_iff_iff]
    simp only [decide_eq_true_eq, Bool.and_eq_true]
    obtain ⟨o, s, h, c⟩ := a
    obtain ⟨o', s', h', c'⟩ := b
    simp only [Pa.mk.injEq]
    constructor
    · rintro ⟨h1, h2, h3, h4⟩; exact ⟨h1, h3, h4, h2⟩
    · rintro ⟨h1, h3, h4, h2⟩; exact ⟨h1, h2, h3, h4⟩
  rw [e, q13, W_ok (wfs2 ha.wf hb.wf)]
  by_cases h1 : a.o = b.o
  case neg => rw [bne_iff_ne.2 h1, decide_eq_false h1]; rfl
  by_cases h2 : a.h = b.h
  case neg => rw [h1, bne_self_eq_false, bne_iff_ne.2 h2, decide_eq_false h2]; simp
  by_cases h3 : a.c = b.c
  case neg => rw [h1, h2, bne_self_eq_false, bne_self_eq_false, bne_iff_ne.2 h3, decide_eq_false h3]; simp
  rw [h1, h2, h3, bne_self_eq_false, bne_self_eq_false, bne_self_eq_false]
  simp only [cond_false, decide_true, Bool.true_and]
  rw [ints_map, ints_map, List.length_map, List.length_map]
  by_cases h4 : a.s.length = b.s.length
  · rw [h4, bne_self_eq_false]
    exact same_loop hM ha.l h4
  · rw [bne_iff_ne.2 (show (a.s.length : Int) ≠ (b.s.length : Int) by omega), decide_eq_false (fun h => h4 (by rw [h]))]; rfl
end Go.Sim

/- What the document's layers 2, 7, 9, 10, 12, 13 answer: the same as the program's. -/
namespace Go.Sim
open Go.RowKit Go.Proofs
set_option linter.unusedVariables false
set_option linter.unusedSimpArgs false
set_option linter.unusedSectionVars false
set_option maxRecDepth 100000

theorem seekI_min {p : Nat → Bool} : ∀ {k i j : Nat}, seekI p i k = some j → ∀ m, i ≤ m → m < j → p m = false
  | 0, i, j, h, m, a, b => by simp [seekI] at h
  | k + 1, i, j, h, m, a, b => by
    cases hp : p i with
    | true => simp [seekI, hp] at h; omega
    | false =>
      simp only [seekI, hp, cond_false] at h
      rcases Nat.lt_or_ge i m with c | c
      · exact seekI_min h m (by omega) b
      · have : m = i := by omega
        subst this; exact hp
def sizeI (n : Int) : Int := 2 ^ (32 - max n 0).toNat
theorem pow_le32 {s : Nat} (h : s ≤ 32) : (2 : Int) ^ s ≤ 4294967296 ∧ 0 < (2 : Int) ^ s := by
  constructor
  · have : (2 : Int) ^ s ≤ 2 ^ 32 := by exact_mod_cast Nat.pow_le_pow_right (by omega) h
    simpa using this
  · exact_mod_cast Nat.pow_pos (by omega : 0 < 2)
theorem and_range (a : Int) : 0 ≤ ((BitVec.toNat (BitVec.ofInt 64 a &&& BitVec.ofInt 64 4294967295) : Nat) : Int) ∧ ((BitVec.toNat (BitVec.ofInt 64 a &&& BitVec.ofInt 64 4294967295) : Nat) : Int) ≤ 4294967295 := by
  have h : BitVec.toNat (BitVec.ofInt 64 a &&& BitVec.ofInt 64 4294967295) ≤ 4294967295 := by
    rw [BitVec.toNat_and]
    exact Nat.le_trans Nat.and_le_right (by decide)
  omega
theorem mask_eq {a n : Int} (h0 : 0 ≤ n) (h1 : n ≤ 32) : maskI a n = ((BitVec.toNat (BitVec.ofInt 64 a &&& BitVec.ofInt 64 4294967295) : Nat) : Int) / 2 ^ (32 - n).toNat * 2 ^ (32 - n).toNat := by
  have hx := and_range a
  have hs : shiftI n = 32 - n := by rw [shiftI_eq]; omega
  unfold maskI
  rw [hs, Nat.min_eq_left (show (32 - n).toNat ≤ 64 by omega)]
  generalize ((BitVec.toNat (BitVec.ofInt 64 a &&& BitVec.ofInt 64 4294967295) : Nat) : Int) = y at hx ⊢
  obtain ⟨p1, p2⟩ := pow_le32 (s := (32 - n).toNat) (by omega)
  generalize (2 : Int) ^ (32 - n).toNat = p at p1 p2 ⊢
  have e1 : IntKind.i64.wrap y = y := wrap64 (by omega)
  rw [e1, Int.fdiv_eq_ediv_of_nonneg y (by omega)]
  have q1 := Int.ediv_mul_le y (show p ≠ 0 by omega)
  have q2 : 0 ≤ y / p * p := Int.mul_nonneg (Int.ediv_nonneg hx.1 (by omega)) (by omega)
  rw [wrap64 (by omega)]
theorem mask_range {a n : Int} (h0 : 0 ≤ n) (h1 : n ≤ 32) : 0 ≤ maskI a n ∧ maskI a n ≤ 4294967295 := by
  rw [mask_eq h0 h1]
  have hx := and_range a
  generalize ((BitVec.toNat (BitVec.ofInt 64 a &&& BitVec.ofInt 64 4294967295) : Nat) : Int) = y at hx ⊢
  obtain ⟨p1, p2⟩ := pow_le32 (s := (32 - n).toNat) (by omega)
  generalize (2 : Int) ^ (32 - n).toNat = p at p1 p2 ⊢
  have q1 := Int.ediv_mul_le y (show p ≠ 0 by omega)
  have q2 : 0 ≤ y / p * p := Int.mul_nonneg (Int.ediv_nonneg hx.1 (by omega)) (by omega)
  omega
theorem fresh_iff {α κ : Type} [DecidableEq κ] {kf : α → κ} {q : α → Bool} : ∀ {l : List α} {s : List κ}, freshB kf q s l = true ↔ ∀ (i : Nat) (x : α), l[i]? = some x → (s ++ (l.take i).map kf).contains (kf x) = false ∧ q x = true
  | [], s => by simp [freshB]
  | y :: l, s => by
    unfold freshB
    rw [Bool.and_eq_true, Bool.and_eq_true, fresh_iff]
    constructor
    · rintro ⟨h1, h2, h3⟩ i x hx
      cases i with
      | zero =>
        simp only [List.getElem?_cons_zero, Option.some.injEq] at hx
        subst hx
        refine ⟨?_, h2⟩
        simpa using h1
      | succ i =>
        have := h3 i x (by simpa using hx)
        rw [List.take_succ_cons, List.map_cons]
        rw [List.append_assoc] at this
        exact this
    · intro h
      have h0 := h 0 y rfl
      refine ⟨by simpa using h0.1, h0.2, fun i x hx => ?_⟩
      have := h (i + 1) x (by simpa using hx)
      rw [List.take_succ_cons, List.map_cons] at this
      rw [List.append_assoc]
      exact this
variable [Lv]
theorem f71_ok {M : Nat} {n : Int} (hM : 40 ≤ M) (hn : ok64 n = true) : callP env (M + 1) 71 [i64 n] = .ok (i64 (sizeI n)) := by
  rw [q71, W_ok (wfs1 (wf_int hn))]
  have hm : minmax true [0] n = max n 0 := by
    simp only [minmax, cond_true]
    split <;> omega
  rw [hm]
  have main : ∀ (d k : Nat) (i m : Int), (32 - i).toNat = d → 0 ≤ i → i ≤ 9223372036854775807 → 0 ≤ m → m * 2 ^ d ≤ 4294967296 → d < k → iterR (bodyL env M 71 0 3) k (sSz m i) = .ok (.exit 0, ⟨slots 14 [(3, .t (i64 (m * 2 ^ d)))], []⟩) := by
    intro d
    induction d with
    | zero =>
      intro k i m hd h0 h9 hm0 hm1 hk
      obtain ⟨k, rfl⟩ : ∃ j, k = j + 1 := ⟨k - 1, by omega⟩
      have hb : bodyL env M 71 0 3 (sSz m i) = .ok (.exit 0, ⟨slots 14 [(3, .t (i64 (m * 2 ^ 0)))], []⟩) := by
        rw [b71_3, decide_eq_false (by omega), Int.pow_zero, Int.mul_one]; rfl
      exact iterR_exit hb
    | succ d ih =>
      intro k i m hd h0 h9 hm0 hm1 hk
      obtain ⟨k, rfl⟩ : ∃ j, k = j + 1 := ⟨k - 1, by omega⟩
      have hp : (1 : Int) ≤ 2 ^ d := (by exact_mod_cast Nat.pow_pos (by omega : 0 < 2) : (0 : Int) < 2 ^ d)
      have e : m * 2 ^ (d + 1) = (m * 2) * 2 ^ d := by rw [Int.pow_succ, Int.mul_comm (2 ^ d) 2, Int.mul_assoc]
      have hle : m * 2 ≤ 4294967296 := by
        rw [e] at hm1
        exact Int.le_trans (by have := Int.mul_le_mul_of_nonneg_left hp (show 0 ≤ m * 2 by omega); omega) hm1
      have hb : bodyL env M 71 0 3 (sSz m i) = .ok (.norm, sSz (m * 2) (i + 1)) := by
        rw [b71_3, decide_eq_true (by omega), wrap64 (by omega), wrap64 (by omega)]; rfl
      rw [iterR_step hb, e]
      exact ih k (i + 1) (m * 2) (by omega) (by omega) (by omega) (by omega) (by rw [← e]; exact hm1) (by omega)
  have hn' := ok64_iff.1 hn
  have hd : (32 - max n 0).toNat ≤ 32 := by omega
  obtain ⟨p1, p2⟩ := pow_le32 hd
  have it := main (32 - max n 0).toNat M (max n 0) 1 rfl (by omega) (by omega) (by omega) (by rw [Int.one_mul]; exact p1) (by omega)
  refine (loopL_end it).trans ((t71_3_exit0 M _).trans ?_)
  rw [Int.one_mul]; rfl
theorem f61_ok {M : Nat} {a n : Int} (hM : 42 ≤ M) (ha : ok64 a = true) (hn : ok64 n = true) (h0 : 0 ≤ n) (h1 : n ≤ 32) : callP env (M + 1) 61 [i64 a, i64 n] = .ok (i64 (maskI a n)) := by
  obtain ⟨m, rfl⟩ := exM (show 1 ≤ M by omega)
  rw [q61, W_ok (wfs2 (wf_int ha) (wf_int hn)), clI_ok (f71_ok (by omega) hn), mask_eq h0 h1]
  have hs : sizeI n = 2 ^ (32 - n).toNat := by unfold sizeI; rw [show max n 0 = n by omega]
  rw [hs]
  have hx := and_range a
  generalize ((BitVec.toNat (BitVec.ofInt 64 a &&& BitVec.ofInt 64 4294967295) : Nat) : Int) = y at hx ⊢
  obtain ⟨p1, p2⟩ := pow_le32 (s := (32 - n).toNat) (by omega)
  generalize (2 : Int) ^ (32 - n).toNat = p at p1 p2 ⊢
  have hp : (p == 0) = false := beq_eq_false_iff_ne.2 (by omega)
  rw [hp, wrap64 (show -9223372036854775808 ≤ y ∧ y ≤ 9223372036854775807 by omega), Int.tmod_eq_emod_of_nonneg hx.1]
  have q1 := Int.ediv_mul_le y (show p ≠ 0 by omega)
  have q2 : 0 ≤ y / p * p := Int.mul_nonneg (Int.ediv_nonneg hx.1 (by omega)) (by omega)
  have q3 : y - y % p = y / p * p := by have := Int.emod_add_mul_ediv y p; rw [Int.mul_comm] at this; omega
  rw [q3, wrap64 (by omega)]
  rfl
theorem f31_ok {M : Nat} {x : Px} (hM : 44 ≤ M) (h : x.ok) : callP env (M + 1) 31 [x.t] = .ok (.bool (psane x)) := by
  obtain ⟨m, rfl⟩ := exM (show 1 ≤ M by omega)
  rw [q31, W_ok (wfs1 h.wf)]
  unfold psane
  by_cases h0 : x.n ≥ 0
  case neg => rw [decide_eq_false h0]; rfl
  by_cases h1 : x.n ≤ 32
  case neg => rw [decide_eq_true h0, decide_eq_false h1]; rfl
  have hr := mask_range (a := x.a) h0 h1
  rw [decide_eq_true h0, decide_eq_true h1]
  simp only [cond_true, Bool.true_and]
  by_cases h2 : x.a ≥ 0
  case neg => rw [decide_eq_false h2, beq_eq_false_iff_ne.2 (show x.a ≠ maskI x.a x.n by omega)]; rfl
  by_cases h3 : x.a ≤ 4294967295
  case neg => rw [decide_eq_true h2, decide_eq_false h3, beq_eq_false_iff_ne.2 (show x.a ≠ maskI x.a x.n by omega)]; rfl
  rw [decide_eq_true h2, decide_eq_true h3]
  simp only [cond_true]
  rw [clI_ok (f61_ok (by omega) h.a h.n h0 h1), Bool.beq_comm]
theorem f72_ok {M : Nat} {x y : Px} (hM : 46 ≤ M) (h : x.ok) (h' : y.ok) : callP env (M + 1) 72 [x.t, y.t] = .ok (.bool (phas x y)) := by
  obtain ⟨m, rfl⟩ := exM (show 1 ≤ M by omega)
  rw [q72, W_ok (wfs2 h.wf h'.wf), clB_ok (f31_ok (by omega) h)]
  unfold phas
  cases hx : psane x with
  | false => rfl
  | true =>
  rw [cond_true, clB_ok (f31_ok (by omega) h')]
  cases hy : psane y with
  | false => rfl
  | true =>
  have hx2 : 0 ≤ x.n ∧ x.n ≤ 32 := by unfold psane at hx; simp only [Bool.and_eq_true, decide_eq_true_eq] at hx; exact ⟨hx.1, hx.2.1⟩
  simp only [cond_true, Bool.true_and]
  by_cases h1 : x.n ≤ y.n
  · rw [decide_eq_true (show y.n ≥ x.n from h1)]
    simp only [cond_true]
    rw [clI_ok (f61_ok (by omega) h'.a h.n hx2.1 hx2.2)]
    rfl
  · rw [decide_eq_false (show ¬ y.n ≥ x.n from h1)]; rfl
theorem dec_pos {n : Int} : decide (n ≥ 1) = decide (n > 0) := decide_eq_decide.2 (by omega)
theorem dec_lt {n : Int} : decide (n ≤ 399) = decide (n < 400) := decide_eq_decide.2 (by omega)
theorem and_if {a b : Bool} : (bif a then rB b else rB false) = .ok (.bool (a && b)) := by cases a <;> rfl
theorem f101_ok {M : Nat} {r : Ru} (hM : 46 ≤ M) (h : r.ok) : callP env (M + 1) 101 [r.t] = .ok (.bool (matchB r)) := by
  obtain ⟨m, rfl⟩ := exM (show 1 ≤ M by omega)
  rw [q101, W_ok (wfs1 h.wf)]
  unfold matchB numB
  by_cases h0 : r.m = 0
  · rw [h0, if_pos rfl]
    have : (r.v == 0) = (decide (r.v ≥ 0) && decide (r.v ≤ 0)) := by
      rw [Bool.eq_iff_iff, beq_iff_eq, Bool.and_eq_true, decide_eq_true_eq, decide_eq_true_eq]; omega
    rw [this]
    exact and_if
  rw [beq_eq_false_iff_ne.2 h0, if_neg h0]
  by_cases h1 : r.m = 1
  · rw [h1, if_pos rfl]
    simp only [cond_false, beq_self_eq_true, cond_true]
    rw [clB_ok (f31_ok (by omega) h.x)]
    exact and_if
  rw [beq_eq_false_iff_ne.2 h1, if_neg h1]
  by_cases h2 : r.m = 2
  · rw [h2, if_pos rfl]
    simp only [cond_false, beq_self_eq_true, cond_true, and_rB]
  rw [beq_eq_false_iff_ne.2 h2, if_neg h2]
  by_cases h3 : r.m = 3
  · rw [h3, if_pos rfl]
    simp only [cond_false, beq_self_eq_true, cond_true, and_rB]
  rw [beq_eq_false_iff_ne.2 h3, if_neg h3]
  by_cases h4 : r.m = 4
  · rw [h4, if_pos rfl]
    simp only [cond_false, beq_self_eq_true, cond_true, and_rB]
  rw [beq_eq_false_iff_ne.2 h4, if_neg h4]
  rfl
theorem f81_ok {M : Nat} {r : Ru} {b : Bool} (hM : 48 ≤ M) (h : r.ok) : callP env (M + 1) 81 [r.t, .bool b] = .ok (.bool (rsane r b)) := by
  obtain ⟨m, rfl⟩ := exM (show 1 ≤ M by omega)
  rw [q81, W_ok (wfs2 h.wf (wf_bool b)), clB_ok (f101_ok (by omega) h)]
  unfold rsane
  cases matchB r with
  | false => rfl
  | true =>
  have key : (bif r.a == 0 then rB (r.n == 0) else bif r.a == 1 then bif !b then rB (r.n == 0) else rB false else bif r.a == 2 then bif b then bif decide (r.n ≥ 1) then rB (decide (r.n ≤ 399)) else rB false else rB false else bif r.a == 3 then bif !b then bif decide (r.n ≥ 1) then rB (decide (r.n ≤ 8)) else rB false else rB false else rB false) = .ok (.bool (actB r b)) := by
    unfold actB
    rw [dec_pos, dec_lt]
    by_cases h0 : r.a = 0
    · rw [h0, if_pos rfl]; rfl
    rw [beq_eq_false_iff_ne.2 h0, if_neg h0]
    by_cases h1 : r.a = 1
    · rw [h1, if_pos rfl]; simp only [cond_false, beq_self_eq_true, cond_true, and_rB]
    rw [beq_eq_false_iff_ne.2 h1, if_neg h1]
    by_cases h2 : r.a = 2
    · rw [h2, if_pos rfl]; simp only [cond_false, beq_self_eq_true, cond_true, and_rB]
    rw [beq_eq_false_iff_ne.2 h2, if_neg h2]
    by_cases h3 : r.a = 3
    · rw [h3, if_pos rfl]; simp only [cond_false, beq_self_eq_true, cond_true, and_rB]
    rw [beq_eq_false_iff_ne.2 h3, if_neg h3]
    rfl
  simp only [Bool.not_true, cond_false]
  rw [key]
  cases b with
  | false => rfl
  | true => cases r.m == 4 <;> rfl
theorem f73_ok {M : Nat} {l : List Int} {n : Int} (hM : big + 1 ≤ M) (hl : okL okI l) (hn : ok64 n = true) : callP env (M + 1) 73 [.sl 1 (ints l), i64 n] = .ok (.bool (l.contains n)) := by
  have hb := hl.1
  rw [q73, W_ok (wfs2 (wf_ints hl) (wf_int hn))]
  have it := iter_any (B := bodyL env M 73 0 2) (S := fun i => sHa l n i) (R := ⟨slots 18 [(4, .t (.bool true))], []⟩) (X := ⟨slots 18 [], []⟩) (id := 0) (fun x => x == n) l (n := M) (by omega) (fun j x hx => by
      have hj := (List.getElem?_eq_some_iff.1 hx).1
      rw [b73_2, decide_eq_true (by rw [ints_map, List.length_map]; omega)]
      simp only [cond_true]
      rw [atT_get (ints_get hx)]
      simp only [iT_int]
      rw [wrap_succ (show j ≤ big by omega)]) (by rw [b73_2, decide_eq_false (by rw [ints_map, List.length_map]; omega)]; rfl)
  have e : l.any (fun x => x == n) = l.contains n := by
    rw [Bool.eq_iff_iff, List.any_eq_true, List.contains_iff_mem]
    exact ⟨fun ⟨x, h, e⟩ => (beq_iff_eq.1 e) ▸ h, fun h => ⟨n, h, beq_self_eq_true n⟩⟩
  rw [e] at it
  cases hc : l.contains n with
  | true => rw [hc] at it; exact (loopL_end it).trans (t73_2_ret M true)
  | false => rw [hc] at it; exact (loopL_end it).trans (t73_2_exit0 M)
theorem f62_ok {M : Nat} {r : Ru} {v : Vw} (hM : big + 50 ≤ M) (h : r.ok) (hv : v.ok) : callP env (M + 1) 62 [r.t, v.t] = .ok (.bool (fitsB v r)) := by
  obtain ⟨m, rfl⟩ := exM (show 1 ≤ M by omega)
  rw [q62, W_ok (wfs2 h.wf hv.wf)]
  unfold fitsB
  by_cases h0 : r.m = 0
  · rw [h0, if_pos rfl]; rfl
  rw [beq_eq_false_iff_ne.2 h0, if_neg h0]
  by_cases h1 : r.m = 1
  · rw [h1, if_pos rfl]
    simp only [cond_false, beq_self_eq_true, cond_true]
    rw [cl_ok (f72_ok (by omega) h.x hv.x)]
  rw [beq_eq_false_iff_ne.2 h1, if_neg h1]
  by_cases h2 : r.m = 2
  · rw [h2, if_pos rfl]
    simp only [cond_false, beq_self_eq_true, cond_true]
    rw [cl_ok (f73_ok (by omega) hv.s h.v)]
  rw [beq_eq_false_iff_ne.2 h2, if_neg h2]
  by_cases h3 : r.m = 3
  · rw [h3, if_pos rfl, ints_map, List.length_map]; rfl
  rw [beq_eq_false_iff_ne.2 h3, if_neg h3]
  by_cases h4 : r.m = 4
  · rw [h4, if_pos rfl]; rfl
  rw [beq_eq_false_iff_ne.2 h4, if_neg h4]
  rfl
theorem f35_ok {M : Nat} {l : List Ru} {v : Vw} (hM : big + 52 ≤ M) (hl : okL Ru.ok l) (hv : v.ok) : callP env (M + 1) 35 [.sl 6 (l.map Ru.t), v.t] = .ok (match pickR l v with | some r => .tup [r.t, .bool true] | none => .tup [.agg [i64 0, i64 0, i64 0, i64 0, i64 0, i64 0], .bool false]) := by
  obtain ⟨m, rfl⟩ := exM (show 1 ≤ M by omega)
  have hb := hl.1
  rw [q35, W_ok (wfs2 (wf_okL (fun _ h => Ru.ok.wf h) hl) hv.wf)]
  have it := iter_seek (B := bodyL env (m + 1) 35 0 2) (S := fun i => sPk l v i) (R := fun i => ⟨slots 24 [(4, .ptr 0 0), (5, .t (.bool true))], [.box 46 6 (.t ((l.map Ru.t).getD i .nilp))]⟩) (X := ⟨slots 24 [(4, .ptr 0 0)], [.box 46 6 (.t (T.agg [i64 0, i64 0, i64 0, i64 0, i64 0, i64 0]))]⟩) (id := 0)
    (fun i => match l[i]? with | some r => fitsB v r | none => false) l.length 0 (m + 1) (by omega)
    (fun j h0 h1 hp => by
      have hj : j < l.length := by omega
      have e1 : l[j]? = some l[j] := List.getElem?_eq_getElem hj
      rw [e1] at hp
      simp only [] at hp
      rw [b35_2, decide_eq_true (by rw [List.length_map]; omega)]
      simp only [cond_true]
      rw [atT_get (map_get e1), clB_ok (f62_ok (by omega) (hl.2 _ (List.mem_of_getElem? e1)) hv), hp, cond_true, atT_get (map_get e1)]
      have : (l.map Ru.t).getD j .nilp = l[j].t := by rw [List.getD_eq_getElem?_getD, map_get e1]; rfl
      rw [this]; rfl)
    (fun j h0 h1 hp => by
      have hj : j < l.length := by omega
      have e1 : l[j]? = some l[j] := List.getElem?_eq_getElem hj
      rw [e1] at hp
      simp only [] at hp
      rw [b35_2, decide_eq_true (by rw [List.length_map]; omega)]
      simp only [cond_true]
      rw [atT_get (map_get e1), clB_ok (f62_ok (by omega) (hl.2 _ (List.mem_of_getElem? e1)) hv), hp, cond_false, wrap_succ (show j ≤ big by omega)]
      rfl)
    (by rw [Nat.zero_add, b35_2, decide_eq_false (by rw [List.length_map]; omega)]; rfl)
  refine Eq.trans (show _ = loopL env (m + 1) 35 2 (sPk l v 0) from rfl) ?_
  cases hk : seekI (fun i => match l[i]? with | some r => fitsB v r | none => false) 0 l.length with
  | some j =>
    rw [hk] at it
    obtain ⟨_, hj, hp⟩ := seekI_some hk
    have hj' : j < l.length := by omega
    have e1 : l[j]? = some l[j] := List.getElem?_eq_getElem hj'
    have hmin : ∀ i, i < j → (match l[i]? with | some r => fitsB v r | none => false) = false := fun i hi => seekI_min hk i (by omega) hi
    have hf : pickR l v = some l[j] := by
      unfold pickR
      rw [e1] at hp
      refine List.find?_eq_some_iff_getElem.2 ⟨hp, j, hj', rfl, fun i hi => ?_⟩
      have := hmin i hi
      rw [List.getElem?_eq_getElem (show i < l.length by omega)] at this
      simpa using this
    rw [hf]
    have e2 : (l.map Ru.t).getD j .nilp = l[j].t := by rw [List.getD_eq_getElem?_getD, map_get e1]; rfl
    simp only [e2] at it
    exact (loopL_end it).trans (t35_2_ret (m + 1) l[j])
  | none =>
    rw [hk] at it
    have hf : pickR l v = none := by
      unfold pickR
      rw [List.find?_eq_none]
      intro x hx
      obtain ⟨i, hi⟩ := List.getElem?_of_mem hx
      have := seekI_none hk i (by omega) (by have := (List.getElem?_eq_some_iff.1 hi).1; omega)
      rw [hi] at this
      simpa using this
    rw [hf]
    exact (loopL_end it).trans (t35_2_exit0 (m + 1) _)
theorem f58_ok {M : Nat} {n : Int} (hn : ok64 n = true) : callP env (M + 1) 58 [i64 n] = .ok (.bool (holdB n)) := by
  rw [q58, W_ok (wfs1 (wf_int hn))]
  simp only [and_rB, or_rB]
  rfl
theorem f70_ok {M : Nat} {l : List Ru} {b : Bool} (hM : big + 50 ≤ M) (hl : okL Ru.ok l) : callP env (M + 1) 70 [.sl 6 (l.map Ru.t), .bool b] = .ok (.bool (rulesB l b)) := by
  obtain ⟨m, rfl⟩ := exM (show 1 ≤ M by omega)
  have hb := hl.1
  rw [q70, W_ok (wfs2 (wf_okL (fun _ h => Ru.ok.wf h) hl) (wf_bool b))]
  have it := iter_any (B := bodyL env (m + 1) 70 0 2) (S := fun i => sRu l b i) (R := ⟨slots 22 [(4, .t (.bool false))], []⟩) (X := ⟨slots 22 [(0, .t (.sl 6 (l.map Ru.t)))], []⟩) (id := 0) (fun r => !rsane r b) l (n := m + 1) (by omega) (fun j x hx => by
      have hj := (List.getElem?_eq_some_iff.1 hx).1
      rw [b70_2, decide_eq_true (by rw [List.length_map]; omega)]
      simp only [cond_true]
      rw [atT_get (map_get hx), clB_ok (f81_ok (by omega) (hl.2 _ (List.mem_of_getElem? hx))), wrap_succ (show j ≤ big by omega)]) (by rw [b70_2, decide_eq_false (by rw [List.length_map]; omega)]; rfl)
  unfold rulesB
  cases hc : l.any (fun r => !rsane r b) with
  | true => rw [hc] at it; rw [Bool.not_true, Bool.and_false]; exact (loopL_end it).trans (t70_2_ret (m + 1) false)
  | false => rw [hc] at it; rw [Bool.not_false, Bool.and_true, ← List.length_map (f := Ru.t)]; exact (loopL_end it).trans (t70_2_exit0 (m + 1) l)
end Go.Sim

/- What the document's layers 7, 9, 12, 13, 14 answer: the same as the program's. -/
namespace Go.Sim
open Go.RowKit Go.Proofs
set_option linter.unusedVariables false
set_option linter.unusedSimpArgs false
set_option linter.unusedSectionVars false
set_option maxRecDepth 100000

/-- Does place i fall? -/
def ownF (l : List Px) (i : Nat) : Bool := match l[i]? with | some x => !psane x || (l.take i).contains x | none => false
def sideF (l : List Sd) (a : Int) (i : Nat) : Bool := match l[i]? with | some s => !(sideB s && !(s.a == a)) || ((l.take i).map Sd.a).contains s.a | none => false
theorem own_iff {l : List Px} : (seekI (ownF l) 0 l.length).isNone = freshB id psane [] l := by
  rw [Bool.eq_iff_iff, fresh_iff, Option.isNone_iff_eq_none]
  constructor
  · intro h i x hx
    have := seekI_none h i (by omega) (by have := (List.getElem?_eq_some_iff.1 hx).1; omega)
    unfold ownF at this
    rw [hx] at this
    simp only [Bool.or_eq_false_iff, Bool.not_eq_false'] at this
    exact ⟨by simpa using this.2, this.1⟩
  · intro h
    cases hk : seekI (ownF l) 0 l.length with
    | none => rfl
    | some j =>
      obtain ⟨_, hj, hp⟩ := seekI_some hk
      have hx := h j l[j] (List.getElem?_eq_getElem (by omega))
      unfold ownF at hp
      rw [List.getElem?_eq_getElem (show j < l.length by omega)] at hp
      simp only [Bool.or_eq_true, Bool.not_eq_true'] at hp
      rcases hp with hp | hp
      · rw [hp] at hx; exact absurd hx.2 (by simp)
      · have := hx.1; simp only [List.nil_append, List.map_id_fun, id] at this; rw [hp] at this; cases this
theorem side_iff {l : List Sd} {a : Int} : (seekI (sideF l a) 0 l.length).isNone = freshB Sd.a sideB [a] l := by
  rw [Bool.eq_iff_iff, fresh_iff, Option.isNone_iff_eq_none]
  have key : ∀ (i : Nat) (s : Sd), ([a] ++ (l.take i).map Sd.a).contains s.a = (s.a == a || ((l.take i).map Sd.a).contains s.a) := fun i s => by rw [List.singleton_append, List.contains_cons]
  constructor
  · intro h i x hx
    have := seekI_none h i (by omega) (by have := (List.getElem?_eq_some_iff.1 hx).1; omega)
    unfold sideF at this
    rw [hx] at this
    simp only [Bool.or_eq_false_iff, Bool.not_eq_false', Bool.and_eq_true, Bool.not_eq_true'] at this
    rw [key, this.1.2, this.2]
    exact ⟨rfl, this.1.1⟩
  · intro h
    cases hk : seekI (sideF l a) 0 l.length with
    | none => rfl
    | some j =>
      obtain ⟨_, hj, hp⟩ := seekI_some hk
      have hx := h j l[j] (List.getElem?_eq_getElem (by omega))
      rw [key, Bool.or_eq_false_iff] at hx
      unfold sideF at hp
      rw [List.getElem?_eq_getElem (show j < l.length by omega)] at hp
      simp only [hx.1.1, hx.1.2, hx.2, Bool.not_false, Bool.and_self, Bool.not_true, Bool.or_self] at hp
      cases hp
variable [Lv]
theorem loopI_end {N : Nat} {f : FuncId} {r q : Nat} {s s' : St} {e : Ex} (h : iterR (bodyI env N f 0 r q) N s = .ok (e, s')) : loopI env N f r q s = tailI env N f 0 r q e s' := by
  unfold loopI; rw [h]; rfl
theorem owns_in {M i : Nat} {l : List Px} {x : Px} (hM : big + 1 ≤ M) (hl : l.length ≤ big) (hx : l[i]? = some x) : loopI env M 59 2 7 (sOw2 l i 0) = bif (l.take i).contains x then .ok (.ret, ⟨slots 34 [(2, .t (.bool false))], []⟩) else .ok (.norm, sOw l (i + 1 : Nat)) := by
  have hi := (List.getElem?_eq_some_iff.1 hx).1
  have it := iter_any (B := bodyI env M 59 0 2 7) (S := fun k => sOw2 l i k) (R := ⟨slots 34 [(2, .t (.bool false))], []⟩) (X := sOw l i) (id := 2) (fun y => y == x) (l.take i) (n := M) (by rw [List.length_take]; omega) (fun j y hy => by
      have hj : j < i := by have := (List.getElem?_eq_some_iff.1 hy).1; rw [List.length_take] at this; omega
      have hy' : l[j]? = some y := by rw [List.getElem?_take, if_pos hj] at hy; exact hy
      rw [b59_2_7, decide_eq_true (by omega)]
      simp only [cond_true]
      rw [atT_get (map_get hy'), atT_get (map_get hx)]
      have e : T.eqLs [0, 0] y.t.cells x.t.cells = some (y.a == x.a && (y.n == x.n && true)) := rfl
      have e2 : (y.a == x.a && (y.n == x.n && true)) = (y == x) := by
        rw [Bool.eq_iff_iff]; obtain ⟨a, n⟩ := y; obtain ⟨a', n'⟩ := x; simp
      rw [e, e2, wrap_succ (show j ≤ big by omega)])
    (by rw [List.length_take, Nat.min_eq_left (by omega), b59_2_7, decide_eq_false (by omega)]; rfl)
  have e : (l.take i).any (fun y => y == x) = (l.take i).contains x := by
    rw [Bool.eq_iff_iff, List.any_eq_true, List.contains_iff_mem]
    exact ⟨fun ⟨y, h, e⟩ => (beq_iff_eq.1 e) ▸ h, fun h => ⟨x, h, beq_self_eq_true x⟩⟩
  rw [e] at it
  cases hc : (l.take i).contains x with
  | true => rw [hc] at it; exact (loopI_end it).trans (t59_2_7_ret M false)
  | false => rw [hc] at it; refine (loopI_end it).trans ((t59_2_7_exit2 M l i).trans ?_); rw [wrap_succ (show i ≤ big by omega)]; rfl
theorem f59_ok {M : Nat} {l : List Px} (hM : big + 50 ≤ M) (hl : okL Px.ok l) : callP env (M + 1) 59 [.sl 2 (l.map Px.t)] = .ok (.bool (decide (l.length ≤ 8) && freshB id psane [] l)) := by
  obtain ⟨m, rfl⟩ := exM (show 1 ≤ M by omega)
  have hb := hl.1
  rw [q59, W_ok (wfs1 (wf_okL (fun _ h => Px.ok.wf h) hl)), ← own_iff]
  have rd : ∀ j, j < l.length → bodyL env (m + 1) 59 0 2 (sOw l j) = bif ownF l j then .ok (.ret, ⟨slots 34 [(2, .t (.bool false))], []⟩) else .ok (.norm, sOw l (j + 1 : Nat)) := fun j hj => by
    have e1 : l[j]? = some l[j] := List.getElem?_eq_getElem hj
    rw [b59_2, decide_eq_true (by rw [List.length_map]; omega)]
    simp only [cond_true]
    rw [atT_get (map_get e1), clB_ok (f31_ok (by omega) (hl.2 _ (List.mem_of_getElem? e1)))]
    have e2 : ownF l j = (!psane l[j] || (l.take j).contains l[j]) := by unfold ownF; rw [e1]
    rw [e2]
    cases psane l[j] with
    | false => rfl
    | true => simp only [Bool.not_true, cond_false, Bool.false_or]; exact owns_in (by omega) hb e1
  have it := iter_seek (B := bodyL env (m + 1) 59 0 2) (S := fun i => sOw l i) (R := fun _ => ⟨slots 34 [(2, .t (.bool false))], []⟩) (X := ⟨slots 34 [(0, .t (.sl 2 (l.map Px.t)))], []⟩) (id := 0) (ownF l) l.length 0 (m + 1) (by omega)
    (fun j h0 h1 hp => by rw [rd j (by omega), hp]; rfl) (fun j h0 h1 hp => by rw [rd j (by omega), hp]; rfl)
    (by rw [Nat.zero_add, b59_2, decide_eq_false (by rw [List.length_map]; omega)]; rfl)
  cases hk : seekI (ownF l) 0 l.length with
  | some j => rw [hk] at it; rw [Option.isNone_some, Bool.and_false]; exact (loopL_end it).trans (t59_2_ret (m + 1) false)
  | none =>
    rw [hk] at it
    rw [Option.isNone_none, Bool.and_true]
    refine (loopL_end it).trans ((t59_2_exit0 (m + 1) l).trans ?_)
    rw [List.length_map, show decide ((l.length : Int) ≤ 8) = decide (l.length ≤ 8) from decide_eq_decide.2 (by omega)]
theorem sides_in {M i : Nat} {l : List Sd} {a : Int} {x : Sd} (hM : big + 1 ≤ M) (hl : l.length ≤ big) (hx : l[i]? = some x) : loopI env M 60 2 8 (sSi2 l a i x 0) = bif ((l.take i).map Sd.a).contains x.a then .ok (.ret, ⟨slots 70 [(4, .t (.bool false))], []⟩) else .ok (.norm, sSi l a (i + 1 : Nat)) := by
  have hi := (List.getElem?_eq_some_iff.1 hx).1
  have it := iter_any (B := bodyI env M 60 0 2 8) (S := fun k => sSi2 l a i x k) (R := ⟨slots 70 [(4, .t (.bool false))], []⟩) (X := sSi l a i) (id := 2) (fun y => y.a == x.a) (l.take i) (n := M) (by rw [List.length_take]; omega) (fun j y hy => by
      have hj : j < i := by have := (List.getElem?_eq_some_iff.1 hy).1; rw [List.length_take] at this; omega
      have hy' : l[j]? = some y := by rw [List.getElem?_take, if_pos hj] at hy; exact hy
      rw [b60_2_8, decide_eq_true (by omega)]
      simp only [cond_true]
      rw [atT_get (map_get hy')]
      have e : y.t.partD 0 1 false = i64 y.a := rfl
      rw [e]
      simp only [iT_int]
      rw [wrap_succ (show j ≤ big by omega)])
    (by rw [List.length_take, Nat.min_eq_left (by omega), b60_2_8, decide_eq_false (by omega)]; rfl)
  have e : (l.take i).any (fun y => y.a == x.a) = ((l.take i).map Sd.a).contains x.a := by
    rw [Bool.eq_iff_iff, List.any_eq_true, List.contains_iff_mem, List.mem_map]
    exact ⟨fun ⟨y, h, e⟩ => ⟨y, h, beq_iff_eq.1 e⟩, fun ⟨y, h, e⟩ => ⟨y, h, beq_iff_eq.2 e⟩⟩
  rw [e] at it
  cases hc : ((l.take i).map Sd.a).contains x.a with
  | true => rw [hc] at it; exact (loopI_end it).trans (t60_2_8_ret M false)
  | false => rw [hc] at it; refine (loopI_end it).trans ((t60_2_8_exit2 M l a i).trans ?_); rw [wrap_succ (show i ≤ big by omega)]; rfl
theorem f60_ok {M : Nat} {l : List Sd} {a : Int} (hM : big + 53 ≤ M) (hl : okL Sd.ok l) (ha : ok64 a = true) : callP env (M + 1) 60 [.sl 4 (l.map Sd.t), i64 a] = .ok (.bool (decide (l.length ≤ 8) && freshB Sd.a sideB [a] l)) := by
  obtain ⟨m, rfl⟩ := exM (show 1 ≤ M by omega)
  have hb := hl.1
  rw [q60, W_ok (wfs2 (wf_okL (fun _ h => Sd.ok.wf h) hl) (wf_int ha)), ← side_iff]
  have rd : ∀ j, j < l.length → bodyL env (m + 1) 60 0 2 (sSi l a j) = bif sideF l a j then .ok (.ret, ⟨slots 70 [(4, .t (.bool false))], []⟩) else .ok (.norm, sSi l a (j + 1 : Nat)) := fun j hj => by
    have e1 : l[j]? = some l[j] := List.getElem?_eq_getElem hj
    have ho := hl.2 _ (List.mem_of_getElem? e1)
    have c1 : (l[j].t.cells.length == 4 && !l[j].t.isTup) = true := rfl
    have p0 : l[j].t.partD 0 1 false = i64 l[j].a := rfl
    have p1 : l[j].t.partD 1 1 false = i64 l[j].r := rfl
    have p2 : l[j].t.partD 2 1 false = .sl 6 (l[j].i.map Ru.t) := rfl
    have p3 : l[j].t.partD 3 1 false = .sl 6 (l[j].o.map Ru.t) := rfl
    have e2 : sideF l a j = (!(sideB l[j] && !(l[j].a == a)) || ((l.take j).map Sd.a).contains l[j].a) := by unfold sideF; rw [e1]
    rw [b60_2, decide_eq_true (by rw [List.length_map]; omega)]
    simp only [cond_true]
    rw [atT_get (map_get e1), c1, chk_true, p0, p1, p2, p3, e2]
    simp only [iT_int]
    unfold sideB withinB
    by_cases h1 : l[j].a < 1
    · rw [decide_eq_true h1, decide_eq_false (show ¬ l[j].a > 0 by omega)]; rfl
    rw [decide_eq_false h1, decide_eq_true (show l[j].a > 0 by omega)]
    by_cases h2 : l[j].a > 4294967295
    · rw [decide_eq_true h2, decide_eq_false (show ¬ l[j].a ≤ 4294967295 by omega)]; rfl
    rw [decide_eq_false h2, decide_eq_true (show l[j].a ≤ 4294967295 by omega)]
    cases h3 : l[j].a == a with
    | true => simp only [cond_false, cond_true, Bool.not_true, Bool.and_false, Bool.not_false, Bool.true_or]
    | false =>
    by_cases h4 : l[j].r < 1
    · rw [decide_eq_true h4, decide_eq_false (show ¬ l[j].r ≥ 1 by omega)]; rfl
    rw [decide_eq_false h4, decide_eq_true (show l[j].r ≥ 1 by omega)]
    by_cases h5 : l[j].r > 3
    · rw [decide_eq_true h5, decide_eq_false (show ¬ l[j].r ≤ 3 by omega)]; rfl
    rw [decide_eq_false h5, decide_eq_true (show l[j].r ≤ 3 by omega)]
    simp only [cond_false]
    rw [clB_ok (f70_ok (by omega) ho.i)]
    cases h6 : rulesB l[j].i true with
    | false => rfl
    | true =>
    simp only [Bool.not_true, cond_false]
    rw [clB_ok (f70_ok (by omega) ho.o)]
    cases h7 : rulesB l[j].o false with
    | false => rfl
    | true =>
    simp only [Bool.not_true, cond_false, Bool.and_self, Bool.not_false, Bool.and_true, Bool.false_or]
    exact sides_in (x := l[j]) (by omega) hb e1
  have it := iter_seek (B := bodyL env (m + 1) 60 0 2) (S := fun i => sSi l a i) (R := fun _ => ⟨slots 70 [(4, .t (.bool false))], []⟩) (X := ⟨slots 70 [(0, .t (.sl 4 (l.map Sd.t)))], []⟩) (id := 0) (sideF l a) l.length 0 (m + 1) (by omega)
    (fun j h0 h1 hp => by rw [rd j (by omega), hp]; rfl) (fun j h0 h1 hp => by rw [rd j (by omega), hp]; rfl)
    (by rw [Nat.zero_add, b60_2, decide_eq_false (by rw [List.length_map]; omega)]; rfl)
  cases hk : seekI (sideF l a) 0 l.length with
  | some j => rw [hk] at it; rw [Option.isNone_some, Bool.and_false]; exact (loopL_end it).trans (t60_2_ret (m + 1) false)
  | none =>
    rw [hk] at it
    rw [Option.isNone_none, Bool.and_true]
    refine (loopL_end it).trans ((t60_2_exit0 (m + 1) l).trans ?_)
    rw [List.length_map, show decide ((l.length : Int) ≤ 8) = decide (l.length ≤ 8) from decide_eq_decide.2 (by omega)]
theorem f29_ok {M : Nat} {c : Cf} (hM : big + 56 ≤ M) (h : c.ok) : callP env (M + 1) 29 [c.t] = .ok (.bool (csane c)) := by
  obtain ⟨m, rfl⟩ := exM (show 1 ≤ M by omega)
  rw [q29, W_ok (wfs1 h.wf)]
  unfold csane withinB
  rw [dec_pos, dec_pos]
  by_cases h1 : c.a > 0
  case neg => rw [decide_eq_false h1]; rfl
  by_cases h2 : c.a ≤ 4294967295
  case neg => rw [decide_eq_true h1, decide_eq_false h2]; rfl
  by_cases h3 : c.d > 0
  case neg => rw [decide_eq_true h1, decide_eq_true h2, decide_eq_false h3]; rfl
  by_cases h4 : c.d ≤ 4294967295
  case neg => rw [decide_eq_true h1, decide_eq_true h2, decide_eq_true h3, decide_eq_false h4]; rfl
  rw [decide_eq_true h1, decide_eq_true h2, decide_eq_true h3, decide_eq_true h4]
  simp only [cond_true, Bool.and_self, Bool.true_and]
  rw [clB_ok (f58_ok h.h)]
  cases holdB c.h with
  | false => rfl
  | true =>
  simp only [cond_true, Bool.true_and]
  by_cases h5 : c.k ≥ 1
  case neg => rw [decide_eq_false h5]; rfl
  by_cases h6 : c.k ≤ 1000
  case neg => rw [decide_eq_true h5, decide_eq_false h6]; simp
  rw [decide_eq_true h5, decide_eq_true h6]
  simp only [cond_true, Bool.true_and]
  rw [clB_ok (f59_ok (by omega) h.w)]
  by_cases h7 : c.w.length ≤ 8
  case neg => rw [decide_eq_false h7]; rfl
  rw [decide_eq_true h7]
  simp only [Bool.true_and]
  cases hf : freshB id psane [] c.w with
  | false => simp
  | true =>
  simp only [cond_true, Bool.true_and]
  rw [cl_ok (f60_ok (by omega) h.s h.a)]
theorem f32_ok {M : Nat} {p : Pa} (hM : big + 1 ≤ M) (h : p.ok) : callP env (M + 1) 32 [p.t] = .ok (.bool (asane7 p)) := by
  have hb := h.l
  rw [q32, W_ok (wfs1 h.wf)]
  have it := iter_any (B := bodyL env M 32 0 2) (S := fun i => sPs p i) (R := ⟨slots 59 [(2, .t (.bool false))], []⟩) (X := ⟨slots 59 [(1, .ptr 0 0)], [.box 30 4 (.t p.t)]⟩) (id := 0) asnB p.s (n := M) (by omega) (fun j x hx => by
      have hj := (List.getElem?_eq_some_iff.1 hx).1
      rw [b32_2, decide_eq_true (by rw [ints_map, List.length_map]; omega)]
      simp only [cond_true]
      rw [atT_get (ints_get hx), atT_get (ints_get hx)]
      simp only [iT_int]
      rw [wrap_succ (show j ≤ big by omega)]
      unfold asnB
      cases decide (x < 1) <;> cases decide (x > 4294967295) <;> rfl) (by rw [b32_2, decide_eq_false (by rw [ints_map, List.length_map]; omega)]; rfl)
  unfold asane7
  cases hc : p.s.any asnB with
  | true => rw [hc] at it; exact (loopL_end it).trans (t32_2_ret M false)
  | false =>
    rw [hc] at it
    refine (loopL_end it).trans ((t32_2_exit0 M p).trans ?_)
    rw [ints_map, List.length_map, show decide ((p.s.length : Int) ≤ 255) = decide (p.s.length ≤ 255) from decide_eq_decide.2 (by omega), dec_pos]
    simp only [and_rB]
    cases decide (p.o ≥ 0) <;> cases decide (p.o ≤ 2) <;> cases decide (p.s.length ≤ 255) <;> rfl
theorem f45_ok {M : Nat} {r : Rt} (hM : big + 3 ≤ M) (h : r.ok) : callP env (M + 1) 45 [r.t] = .ok (.bool (rtsane r)) := by
  obtain ⟨m, rfl⟩ := exM (show 1 ≤ M by omega)
  rw [q45, W_ok (wfs1 h.wf), clB_ok (f32_ok (by omega) h.p)]
  unfold rtsane
  cases asane7 r.p with
  | false => rfl
  | true =>
  have hl : ((ints r.p.s).length : Int) = (r.p.s.length : Int) := by rw [ints_map, List.length_map]
  rw [hl]
  by_cases h1 : r.p.s.length ≤ 32
  case neg => rw [decide_eq_true (show (r.p.s.length : Int) > 32 by omega), decide_eq_false h1]; rfl
  rw [decide_eq_false (show ¬ (r.p.s.length : Int) > 32 by omega), decide_eq_true h1]
  simp only [Bool.not_true, cond_false, Bool.true_and]
  by_cases h2 : r.f = -1
  · rw [beq_iff_eq.2 h2, if_pos h2]
    simp only [cond_true, and_rB]
    congr 2
    rw [Bool.eq_iff_iff, beq_iff_eq, cmpR_zero]
    simp only [Bool.and_eq_true, beq_iff_eq]
    obtain ⟨n, ⟨o, s, hh, c⟩, f⟩ := r
    simp only [ownR, Rt.mk.injEq, Pa.mk.injEq, true_and] at h2 ⊢
    constructor
    · rintro ⟨a1, a2, a3, a4⟩
      exact ⟨a1, ⟨a3, List.eq_nil_of_length_eq_zero (by omega), a4⟩, h2⟩
    · rintro ⟨a1, ⟨a3, a2, a4⟩, _⟩
      exact ⟨a1, by rw [a2]; rfl, a3, a4⟩
  · rw [beq_eq_false_iff_ne.2 h2, if_neg h2, dec_pos, dec_lt]
    simp only [cond_false, and_rB]
theorem f12_ok {M : Nat} {a b : Rt} (hM : big + 3 ≤ M) (ha : a.ok) (hb : b.ok) : callP env (M + 1) 12 [a.t, b.t] = .ok (.bool (decide (a = b))) := by
  obtain ⟨m, rfl⟩ := exM (show 1 ≤ M by omega)
  have e : decide (a = b) = (decide (a.n = b.n) && (decide (a.f = b.f) && decide (a.p = b.p))) := by
    rw [Bool.eq_iff_iff]
    simp only [decide_eq_true_eq, Bool.and_eq_true]
    obtain ⟨n, p, f⟩ := a
    obtain ⟨n', p', f'⟩ := b
    simp only [Rt.mk.injEq]
    constructor
    · rintro ⟨h1, h2, h3⟩; exact ⟨h1, h3, h2⟩
    · rintro ⟨h1, h3, h2⟩; exact ⟨h1, h2, h3⟩
  rw [e, q12, W_ok (wfs2 ha.wf hb.wf)]
  by_cases h1 : a.n = b.n
  case neg => rw [beq_eq_false_iff_ne.2 h1, decide_eq_false h1]; rfl
  by_cases h2 : a.f = b.f
  case neg => rw [beq_iff_eq.2 h1, beq_eq_false_iff_ne.2 h2, decide_eq_true h1, decide_eq_false h2]; rfl
  rw [beq_iff_eq.2 h1, beq_iff_eq.2 h2, decide_eq_true h1, decide_eq_true h2]
  simp only [cond_true, Bool.true_and]
  rw [cl_ok (f13_ok (by omega) ha.p hb.p)]
theorem f34_ok {M : Nat} {a b c : Int} (ha : ok64 a = true) (hb : ok64 b = true) (hc : ok64 c = true) : callP env (M + 1) 34 [i64 a, i64 b, i64 c] = .ok (.tup [i64 ((roleIn a b c).getD 0), .bool (roleIn a b c).isSome]) := by
  rw [q34, W_ok (wfs3 (wf_int ha) (wf_int hb) (wf_int hc))]
  unfold roleIn orI
  by_cases h4 : c = 0
  · subst h4
    by_cases h1 : a = 1
    · subst h1; simp
    by_cases h2 : a = 2
    · subst h2; simp
    by_cases h3 : a = 3
    · subst h3; simp
    have h1' : (a == 1) = false := beq_eq_false_iff_ne.2 h1
    have h2' : (a == 2) = false := beq_eq_false_iff_ne.2 h2
    have h3' : (a == 3) = false := beq_eq_false_iff_ne.2 h3
    simp [h1, h2, h3, h1', h2', h3']
  have h4' : (c == 0) = false := beq_eq_false_iff_ne.2 h4
  have h4'' : (c != 0) = true := bne_iff_ne.2 h4
  by_cases h5 : c = b
  · subst h5
    by_cases h1 : a = 1
    · subst h1; simp [h4, h4', h4'']
    by_cases h2 : a = 2
    · subst h2; simp [h4, h4', h4'']
    by_cases h3 : a = 3
    · subst h3; simp [h4, h4', h4'']
    have h1' : (a == 1) = false := beq_eq_false_iff_ne.2 h1
    have h2' : (a == 2) = false := beq_eq_false_iff_ne.2 h2
    have h3' : (a == 3) = false := beq_eq_false_iff_ne.2 h3
    simp [h1, h2, h3, h1', h2', h3', h4, h4', h4'']
  have h5' : (c == b) = false := beq_eq_false_iff_ne.2 h5
  by_cases h1 : a = 1
  · subst h1; simp [h4, h4', h4'', h5, h5']
  by_cases h2 : a = 2
  · subst h2; simp [h4, h4', h4'', h5, h5']
  by_cases h3 : a = 3
  · subst h3; simp [h4, h4', h4'', h5, h5']
  have h1' : (a == 1) = false := beq_eq_false_iff_ne.2 h1
  have h2' : (a == 2) = false := beq_eq_false_iff_ne.2 h2
  have h3' : (a == 3) = false := beq_eq_false_iff_ne.2 h3
  simp [h1, h2, h3, h1', h2', h3', h4, h4', h4'', h5, h5']
theorem f46_ok {M : Nat} {a b c : Int} (ha : ok64 a = true) (hb : ok64 b = true) (hc : ok64 c = true) : callP env (M + 1) 46 [i64 a, i64 b, i64 c] = .ok (.tup [i64 ((roleOut a b c).getD 0), .bool (roleOut a b c).isSome]) := by
  rw [q46, W_ok (wfs3 (wf_int ha) (wf_int hb) (wf_int hc))]
  unfold roleOut orI
  by_cases h4 : c = 0
  · subst h4
    by_cases h1 : a = 1
    · subst h1; simp
    by_cases h2 : a = 2
    · subst h2; simp
    by_cases h3 : a = 3
    · subst h3; simp
    have h1' : (a == 1) = false := beq_eq_false_iff_ne.2 h1
    have h2' : (a == 2) = false := beq_eq_false_iff_ne.2 h2
    have h3' : (a == 3) = false := beq_eq_false_iff_ne.2 h3
    simp [h1, h2, h3, h1', h2', h3']
  have h4' : (c == 0) = false := beq_eq_false_iff_ne.2 h4
  have h4'' : (c != 0) = true := bne_iff_ne.2 h4
  by_cases h5 : c = b
  · subst h5
    by_cases h1 : a = 1
    · subst h1; simp [h4, h4', h4'']
    by_cases h2 : a = 2
    · subst h2; simp [h4, h4', h4'']
    by_cases h3 : a = 3
    · subst h3; simp [h4, h4', h4'']
    have h1' : (a == 1) = false := beq_eq_false_iff_ne.2 h1
    have h2' : (a == 2) = false := beq_eq_false_iff_ne.2 h2
    have h3' : (a == 3) = false := beq_eq_false_iff_ne.2 h3
    simp [h1, h2, h3, h1', h2', h3', h4, h4', h4'']
  have h5' : (c == b) = false := beq_eq_false_iff_ne.2 h5
  by_cases h1 : a = 1
  · subst h1; simp [h4, h4', h4'', h5, h5']
  by_cases h2 : a = 2
  · subst h2; simp [h4, h4', h4'', h5, h5']
  by_cases h3 : a = 3
  · subst h3; simp [h4, h4', h4'', h5, h5']
  have h1' : (a == 1) = false := beq_eq_false_iff_ne.2 h1
  have h2' : (a == 2) = false := beq_eq_false_iff_ne.2 h2
  have h3' : (a == 3) = false := beq_eq_false_iff_ne.2 h3
  simp [h1, h2, h3, h1', h2', h3', h4, h4', h4'', h5, h5']
theorem f30_ok {M : Nat} {c : Cf} {k : Int} (h : c.ok) (hk : ok64 k = true) : callP env (M + 1) 30 [c.t, i64 k] = .ok (.bool (hasB c k)) := by
  rw [q30, W_ok (wfs2 h.wf (wf_int hk)), and_rB, List.length_map]; rfl
theorem f11_ok {M : Nat} {c : Cf} {k : Int} (hM : 1 ≤ M) (h : c.ok) (hk : ok64 k = true) : callP env (M + 1) 11 [c.t, i64 k] = .ok (i64 (classI c k)) := by
  obtain ⟨m, rfl⟩ := exM hM
  rw [q11, W_ok (wfs2 h.wf (wf_int hk)), clB_ok (f30_ok h hk)]
  cases hh : hasB c k with
  | false =>
    have : classI c k = 0 := by
      unfold classI
      unfold hasB at hh
      split
      · rw [List.getElem?_eq_none (by simp at hh; omega)]
      · rfl
    rw [this]; rfl
  | true =>
    obtain ⟨i, s, rfl, hi, hx⟩ := has_nat hh
    simp only [Bool.not_true, cond_false]
    rw [atT_get (map_get hx), class_nat hx]
    rfl
theorem f33_ok {M : Nat} {l : List Int} {n : Int} (hM : big + 1 ≤ M) (hl : okL okI l) (hn : ok64 n = true) : callP env (M + 1) 33 [.sl 1 (ints l), i64 n] = .ok (.bool (l.contains n)) := by
  have hb := hl.1
  rw [q33, W_ok (wfs2 (wf_ints hl) (wf_int hn))]
  have it := iter_any (B := bodyL env M 33 0 2) (S := fun i => sHb l n i) (R := ⟨slots 18 [(4, .t (.bool true))], []⟩) (X := ⟨slots 18 [], []⟩) (id := 0) (fun x => x == n) l (n := M) (by omega) (fun j x hx => by
      have hj := (List.getElem?_eq_some_iff.1 hx).1
      rw [b33_2, decide_eq_true (by rw [ints_map, List.length_map]; omega)]
      simp only [cond_true]
      rw [atT_get (ints_get hx)]
      simp only [iT_int]
      rw [wrap_succ (show j ≤ big by omega)]
      rfl) (by rw [b33_2, decide_eq_false (by rw [ints_map, List.length_map]; omega)]; rfl)
  have e : l.any (fun x => x == n) = l.contains n := by
    rw [Bool.eq_iff_iff, List.any_eq_true, List.contains_iff_mem]
    exact ⟨fun ⟨x, h, e⟩ => (beq_iff_eq.1 e) ▸ h, fun h => ⟨n, h, beq_self_eq_true n⟩⟩
  rw [e] at it
  refine Eq.trans (show _ = loopL env M 33 2 (sHb l n 0) from rfl) ?_
  cases hc : l.contains n with
  | true => rw [hc] at it; exact (loopL_end it).trans (t33_2_ret M true)
  | false => rw [hc] at it; exact (loopL_end it).trans (t33_2_exit0 M)
end Go.Sim

/- What calls come to: printed by wip/tools/eq2.py: the document's Out. -/
namespace Go.Sim
open Go.RowKit Go.Proofs
set_option linter.unusedVariables false
set_option maxRecDepth 100000
variable [Lv]
def sOz (c : Cf) (x : Px) (r : Rt) (s : Sd) (u : Ru) (m : Int) (d : Nat → PV) : St := ⟨[d 0, d 1, d 2, d 3, .ptr 0 0, d 5, d 6, .ptr 2 0, .ptr 3 0, d 9, d 10, .ptr 5 0, d 12, .t (i64 m), d 14, d 15, d 16, d 17, d 18, d 19, d 20, d 21, d 22, d 23, d 24, d 25, d 26, d 27, d 28, d 29, d 30, d 31, d 32, d 33, d 34, d 35, d 36, d 37, d 38, d 39, d 40, d 41, d 42, d 43, d 44, d 45, d 46, d 47, d 48, d 49, d 50, d 51, d 52, d 53, d 54, d 55, d 56, d 57, d 58, d 59, d 60, d 61, d 62, d 63, d 64, d 65, d 66, d 67, d 68, d 69, d 70, d 71, d 72, d 73, d 74, d 75, d 76, d 77, d 78, d 79, d 80, d 81, d 82, d 83, d 84, d 85, d 86, d 87, d 88, d 89, d 90, d 91, d 92, d 93, d 94, d 95, d 96, d 97, d 98, d 99, d 100, d 101, d 102, d 103, d 104, d 105, d 106, d 107, d 108, d 109, d 110, d 111, d 112, d 113, d 114, d 115, d 116, d 117, d 118, d 119, d 120, d 121, d 122, d 123, d 124, d 125, d 126, d 127], [.box 25 6 (.t c.t), .box 27 2 (.t x.t), .box 32 6 (.t r.t), .box 30 4 (.agg [.t (i64 0), .nil 3 1, .t (i64 0), .t (i64 0)]), .box 53 4 (.t s.t), .box 46 6 (.t u.t)]⟩
def sO11 (c : Cf) (r : Rt) (u : Ru) (m : Int) (l : List Int) (i : Int) : St := ⟨slots 128 [(4, .ptr 0 0), (7, .ptr 1 0), (8, .ptr 2 0), (11, .ptr 3 0), (13, .t (i64 m)), (15, .own 4), (16, .t (i64 i))], [.box 25 6 (.t c.t), .box 32 6 (.t r.t), .box 30 4 (.agg [.t (i64 0), .own 5, .t (i64 0), .t (i64 0)]), .box 46 6 (.t u.t), .row 3 1 (ints l), .row 3 1 []]⟩
theorem f9_0 (N : Nat) (c : Cf) (k : Int) (x : Px) (r : Rt) (Kc : St → Res T) : segL env N 9 0 8 (startS env 9 [.t (c.t), .t (i64 k), .t (x.t), .t (r.t)]) Kc = cl N 29 [c.t] fun x_1 => bT x_1 fun b => bif !b then Res.ok (T.tup [T.agg [i64 0, T.sl 1 [], i64 0, i64 0], T.bool false]) else cl N 30 [c.t, i64 k] fun x_2 => bT x_2 fun b_1 => bif !b_1 then Res.ok (T.tup [T.agg [i64 0, T.sl 1 [], i64 0, i64 0], T.bool false]) else cl N 31 [x.t] fun x_3 => bT x_3 fun b_2 => bif !b_2 then Res.ok (T.tup [T.agg [i64 0, T.sl 1 [], i64 0, i64 0], T.bool false]) else cl N 45 [r.t] fun x_4 => bT x_4 fun b_3 => bif !b_3 then Res.ok (T.tup [T.agg [i64 0, T.sl 1 [], i64 0, i64 0], T.bool false]) else bif r.f == k then Res.ok (T.tup [T.agg [i64 0, T.sl 1 [], i64 0, i64 0], T.bool false]) else bif decide (r.f ≥ (↑(List.map Sd.t c.s).length : Int)) then Res.ok (T.tup [T.agg [i64 0, T.sl 1 [], i64 0, i64 0], T.bool false]) else atT (List.map Sd.t c.s) k fun e => chk (e.cells.length == 4 && !e.isTup) (cl N 11 [c.t, i64 r.f] fun x_5 => chk (x_5.cells.length == 1 && !x_5.isTup) (cl N 35 [e.partD 3 1 false, T.agg [i64 x.a, i64 x.n, T.sl 1 (ints r.p.s), x_5.cell 0]] fun x_6 => compT x_6 0 fun y => compT x_6 1 fun y_1 => chk (y.cells.length == 6 && !y.isTup) (cl N 46 [e.partD 1 1 false, i64 c.a, i64 r.p.c] fun x_7 => compT x_7 0 fun y_2 => compT x_7 1 fun y_3 => bT y_1 fun b_4 => bif !b_4 then Res.ok (T.tup [T.agg [i64 0, T.sl 1 [], i64 0, i64 0], T.bool false]) else iT IntKind.i64 (y.partD 4 1 false) fun a => bif a == 0 then Res.ok (T.tup [T.agg [i64 0, T.sl 1 [], i64 0, i64 0], T.bool false]) else bT y_3 fun b_5 => bif !b_5 then Res.ok (T.tup [T.agg [i64 0, T.sl 1 [], i64 0, i64 0], T.bool false]) else Kc { tmps := [PV.t c.t, PV.t (i64 k), PV.t x.t, PV.t r.t, PV.ptr 0 0, PV.tup [], PV.ptr 1 0, PV.ptr 2 0, PV.ptr 3 0, PV.t (T.bool false), PV.ptr 4 0, PV.ptr 5 0, PV.t y_1, PV.t y_2, PV.t y_3, PV.tup [], PV.tup [], PV.t c.t, PV.t x_1, PV.t (T.bool !b), PV.t (T.bool false), PV.t c.t, PV.t (i64 k), PV.t x_2, PV.t (T.bool !b_1), PV.t (T.bool !b_1), PV.t (T.bool false), PV.t x.t, PV.t x_3, PV.t (T.bool !b_2), PV.t (T.bool !b_2), PV.t (T.bool false), PV.t r.t, PV.t x_4, PV.t (T.bool !b_3), PV.t (T.bool !b_3), PV.t (T.bool false), PV.ptr 2 5, PV.t (i64 r.f), PV.t (i64 k), PV.t (T.bool (r.f == k)), PV.t (T.bool (r.f == k)), PV.t (T.bool false), PV.ptr 2 5, PV.t (i64 r.f), PV.ptr 0 5, PV.t (T.sl 4 (List.map Sd.t c.s)), PV.t (i64 (↑(List.map Sd.t c.s).length : Int)), PV.t (T.bool (decide (r.f ≥ (↑(List.map Sd.t c.s).length : Int)))), PV.t (T.bool (decide (r.f ≥ (↑(List.map Sd.t c.s).length : Int)))), PV.tup [], PV.ptr 0 5, PV.t (T.sl 4 (List.map Sd.t c.s)), PV.t (i64 k), PV.rp 4 e 0, PV.t e, PV.t x_6, PV.ptr 4 3, PV.t (e.partD 3 1 false), PV.t x.t, PV.ptr 2 1, PV.ptr 2 2, PV.t (T.sl 1 (ints r.p.s)), PV.t c.t, PV.ptr 2 5, PV.t (i64 r.f), PV.t x_5, PV.t (T.agg [i64 x.a, i64 x.n, T.sl 1 (ints r.p.s), x_5.cell 0]), PV.t x_6, PV.t y, PV.t y_1, PV.t x_7, PV.ptr 4 1, PV.t (e.partD 1 1 false), PV.ptr 0 0, PV.t (i64 c.a), PV.ptr 2 1, PV.ptr 2 4, PV.t (i64 r.p.c), PV.t x_7, PV.t y_2, PV.t y_3, PV.t y_1, PV.t (T.bool !b_4), PV.t (T.bool false), PV.ptr 5 4, PV.t (y.partD 4 1 false), PV.t (T.bool (a == 0)), PV.t (T.bool (a == 0)), PV.t (T.bool false), PV.t y_3, PV.t (T.bool !b_5), PV.t (T.bool !b_5), PV.tup [], PV.tup [], PV.tup [], PV.tup [], PV.tup [], PV.tup [], PV.tup [], PV.tup [], PV.tup [], PV.tup [], PV.tup [], PV.tup [], PV.tup [], PV.tup [], PV.tup [], PV.tup [], PV.tup [], PV.tup [], PV.tup [], PV.tup [], PV.tup [], PV.tup [], PV.tup [], PV.tup [], PV.tup [], PV.tup [], PV.tup [], PV.tup [], PV.tup [], PV.tup [], PV.tup [], PV.tup [], PV.tup [], PV.tup [], PV.tup []], heap := [AObj.box 25 6 (PV.t c.t), AObj.box 27 2 (PV.t x.t), AObj.box 32 6 (PV.t r.t), AObj.box 30 4 (PV.agg [PV.t (i64 0), PV.nil 3 1, PV.t (i64 0), PV.t (i64 0)]), AObj.box 53 4 (PV.t e), AObj.box 46 6 (PV.t y)] }))) := by kernel_rfl
theorem h9_8 (N : Nat) (c : Cf) (x : Px) (r : Rt) (s : Sd) (u : Ru) (m : Int) (d : Nat → PV) : backL env N 9 8 (sOz c x r s u m d) = chkAll (T.okE 1) [i64 c.a] (bif u.a == 3 then loopL env N 9 11 { tmps := slots 128 [(4, PV.ptr 0 0), (7, PV.ptr 1 0), (8, PV.ptr 2 0), (11, PV.ptr 3 0), (13, PV.t (i64 m)), (15, PV.own 4), (16, PV.t (i64 0))], heap := [AObj.box 25 6 (PV.t c.t), AObj.box 32 6 (PV.t r.t), AObj.box 30 4 (PV.agg [PV.t (i64 0), PV.own 5, PV.t (i64 0), PV.t (i64 0)]), AObj.box 46 6 (PV.t u.t), AObj.row 3 1 [i64 c.a], AObj.row 3 1 []] } else chk (decide ((1 + (ints r.p.s).length) * 8 ≤ 140737488355328)) (bif decide ((↑([i64 c.a] ++ ints r.p.s).length : Int) > 32) then Res.ok (T.tup [T.agg [i64 0, T.sl 1 [], i64 0, i64 0], T.bool false]) else Res.ok (T.tup [T.agg [i64 r.p.o, T.sl 1 ([i64 c.a] ++ ints r.p.s), i64 c.d, i64 m], T.bool true]))) := by kernel_rfl
theorem b9_11 (N : Nat) (c : Cf) (r : Rt) (u : Ru) (m : Int) (l : List Int) (i : Int) : bodyL env N 9 0 11 (sO11 c r u m l i) = bif decide (i < u.n) then chkAll (T.okE 1) [i64 c.a] (chk (decide (((ints l).length + 1) * 8 ≤ 140737488355328)) (Res.ok (Ex.norm, { tmps := slots 128 [(4, PV.ptr 0 0), (7, PV.ptr 1 0), (8, PV.ptr 2 0), (11, PV.ptr 3 0), (13, PV.t (i64 m)), (15, PV.own 4), (16, PV.t (i64 (IntKind.i64.wrap (i + 1))))], heap := [AObj.box 25 6 (PV.t c.t), AObj.box 32 6 (PV.t r.t), AObj.box 30 4 (PV.agg [PV.t (i64 0), PV.own 5, PV.t (i64 0), PV.t (i64 0)]), AObj.box 46 6 (PV.t u.t), AObj.row 3 1 (ints l ++ [i64 c.a]), AObj.row 3 1 []] }))) else Res.ok (Ex.exit 0, { tmps := slots 128 [(4, PV.ptr 0 0), (7, PV.ptr 1 0), (8, PV.ptr 2 0), (13, PV.t (i64 m)), (15, PV.own 3)], heap := [AObj.box 25 6 (PV.t c.t), AObj.box 32 6 (PV.t r.t), AObj.box 30 4 (PV.agg [PV.t (i64 0), PV.own 4, PV.t (i64 0), PV.t (i64 0)]), AObj.row 3 1 (ints l), AObj.row 3 1 []] }) := by kernel_rfl
theorem t9_11_exit0 (N : Nat) (c : Cf) (r : Rt) (m : Int) (l : List Int) : tailL env N 9 0 11 (outK env 9) (.exit 0) (⟨slots 128 [(4, .ptr 0 0), (7, .ptr 1 0), (8, .ptr 2 0), (13, .t (i64 m)), (15, .own 3)], [.box 25 6 (.t c.t), .box 32 6 (.t r.t), .box 30 4 (.agg [.t (i64 0), .own 4, .t (i64 0), .t (i64 0)]), .row 3 1 (ints l), .row 3 1 []]⟩) = chk (decide (((ints l).length + (ints r.p.s).length) * 8 ≤ 140737488355328)) (bif decide ((↑(ints l ++ ints r.p.s).length : Int) > 32) then Res.ok (T.tup [T.agg [i64 0, T.sl 1 [], i64 0, i64 0], T.bool false]) else Res.ok (T.tup [T.agg [i64 r.p.o, T.sl 1 (ints l ++ ints r.p.s), i64 c.d, i64 m], T.bool true])) := by kernel_rfl
end Go.Sim

/- EdgeIs: its call comes to 'true'. -/
namespace Go.Sim
open Go.RowKit Go.Proofs
set_option linter.unusedVariables false
set_option linter.unusedSimpArgs false
set_option linter.unusedSectionVars false
set_option maxRecDepth 100000
variable [Lv]
theorem f7_ok {M : Nat} {c : Cf} {k : Int} {x : Px} {p : Pa} (hM : big + 60 ≤ M) (h : c.ok) (hk : ok64 k = true) (hx : x.ok) (hp : p.ok) : callP env (M + 1) 7 [c.t, i64 k, x.t, p.t] = .ok (optR (inR c k x p)) := by
  obtain ⟨m, rfl⟩ := exM (show 1 ≤ M by omega)
  have hw : T.wfs [c.t, i64 k, x.t, p.t] = true := by
    have h1 := h.wf; have h2 := wf_int hk; have h3 := hx.wf; have h4 := hp.wf
    simp only [T.wfs, h1, h2, h3, h4, Bool.and_self]
  rw [q7, W_ok hw, clB_ok (f29_ok (by omega) h)]
  unfold inR in1B
  cases csane c with
  | false => rfl
  | true =>
  simp only [Bool.not_true, cond_false, Bool.true_and]
  rw [clB_ok (f30_ok h hk)]
  cases hh : hasB c k with
  | false => rfl
  | true =>
  simp only [Bool.not_true, cond_false, Bool.true_and]
  rw [clB_ok (f31_ok (by omega) hx)]
  cases psane x with
  | false => rfl
  | true =>
  simp only [Bool.not_true, cond_false, Bool.true_and]
  rw [clB_ok (f32_ok (by omega) hp)]
  cases asane7 p with
  | false => rfl
  | true =>
  simp only [Bool.not_true, cond_false, if_true]
  obtain ⟨i, s, rfl, hi, hs⟩ := has_nat hh
  have ho := h.s.2 _ (List.mem_of_getElem? hs)
  rw [atT_get (map_get hs), Int.toNat_natCast, hs]
  have c1 : (s.t.cells.length == 4 && !s.t.isTup) = true := rfl
  have p0 : s.t.partD 0 1 false = i64 s.a := rfl
  have p1 : s.t.partD 1 1 false = i64 s.r := rfl
  have p2 : s.t.partD 2 1 false = .sl 6 (s.i.map Ru.t) := rfl
  rw [c1, chk_true, p0, p1, p2]
  have hl : ((ints p.s).length : Int) = (p.s.length : Int) := by rw [ints_map, List.length_map]
  rw [hl]
  by_cases h0 : p.s.length = 0
  · have hn : p.s = [] := List.eq_nil_of_length_eq_zero h0
    rw [beq_iff_eq.2 (show (p.s.length : Int) = 0 by omega)]
    simp only [cond_true]
    have : ¬ ((p.s[0]? = some s.a ∧ p.s.length ≤ 32) ∧ p.s.contains c.a = false) := by rw [hn]; simp
    rw [if_neg this]; rfl
  rw [beq_eq_false_iff_ne.2 (show (p.s.length : Int) ≠ 0 by omega)]
  simp only [cond_false]
  have hg : p.s[0]? = some (p.s[0]'(by omega)) := List.getElem?_eq_getElem (by omega)
  refine (atT_get (i := 0) (ints_get hg)).trans ?_
  simp only [iT_int]
  by_cases h1 : p.s[0]'(by omega) = s.a
  case neg =>
    rw [bne_iff_ne.2 h1]
    have : ¬ ((p.s[0]? = some s.a ∧ p.s.length ≤ 32) ∧ p.s.contains c.a = false) := fun e => by rw [hg] at e; exact h1 (Option.some.inj e.1.1)
    rw [if_neg this]; rfl
  rw [h1, bne_self_eq_false]
  simp only [cond_false]
  rw [clB_ok (f33_ok (by omega) (pa_ints hp) h.a)]
  cases h2 : p.s.contains c.a with
  | true =>
    rw [if_neg (by simp)]; rfl
  | false =>
  simp only [cond_false]
  by_cases h3 : p.s.length ≤ 32
  case neg => rw [decide_eq_true (show (p.s.length : Int) > 32 by omega), if_neg (fun e => h3 e.1.2)]; rfl
  rw [decide_eq_false (show ¬ (p.s.length : Int) > 32 by omega), if_pos (by simp [hg, h1, h3])]
  simp only [cond_false]
  rw [cl_ok (f34_ok ho.r ho.a hp.c)]
  have c2 : ((i64 s.r).cells.length == 1 && !(i64 s.r).isTup) = true := rfl
  simp only [compT, List.getElem?_cons_zero, List.getElem?_cons_succ, c2, chk_true]
  have hv : (vwI x p s.r).ok := ⟨hx, pa_ints hp, ho.r⟩
  refine (cl_ok (f := 35) (f35_ok (M := m) (v := vwI x p s.r) (by omega) ho.i hv)).trans ?_
  cases hr : roleIn s.r s.a p.c with
  | none =>
    cases pickR s.i (vwI x p s.r) <;> rfl
  | some o =>
    cases hp2 : pickR s.i (vwI x p s.r) with
    | none => rfl
    | some u =>
      have c3 : (u.t.cells.length == 6 && !u.t.isTup) = true := rfl
      have p4 : u.t.partD 4 1 false = i64 u.a := rfl
      simp only [compT, List.getElem?_cons_zero, List.getElem?_cons_succ, bT_bool, c3, chk_true, Option.isSome_some, Bool.not_true, cond_false, p4, iT_int, Option.getD_some]
      by_cases h4 : u.a = 2
      · rw [h4, if_pos rfl, bne_self_eq_false]; rfl
      · rw [bne_iff_ne.2 h4, if_neg h4]; rfl
theorem more_spec {u : Ru} (h : rsane u false = true) (ha : u.a ≠ 0) : u.n = if u.a = 3 then u.n else 0 := by
  unfold rsane actB at h
  simp only [Bool.and_eq_true] at h
  have h2 := h.2.2
  rw [if_neg ha] at h2
  split
  · rfl
  · rename_i h3
    split at h2
    · simpa using h2
    split at h2
    · simp at h2
    · first | cases h2 | (rw [if_neg h3] at h2; cases h2)
theorem outz_loop {M : Nat} {c : Cf} {r : Rt} {u : Ru} {m : Int} (hM : 20 ≤ M) (h0 : 0 ≤ u.n) (h8 : u.n ≤ 8) : iterR (bodyL env M 9 0 11) M (sO11 c r u m [c.a] 0) =
    .ok (.exit 0, ⟨slots 128 [(4, .ptr 0 0), (7, .ptr 1 0), (8, .ptr 2 0), (13, .t (i64 m)), (15, .own 3)], [.box 25 6 (.t c.t), .box 32 6 (.t r.t), .box 30 4 (.agg [.t (i64 0), .own 4, .t (i64 0), .t (i64 0)]), .row 3 1 (ints (List.replicate (1 + u.n).toNat c.a)), .row 3 1 []]⟩) := by
  obtain ⟨n, hn⟩ : ∃ n : Nat, u.n = n := ⟨u.n.toNat, by omega⟩
  have hbg := big_val
  have it := iter_fold (B := bodyL env M 9 0 11) (S := fun (l : List Int) i => sO11 c r u m l i)
    (X := fun l => ⟨slots 128 [(4, .ptr 0 0), (7, .ptr 1 0), (8, .ptr 2 0), (13, .t (i64 m)), (15, .own 3)], [.box 25 6 (.t c.t), .box 32 6 (.t r.t), .box 30 4 (.agg [.t (i64 0), .own 4, .t (i64 0), .t (i64 0)]), .row 3 1 (ints l), .row 3 1 []]⟩) (id := 0)
    (fun l j => l = List.replicate (j + 1) c.a) (fun l (_ : Unit) => l ++ [c.a]) (List.replicate n ()) (n := M) [c.a] (by rw [List.length_replicate]; omega) (fun l j y hy hI => by
      have hj : j < n := by have := (List.getElem?_eq_some_iff.1 hy).1; rw [List.length_replicate] at this; exact this
      refine ⟨?_, by rw [hI, List.replicate_succ' (n := j + 1)]⟩
      show bodyL env M 9 0 11 (sO11 c r u m l j) = _
      rw [b9_11, hn, decide_eq_true (show (j : Int) < (n : Int) by omega)]
      have e0 : ∀ K : Res (Ex × St), chkAll (T.okE 1) [i64 c.a] K = K := fun K => rfl
      simp only [cond_true, e0]
      rw [decide_eq_true (show ((ints l).length + 1) * 8 ≤ 140737488355328 by rw [ints_map, List.length_map, hI, List.length_replicate]; omega), chk_true, wrap_succ (show j ≤ big by omega), show ints l ++ [i64 c.a] = ints (l ++ [c.a]) by rw [ints_map, ints_map, List.map_append]; rfl]
      rfl) (fun l hI => by
      show bodyL env M 9 0 11 (sO11 c r u m l ((List.replicate n ()).length : Nat)) = _
      rw [List.length_replicate, b9_11, hn, decide_eq_false (show ¬ (n : Int) < (n : Int) by omega)]; rfl) rfl
  have e1 := it.1
  have e2 := it.2
  rw [List.length_replicate] at e2
  rw [e2] at e1
  rw [hn, show (1 + (n : Int)).toNat = n + 1 by omega]
  exact e1
theorem outz_end {M : Nat} {c : Cf} {x : Px} {r : Rt} {s : Sd} {u : Ru} {m : Int} {st : St} (hM : 20 ≤ M) (hu : u.n = if u.a = 3 then u.n else 0) (h0 : 0 ≤ u.n) (h8 : u.n ≤ 8) (h32 : r.p.s.length ≤ 32)
    (hst : st = sOz c x r s u m (fun i => st.tmps.getD i .junk)) : backL env M 9 8 st = .ok (optP (if (preR c u r).length ≤ 32 then some ⟨r.p.o, preR c u r, c.d, m⟩ else none)) := by
  have hbg := big_val
  rw [hst]
  refine (h9_8 M c x r s u m _).trans ?_
  have e0 : ∀ K : Res T, chkAll (T.okE 1) [i64 c.a] K = K := fun K => rfl
  rw [e0]
  by_cases h3 : u.a = 3
  · rw [h3, beq_self_eq_true]
    simp only [cond_true]
    refine Eq.trans (show _ = loopL env M 9 11 (sO11 c r u m [c.a] 0) from rfl) ?_
    refine (loopL_end (outz_loop hM h0 h8)).trans ?_
    refine (t9_11_exit0 M c r m (List.replicate (1 + u.n).toNat c.a)).trans ?_
    have hlen : (ints (List.replicate (1 + u.n).toNat c.a)).length = (1 + u.n).toNat := by rw [ints_map, List.length_map, List.length_replicate]
    have hl2 : (ints r.p.s).length = r.p.s.length := by rw [ints_map, List.length_map]
    have happ : ints (List.replicate (1 + u.n).toNat c.a) ++ ints r.p.s = ints (preR c u r) := by unfold preR; rw [ints_map, ints_map, ints_map, List.map_append]
    have hpl : (preR c u r).length = (1 + u.n).toNat + r.p.s.length := by unfold preR; rw [List.length_append, List.length_replicate]
    rw [happ, hlen, hl2, decide_eq_true (show ((1 + u.n).toNat + r.p.s.length) * 8 ≤ 140737488355328 by omega), chk_true]
    have e1 : ((ints (preR c u r)).length : Int) = ((preR c u r).length : Int) := by rw [ints_map, List.length_map]
    rw [e1]
    by_cases h4 : (preR c u r).length ≤ 32
    · rw [decide_eq_false (show ¬ ((preR c u r).length : Int) > 32 by omega), if_pos h4]; rfl
    · rw [decide_eq_true (show ((preR c u r).length : Int) > 32 by omega), if_neg h4]; rfl
  · rw [beq_eq_false_iff_ne.2 h3]
    rw [if_neg h3] at hu
    have hpre : preR c u r = c.a :: r.p.s := by unfold preR; rw [hu]; rfl
    have happ : [i64 c.a] ++ ints r.p.s = ints (preR c u r) := by rw [hpre]; rfl
    have hl2 : (ints r.p.s).length = r.p.s.length := by rw [ints_map, List.length_map]
    simp only [cond_false]
    rw [happ, hl2, decide_eq_true (show (1 + r.p.s.length) * 8 ≤ 140737488355328 by omega), chk_true]
    have e1 : ((ints (preR c u r)).length : Int) = ((preR c u r).length : Int) := by rw [ints_map, List.length_map]
    rw [e1]
    by_cases h4 : (preR c u r).length ≤ 32
    · rw [decide_eq_false (show ¬ ((preR c u r).length : Int) > 32 by omega), if_pos h4]; rfl
    · rw [decide_eq_true (show ((preR c u r).length : Int) > 32 by omega), if_neg h4]; rfl
theorem f9_ok {M : Nat} {c : Cf} {k : Int} {x : Px} {r : Rt} (hM : big + 60 ≤ M) (h : c.ok) (hk : ok64 k = true) (hx : x.ok) (hr : r.ok) : callP env (M + 1) 9 [c.t, i64 k, x.t, r.t] = .ok (optP (outR c k x r)) := by
  obtain ⟨m, rfl⟩ := exM (show 1 ≤ M by omega)
  have hbg := big_val
  have hw : T.wfs [c.t, i64 k, x.t, r.t] = true := by
    have h1 := h.wf; have h2 := wf_int hk; have h3 := hx.wf; have h4 := hr.wf
    simp only [T.wfs, h1, h2, h3, h4, Bool.and_self]
  refine (callP_back rfl hw).trans ?_
  refine (backL_seg 8).trans ?_
  have key : ∀ Kc : St → Res T, (∀ (s : Sd) (u : Ru) (o : Int) (st : St), (u.n = if u.a = 3 then u.n else 0) → 0 ≤ u.n → u.n ≤ 8 → r.p.s.length ≤ 32 → st = sOz c x r s u o (fun i => st.tmps.getD i .junk) → Kc st = .ok (optP (if (preR c u r).length ≤ 32 then some ⟨r.p.o, preR c u r, c.d, o⟩ else none))) →
      segL env (m + 1) 9 0 8 (startS env 9 [.t (c.t), .t (i64 k), .t (x.t), .t (r.t)]) Kc = .ok (optP (outR c k x r)) := fun Kc hKc => ?_
  · exact key _ fun s u o st hu h0 h8 h32 hst => outz_end (M := m + 1) (by omega) hu h0 h8 h32 hst
  refine (f9_0 (m + 1) c k x r Kc).trans ?_
  rw [cl_ok (f29_ok (by omega) h)]
  simp only [bT_bool]
  unfold outR
  cases hcs : csane c with
  | false => rfl
  | true =>
  simp only [Bool.not_true, cond_false, Bool.true_and]
  rw [cl_ok (f30_ok h hk)]
  simp only [bT_bool]
  cases hh : hasB c k with
  | false => rfl
  | true =>
  simp only [Bool.not_true, cond_false, Bool.true_and]
  rw [cl_ok (f31_ok (by omega) hx)]
  simp only [bT_bool]
  cases psane x with
  | false => rfl
  | true =>
  simp only [Bool.not_true, cond_false, Bool.true_and]
  rw [cl_ok (f45_ok (by omega) hr)]
  simp only [bT_bool]
  cases hrs : rtsane r with
  | false => rfl
  | true =>
  simp only [Bool.not_true, cond_false, Bool.true_and]
  have h32 : r.p.s.length ≤ 32 := by
    unfold rtsane at hrs
    simp only [Bool.and_eq_true, decide_eq_true_eq] at hrs
    exact hrs.2.1
  by_cases h1 : r.f = k
  · rw [beq_iff_eq.2 h1, decide_eq_false (show ¬ r.f ≠ k from fun e => e h1)]; rfl
  rw [beq_eq_false_iff_ne.2 h1, decide_eq_true (show r.f ≠ k from h1), List.length_map]
  simp only [cond_false, Bool.true_and]
  by_cases h2 : r.f < (c.s.length : Int)
  case neg => rw [decide_eq_true (show r.f ≥ (c.s.length : Int) by omega), decide_eq_false h2]; rfl
  rw [decide_eq_false (show ¬ r.f ≥ (c.s.length : Int) by omega), decide_eq_true h2]
  simp only [cond_false, if_true]
  obtain ⟨i, s, rfl, hi, hs⟩ := has_nat hh
  have ho := h.s.2 _ (List.mem_of_getElem? hs)
  rw [Int.toNat_natCast, hs, atT_get (map_get hs)]
  have c1 : (s.t.cells.length == 4 && !s.t.isTup) = true := rfl
  have p1 : s.t.partD 1 1 false = i64 s.r := rfl
  have p3 : s.t.partD 3 1 false = .sl 6 (s.o.map Ru.t) := rfl
  have c2 : ∀ n : Int, ((i64 n).cells.length == 1 && !(i64 n).isTup) = true := fun n => rfl
  rw [c1, chk_true, cl_ok (f11_ok (by omega) h hr.f), c2, chk_true]
  have hv : (vwI x r.p (classI c r.f)).ok := ⟨hx, pa_ints hr.p, class_ok h⟩
  refine (cl_ok (f := 35) (f35_ok (M := m) (v := vwI x r.p (classI c r.f)) (by omega) ho.o hv)).trans ?_
  show _ = Res.ok (optP (match pickR s.o (vwI x r.p (classI c r.f)) with | some u => if u.a = 0 then none else (match roleOut s.r c.a r.p.c with | some m => if (preR c u r).length ≤ 32 then some ⟨r.p.o, preR c u r, c.d, m⟩ else none | none => none) | none => none))
  obtain ⟨s1, s2, s3, s4, s5, s6⟩ := side_parts hcs hs
  have ro := f46_ok (M := m) ho.r h.a hr.p.c
  cases hp2 : pickR s.o (vwI x r.p (classI c r.f)) with
  | none =>
    have c3 : ((T.agg [i64 0, i64 0, i64 0, i64 0, i64 0, i64 0]).cells.length == 6 && !(T.agg [i64 0, i64 0, i64 0, i64 0, i64 0, i64 0]).isTup) = true := rfl
    simp only [compT, List.getElem?_cons_zero, List.getElem?_cons_succ, c3, chk_true, p1]
    rw [cl_ok ro]
    rfl
  | some u =>
    have c3 : (u.t.cells.length == 6 && !u.t.isTup) = true := rfl
    have p4 : u.t.partD 4 1 false = i64 u.a := rfl
    simp only [compT, List.getElem?_cons_zero, List.getElem?_cons_succ, c3, chk_true, p1]
    rw [cl_ok ro]
    simp only [compT, List.getElem?_cons_zero, List.getElem?_cons_succ, bT_bool, Bool.not_true, cond_false, p4, iT_int]
    show _ = Res.ok (optP (if u.a = 0 then none else match roleOut s.r c.a r.p.c with | some m => if (preR c u r).length ≤ 32 then some ⟨r.p.o, preR c u r, c.d, m⟩ else none | none => none))
    by_cases h4 : u.a = 0
    · rw [beq_iff_eq.2 h4, if_pos h4]; rfl
    rw [beq_eq_false_iff_ne.2 h4, if_neg h4]
    simp only [cond_false]
    cases hro : roleOut s.r c.a r.p.c with
    | none => rfl
    | some o =>
      simp only [Option.isSome_some, Bool.not_true, cond_false, Option.getD_some]
      have hu := s6 u (pick_mem hp2).1
      obtain ⟨u1, u2⟩ := more_out hu h4
      exact hKc s u o _ (more_spec hu h4) u1 u2 h32 (by kernel_rfl)
theorem f3_ok {M : Nat} {c : Cf} {k : Int} {x : Px} {p : Pa} {r : Rt} (hM : big + 64 ≤ M) (h : c.ok) (hk : ok64 k = true) (hx : x.ok) (hp : p.ok) (hr : r.ok) : callP env (M + 1) 3 [c.t, i64 k, x.t, p.t, r.t] = .ok (.bool true) := by
  obtain ⟨m, rfl⟩ := exM (show 1 ≤ M by omega)
  have hw : T.wfs [c.t, i64 k, x.t, p.t, r.t] = true := by
    have h1 := h.wf; have h2 := wf_int hk; have h3 := hx.wf; have h4 := hp.wf; have h5 := hr.wf
    simp only [T.wfs, h1, h2, h3, h4, h5, Bool.and_self]
  rw [q3, W_ok hw, cl_ok (f4_ok (by omega)), clB_ok (f5_ok (by omega) h hp)]
  cases few12 c && decide (p.s.length ≤ 100) with
  | false => rfl
  | true =>
  simp only [Bool.not_true, cond_false]
  rw [clB_ok (f5_ok (by omega) h hr.p)]
  cases few12 c && decide (r.p.s.length ≤ 100) with
  | false => rfl
  | true =>
  simp only [Bool.not_true, cond_false]
  rw [cl_ok (f6_ok (by omega) h hk hx hp), optR_eq]
  simp only [compT, List.getElem?_cons_zero, List.getElem?_cons_succ, rt_chk, chk_true]
  rw [cl_ok (f7_ok (by omega) h hk hx hp), optR_eq]
  simp only [compT, List.getElem?_cons_zero, List.getElem?_cons_succ, rt_chk, chk_true]
  rw [cl_ok (f8_ok (by omega) h hk hx hr), optP_eq]
  simp only [compT, List.getElem?_cons_zero, List.getElem?_cons_succ, pa_chk, chk_true]
  rw [cl_ok (f9_ok (by omega) h hk hx hr), optP_eq]
  simp only [compT, List.getElem?_cons_zero, List.getElem?_cons_succ, pa_chk, chk_true, bT_bool, cond_true]
  rw [cl_ok (f10_ok (by omega) h hk), cl_ok (f11_ok (by omega) h hk)]
  simp only [iT_int, beq_self_eq_true, cond_true]
  have e1 : ∀ b : Bool, T.eqLs [1] [.bool b] [.bool b] = some true := fun b => by cases b <;> rfl
  simp only [e1, cond_true]
  rw [clB_ok (f12_ok (by omega) (inD_ok h hk hp) (inD_ok h hk hp)), decide_eq_true rfl]
  simp only [cond_true]
  rw [cl_ok (f13_ok (by omega) (outD_ok h hr) (outD_ok h hr)), decide_eq_true rfl]
end Go.Sim
