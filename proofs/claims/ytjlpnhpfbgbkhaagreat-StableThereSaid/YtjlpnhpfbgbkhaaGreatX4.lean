/- The texts of a proof, one behind the other: an interpreter and its soundness, what the functions of the program answer, and plain laws on that. -/
import Derived.Test.YtjlpnhpfbgbkhaaGreatX1
import Derived.Test.YtjlpnhpfbgbkhaaGreatK9
import Derived.Test.YtjlpnhpfbgbkhaaGreatX3
set_option linter.unusedVariables false
set_option linter.unusedSimpArgs false
set_option linter.unnecessarySimpa false
set_option linter.unusedSectionVars false
set_option maxRecDepth 100000
namespace Go.aP
section
open Go.RowKit Go.Proofs
variable [Lv]
def sRp (l:List T) (j:Int):St:=⟨slots 48 [(7,.own 0),(8,.t (i64 j))],[.row 3 1 l]⟩
def sCc (l:List (List Int)) (n i:Int):St:=⟨slots 36 [(0,.t (.sl 1 (l.map fun a=> .sl 1 (ints a)))),(3,.t (i64 n)),(9,.t (.sl 1 (l.map fun a=> .sl 1 (ints a)))),(10,.t (i64 l.length)),(11,.t (i64 i))],[]⟩
def agI (l:List (List Int)) (r:List Int) (i:Int):St:=⟨slots 36 [(6,.own 0),(25,.t (.sl 1 (l.map fun a=> .sl 1 (ints a)))),(26,.t (i64 l.length)),(27,.t (i64 i))],[.row 3 1 (ints r)]⟩
def sCm (l m:List Int) (i:Int):St:=⟨slots 36 [(0,.t (.sl 1 (ints l))),(1,.t (.sl 1 (ints m))),(9,.t (.sl 1 (ints l))),(10,.t (i64 l.length)),(11,.t (i64 i))],[]⟩
theorem aqS (N:Nat) (a n:Int):ak env (N+1) 123 [.sl 1 [i64 a],i64 n]=W [.sl 1 [i64 a],i64 n] (bif decide (n < 0) then aj.stuck else cl N 156 [T.int IntKind.u64 (IntKind.u64.wrap (↑1:Int)),T.int IntKind.u64 (IntKind.u64.wrap n)] fun x=>aG x 0 fun y=>aG x 1 fun y_1=>iT IntKind.u64 y fun a_1=>bif decide (a_1 > 0) then aj.stuck else iT IntKind.u64 y_1 fun a_2=>bif decide (a_2 > 9223372036854775807) then aj.stuck else iT IntKind.u64 y_1 fun n=>chk (decide (0≤IntKind.i64.wrap n)&&decide (IntKind.i64.wrap n≤IntKind.i64.wrap n)&&decide ((IntKind.i64.wrap n).toNat*8≤140737488355328)) (chk (decide ((List.replicate (IntKind.i64.wrap n).toNat (i64 0)).length≤(List.replicate (IntKind.i64.wrap n).toNat (i64 0)).length)) (bC env N 123 8 (sRp (fP (List.replicate (IntKind.i64.wrap n).toNat (i64 0)) 0 (List.take (List.replicate (IntKind.i64.wrap n).toNat (i64 0)).length [i64 a])) (↑(min 1 (List.replicate (IntKind.i64.wrap n).toNat (i64 0)).length):Int))))):=by kernel_rfl
theorem ad8 (N:Nat) (l:List T) (j:Int):aH env N 123 0 8 (sRp l j)=bif decide (j < (↑l.length:Int)) then chk (decide (0≤j)&&decide (j≤(↑l.length:Int))) (chk (decide (0≤j)&&decide (j≤(↑l.length:Int))) (bif decide (0+j.toNat≤l.length) then chk (decide (0+j.toNat≤0+l.length)&&decide (0+l.length≤l.length)) (aj.ok (Ex.norm,sRp (fP l (0+j.toNat) (List.take (0+l.length - (0+j.toNat)) (List.drop 0 (List.take (0+j.toNat) l)))) (IntKind.i64.wrap (j+(↑(min (List.drop 0 (List.take (0+j.toNat) l)).length (0+l.length - (0+j.toNat))):Int))))) else aj.stuck)) else aj.ok (Ex.exit 0,{tmps:=slots 48 [(7,PV.own 0)],heap:=[ah.row 3 1 l]}):=by kernel_rfl
theorem Tf (N:Nat) (l:List T) (j:Int):aS env N 123 0 8 (aY env 123) (.exit 0) (⟨slots 48 [(7,.own 0)],[.row 3 1 l]⟩)=aj.ok (T.sl 1 l):=by kernel_rfl
theorem arj (N:Nat) (a b:Int):ak env (N+1) 156 [.int .u64 a,.int .u64 b]=W [.int .u64 a,.int .u64 b] (cl N 195 [T.int IntKind.u64 a,T.int IntKind.u64 b] fun x=>aG x 0 fun y=>aG x 1 fun y_1=>aj.ok (T.au [y,y_1])):=by kernel_rfl
theorem arI (N:Nat) (a b:Int):ak env (N+1) 195 [.int .u64 a,.int .u64 b]=W [.int .u64 a,.int .u64 b] (aj.ok (T.au [T.int IntKind.u64 (IntKind.u64.wrap (IntKind.u64.wrap (IntKind.u64.wrap (a.fdiv 4294967296*b.fdiv 4294967296)+(IntKind.u64.wrap (IntKind.u64.wrap (a.fdiv 4294967296*IntKind.u64.wrap (↑(BitVec.ofInt 64 b&&& BitVec.ofInt 64 4294967295).toNat:Int))+(IntKind.u64.wrap (IntKind.u64.wrap (↑(BitVec.ofInt 64 a&&& BitVec.ofInt 64 4294967295).toNat:Int)*IntKind.u64.wrap (↑(BitVec.ofInt 64 b&&& BitVec.ofInt 64 4294967295).toNat:Int))).fdiv 4294967296)).fdiv 4294967296)+(IntKind.u64.wrap (IntKind.u64.wrap (↑(BitVec.ofInt 64 (IntKind.u64.wrap (IntKind.u64.wrap (a.fdiv 4294967296*IntKind.u64.wrap (↑(BitVec.ofInt 64 b&&& BitVec.ofInt 64 4294967295).toNat:Int))+(IntKind.u64.wrap (IntKind.u64.wrap (↑(BitVec.ofInt 64 a&&& BitVec.ofInt 64 4294967295).toNat:Int)*IntKind.u64.wrap (↑(BitVec.ofInt 64 b&&& BitVec.ofInt 64 4294967295).toNat:Int))).fdiv 4294967296))&&& BitVec.ofInt 64 4294967295).toNat:Int)+IntKind.u64.wrap (IntKind.u64.wrap (↑(BitVec.ofInt 64 a&&& BitVec.ofInt 64 4294967295).toNat:Int)*b.fdiv 4294967296))).fdiv 4294967296)),T.int IntKind.u64 (IntKind.u64.wrap (a*b))])):=by kernel_rfl
theorem aqR (N:Nat) (l:List (List Int)):ak env (N+1) 122 [.sl 1 (l.map fun a=> .sl 1 (ints a))]=W [.sl 1 (l.map fun a=> .sl 1 (ints a))] (bC env N 122 3 {tmps:=slots 36 [(0,PV.t (T.sl 1 (List.map (fun a=>T.sl 1 (ints a)) l))),(3,PV.t (i64 0)),(9,PV.t (T.sl 1 (List.map (fun a=>T.sl 1 (ints a)) l))),(10,PV.t (i64 (↑(List.map (fun a=>T.sl 1 (ints a)) l).length:Int))),(11,PV.t (i64 0))],heap:=[]}):=by kernel_rfl
theorem ad7 (N:Nat) (l:List (List Int)) (n i:Int):aH env N 122 0 3 (sCc l n i)=bif decide (i < (↑l.length:Int)) then bV (List.map (fun a=>T.sl 1 (ints a)) l) i fun e=>gY e fun n_1=>bif decide (IntKind.i64.wrap (n+n_1) < 0) then aj.stuck else aj.ok (Ex.norm,sCc l (IntKind.i64.wrap (n+n_1)) (IntKind.i64.wrap (i+1))) else aj.ok (Ex.exit 0,{tmps:=slots 36 [(0,PV.t (T.sl 1 (List.map (fun a=>T.sl 1 (ints a)) l))),(3,PV.t (i64 n))],heap:=[]}):=by kernel_rfl
theorem Td (N:Nat) (l:List (List Int)) (n:Int):aS env N 122 0 3 (aY env 122) (.exit 0) (⟨slots 36 [(0,.t (.sl 1 (l.map fun a=> .sl 1 (ints a)))),(3,.t (i64 n))],[]⟩)=(bif decide (0≤n)&&decide ((0+n.toNat)*8≤140737488355328) then aj.ok [] else aj.stuck).bind fun ys=>bC env N 122 11 {tmps:=slots 36 [(6,PV.own 0),(25,PV.t (T.sl 1 (List.map (fun a=>T.sl 1 (ints a)) l))),(26,PV.t (i64 (↑(List.map (fun a=>T.sl 1 (ints a)) l).length:Int))),(27,PV.t (i64 0))],heap:=[ah.row 3 1 ys]}:=by kernel_rfl
theorem aai (N:Nat) (l:List (List Int)) (r:List Int) (i:Int):aH env N 122 0 11 (agI l r i)=bif decide (i < (↑l.length:Int)) then bV (List.map (fun a=>T.sl 1 (ints a)) l) i fun e=>qW 1 e fun ys=>chk (decide (((ints r).length+ys.length)*8≤140737488355328)) (aj.ok (Ex.norm,{tmps:=slots 36 [(6,PV.own 0),(25,PV.t (T.sl 1 (List.map (fun a=>T.sl 1 (ints a)) l))),(26,PV.t (i64 (↑l.length:Int))),(27,PV.t (i64 (IntKind.i64.wrap (i+1))))],heap:=[ah.row 3 1 (ints r++ys)]})) else aj.ok (Ex.exit 2,{tmps:=slots 36 [(6,PV.own 0)],heap:=[ah.row 3 1 (ints r)]}):=by kernel_rfl
theorem OD (N:Nat) (l:List (List Int)) (r:List Int):aS env N 122 0 11 (aY env 122) (.exit 2) (⟨slots 36 [(6,.own 0)],[.row 3 1 (ints r)]⟩)=aj.ok (T.sl 1 (ints r)):=by kernel_rfl
theorem q97 (N:Nat) (l m:List Int):ak env (N+1) 97 [.sl 1 (ints l),.sl 1 (ints m)]=W [.sl 1 (ints l),.sl 1 (ints m)] (bC env N 97 2 {tmps:=slots 36 [(0,PV.t (T.sl 1 (ints l))),(1,PV.t (T.sl 1 (ints m))),(9,PV.t (T.sl 1 (ints l))),(10,PV.t (i64 (↑(ints l).length:Int))),(11,PV.t (i64 0))],heap:=[]}):=by kernel_rfl
theorem ajF (N:Nat) (l m:List Int) (i:Int):aH env N 97 0 2 (sCm l m i)=bif decide (i < (↑l.length:Int)) then bV (ints l) i fun e=>bif decide (i≥(↑(ints m).length:Int)) then aj.ok (Ex.ret,{tmps:=slots 36 [(4,PV.t (i64 1))],heap:=[]}) else bV (ints m) i fun e_1=>cl N 96 [e,e_1] fun x=>iT IntKind.i64 x fun a=>bif a !=0 then aj.ok (Ex.ret,{tmps:=slots 36 [(4,PV.t x)],heap:=[]}) else aj.ok (Ex.norm,sCm l m (IntKind.i64.wrap (i+1))) else aj.ok (Ex.exit 0,{tmps:=slots 36 [(0,PV.t (T.sl 1 (ints l))),(1,PV.t (T.sl 1 (ints m)))],heap:=[]}):=by kernel_rfl
theorem QC (N:Nat) (n:Int):aS env N 97 0 2 (aY env 97) (.ret) (⟨slots 36 [(4,.t (i64 n))],[]⟩)=rI n:=by kernel_rfl
theorem Xw (N:Nat) (l m:List Int):aS env N 97 0 2 (aY env 97) (.exit 0) (⟨slots 36 [(0,.t (.sl 1 (ints l))),(1,.t (.sl 1 (ints m)))],[]⟩)=bif decide ((↑(ints l).length:Int) < (↑(ints m).length:Int)) then rI (-1) else rI 0:=by kernel_rfl
theorem q96 (N:Nat) (a b:Int):ak env (N+1) 96 [i64 a,i64 b]=W [i64 a,i64 b] (cl N 132 [i64 a] fun x=>cl N 132 [i64 b] fun x_1=>bT x fun v=>bif v then bT x_1 fun v=>bif v then rI 0 else rI (-1) else bT x_1 fun v=>bif v then rI 1 else bif decide (a < b) then rI (-1) else bif decide (a > b) then rI 1 else rI 0):=by kernel_rfl
theorem aqW (N:Nat) (a:Int):ak env (N+1) 132 [i64 a]=W [i64 a] (rB (a !=a)):=by kernel_rfl
theorem q30 (N:Nat) (a b:Rt):ak env (N+1) 30 [a.t,b.t]=W [a.t,b.t] (dB (T.oq 1) [T.fn 63 [T.agg [i64 a.n,i64 a.p.o,T.sl 1 (ints a.p.s),i64 a.p.h,i64 a.p.c,i64 a.f,i64 b.n,i64 b.p.o,T.sl 1 (ints b.p.s),i64 b.p.h,i64 b.p.c,i64 b.f]] [],T.fn 64 [T.agg [i64 a.n,i64 a.p.o,T.sl 1 (ints a.p.s),i64 a.p.h,i64 a.p.c,i64 a.f,i64 b.n,i64 b.p.o,T.sl 1 (ints b.p.s),i64 b.p.h,i64 b.p.c,i64 b.f]] [],T.fn 65 [T.agg [i64 a.n,i64 a.p.o,T.sl 1 (ints a.p.s),i64 a.p.h,i64 a.p.c,i64 a.f,i64 b.n,i64 b.p.o,T.sl 1 (ints b.p.s),i64 b.p.h,i64 b.p.c,i64 b.f]] [],T.fn 66 [T.agg [i64 a.n,i64 a.p.o,T.sl 1 (ints a.p.s),i64 a.p.h,i64 a.p.c,i64 a.f,i64 b.n,i64 b.p.o,T.sl 1 (ints b.p.s),i64 b.p.h,i64 b.p.c,i64 b.f]] [],T.fn 67 [T.agg [i64 a.n,i64 a.p.o,T.sl 1 (ints a.p.s),i64 a.p.h,i64 a.p.c,i64 a.f,i64 b.n,i64 b.p.o,T.sl 1 (ints b.p.s),i64 b.p.h,i64 b.p.c,i64 b.f]] [],T.fn 68 [T.agg [i64 a.n,i64 a.p.o,T.sl 1 (ints a.p.s),i64 a.p.h,i64 a.p.c,i64 a.f,i64 b.n,i64 b.p.o,T.sl 1 (ints b.p.s),i64 b.p.h,i64 b.p.c,i64 b.f]] [],T.fn 69 [T.agg [i64 a.n,i64 a.p.o,T.sl 1 (ints a.p.s),i64 a.p.h,i64 a.p.c,i64 a.f,i64 b.n,i64 b.p.o,T.sl 1 (ints b.p.s),i64 b.p.h,i64 b.p.c,i64 b.f]] []] (bC env N 30 3 {tmps:=slots 38 [(26,PV.own 0),(27,PV.t (i64 (↑7:Int))),(28,PV.t (i64 0))],heap:=[ah.row 97 1 [T.fn 63 [T.agg [i64 a.n,i64 a.p.o,T.sl 1 (ints a.p.s),i64 a.p.h,i64 a.p.c,i64 a.f,i64 b.n,i64 b.p.o,T.sl 1 (ints b.p.s),i64 b.p.h,i64 b.p.c,i64 b.f]] [],T.fn 64 [T.agg [i64 a.n,i64 a.p.o,T.sl 1 (ints a.p.s),i64 a.p.h,i64 a.p.c,i64 a.f,i64 b.n,i64 b.p.o,T.sl 1 (ints b.p.s),i64 b.p.h,i64 b.p.c,i64 b.f]] [],T.fn 65 [T.agg [i64 a.n,i64 a.p.o,T.sl 1 (ints a.p.s),i64 a.p.h,i64 a.p.c,i64 a.f,i64 b.n,i64 b.p.o,T.sl 1 (ints b.p.s),i64 b.p.h,i64 b.p.c,i64 b.f]] [],T.fn 66 [T.agg [i64 a.n,i64 a.p.o,T.sl 1 (ints a.p.s),i64 a.p.h,i64 a.p.c,i64 a.f,i64 b.n,i64 b.p.o,T.sl 1 (ints b.p.s),i64 b.p.h,i64 b.p.c,i64 b.f]] [],T.fn 67 [T.agg [i64 a.n,i64 a.p.o,T.sl 1 (ints a.p.s),i64 a.p.h,i64 a.p.c,i64 a.f,i64 b.n,i64 b.p.o,T.sl 1 (ints b.p.s),i64 b.p.h,i64 b.p.c,i64 b.f]] [],T.fn 68 [T.agg [i64 a.n,i64 a.p.o,T.sl 1 (ints a.p.s),i64 a.p.h,i64 a.p.c,i64 a.f,i64 b.n,i64 b.p.o,T.sl 1 (ints b.p.s),i64 b.p.h,i64 b.p.c,i64 b.f]] [],T.fn 69 [T.agg [i64 a.n,i64 a.p.o,T.sl 1 (ints a.p.s),i64 a.p.h,i64 a.p.c,i64 a.f,i64 b.n,i64 b.p.o,T.sl 1 (ints b.p.s),i64 b.p.h,i64 b.p.c,i64 b.f]] []]]})):=by kernel_rfl
end
section
open Go.RowKit Go.Proofs
variable [Lv]
def xM (a b:Rt):T:=T.agg [i64 a.n,i64 a.p.o,T.sl 1 (ints a.p.s),i64 a.p.h,i64 a.p.c,i64 a.f,i64 b.n,i64 b.p.o,T.sl 1 (ints b.p.s),i64 b.p.h,i64 b.p.c,i64 b.f]
def NC (a b:Rt):List T:=[T.fn 63 [xM a b] [],T.fn 64 [xM a b] [],T.fn 65 [xM a b] [],T.fn 66 [xM a b] [],T.fn 67 [xM a b] [],T.fn 68 [xM a b] [],T.fn 69 [xM a b] []]
def asj (a b:Rt):St:=⟨slots 38 [(26,.own 0),(27,.t (i64 7)),(28,.t (i64 0))],[.row 97 1 (NC a b)]⟩
def asl (a b:Rt):St:=⟨slots 38 [(26,.own 0),(27,.t (i64 7)),(28,.t (i64 1))],[.row 97 1 (NC a b)]⟩
def asn (a b:Rt):St:=⟨slots 38 [(26,.own 0),(27,.t (i64 7)),(28,.t (i64 2))],[.row 97 1 (NC a b)]⟩
def aso (a b:Rt):St:=⟨slots 38 [(26,.own 0),(27,.t (i64 7)),(28,.t (i64 3))],[.row 97 1 (NC a b)]⟩
def asq (a b:Rt):St:=⟨slots 38 [(26,.own 0),(27,.t (i64 7)),(28,.t (i64 4))],[.row 97 1 (NC a b)]⟩
def asr (a b:Rt):St:=⟨slots 38 [(26,.own 0),(27,.t (i64 7)),(28,.t (i64 5))],[.row 97 1 (NC a b)]⟩
def asu (a b:Rt):St:=⟨slots 38 [(26,.own 0),(27,.t (i64 7)),(28,.t (i64 6))],[.row 97 1 (NC a b)]⟩
def asv (a b:Rt):St:=⟨slots 38 [(26,.own 0),(27,.t (i64 7)),(28,.t (i64 7))],[.row 97 1 (NC a b)]⟩
theorem an9 (N:Nat) (a b:Rt):aH env N 30 0 3 (asj a b)=cl N 63 [T.agg [i64 a.n,i64 a.p.o,T.sl 1 (ints a.p.s),i64 a.p.h,i64 a.p.c,i64 a.f,i64 b.n,i64 b.p.o,T.sl 1 (ints b.p.s),i64 b.p.h,i64 b.p.c,i64 b.f]] fun r=>iT IntKind.i64 r fun a_1=>bif a_1 !=0 then aj.ok (Ex.ret,{tmps:=slots 38 [(4,PV.t r)],heap:=[]}) else aj.ok (Ex.norm,{tmps:=slots 38 [(26,PV.own 0),(27,PV.t (i64 7)),(28,PV.t (i64 1))],heap:=[ah.row 97 1 [T.fn 63 [T.agg [i64 a.n,i64 a.p.o,T.sl 1 (ints a.p.s),i64 a.p.h,i64 a.p.c,i64 a.f,i64 b.n,i64 b.p.o,T.sl 1 (ints b.p.s),i64 b.p.h,i64 b.p.c,i64 b.f]] [],T.fn 64 [T.agg [i64 a.n,i64 a.p.o,T.sl 1 (ints a.p.s),i64 a.p.h,i64 a.p.c,i64 a.f,i64 b.n,i64 b.p.o,T.sl 1 (ints b.p.s),i64 b.p.h,i64 b.p.c,i64 b.f]] [],T.fn 65 [T.agg [i64 a.n,i64 a.p.o,T.sl 1 (ints a.p.s),i64 a.p.h,i64 a.p.c,i64 a.f,i64 b.n,i64 b.p.o,T.sl 1 (ints b.p.s),i64 b.p.h,i64 b.p.c,i64 b.f]] [],T.fn 66 [T.agg [i64 a.n,i64 a.p.o,T.sl 1 (ints a.p.s),i64 a.p.h,i64 a.p.c,i64 a.f,i64 b.n,i64 b.p.o,T.sl 1 (ints b.p.s),i64 b.p.h,i64 b.p.c,i64 b.f]] [],T.fn 67 [T.agg [i64 a.n,i64 a.p.o,T.sl 1 (ints a.p.s),i64 a.p.h,i64 a.p.c,i64 a.f,i64 b.n,i64 b.p.o,T.sl 1 (ints b.p.s),i64 b.p.h,i64 b.p.c,i64 b.f]] [],T.fn 68 [T.agg [i64 a.n,i64 a.p.o,T.sl 1 (ints a.p.s),i64 a.p.h,i64 a.p.c,i64 a.f,i64 b.n,i64 b.p.o,T.sl 1 (ints b.p.s),i64 b.p.h,i64 b.p.c,i64 b.f]] [],T.fn 69 [T.agg [i64 a.n,i64 a.p.o,T.sl 1 (ints a.p.s),i64 a.p.h,i64 a.p.c,i64 a.f,i64 b.n,i64 b.p.o,T.sl 1 (ints b.p.s),i64 b.p.h,i64 b.p.c,i64 b.f]] []]]}):=by kernel_rfl
theorem ahe (N:Nat) (a b:Rt):aH env N 30 0 3 (asl a b)=cl N 64 [T.agg [i64 a.n,i64 a.p.o,T.sl 1 (ints a.p.s),i64 a.p.h,i64 a.p.c,i64 a.f,i64 b.n,i64 b.p.o,T.sl 1 (ints b.p.s),i64 b.p.h,i64 b.p.c,i64 b.f]] fun r=>iT IntKind.i64 r fun a_1=>bif a_1 !=0 then aj.ok (Ex.ret,{tmps:=slots 38 [(4,PV.t r)],heap:=[]}) else aj.ok (Ex.norm,{tmps:=slots 38 [(26,PV.own 0),(27,PV.t (i64 7)),(28,PV.t (i64 2))],heap:=[ah.row 97 1 [T.fn 63 [T.agg [i64 a.n,i64 a.p.o,T.sl 1 (ints a.p.s),i64 a.p.h,i64 a.p.c,i64 a.f,i64 b.n,i64 b.p.o,T.sl 1 (ints b.p.s),i64 b.p.h,i64 b.p.c,i64 b.f]] [],T.fn 64 [T.agg [i64 a.n,i64 a.p.o,T.sl 1 (ints a.p.s),i64 a.p.h,i64 a.p.c,i64 a.f,i64 b.n,i64 b.p.o,T.sl 1 (ints b.p.s),i64 b.p.h,i64 b.p.c,i64 b.f]] [],T.fn 65 [T.agg [i64 a.n,i64 a.p.o,T.sl 1 (ints a.p.s),i64 a.p.h,i64 a.p.c,i64 a.f,i64 b.n,i64 b.p.o,T.sl 1 (ints b.p.s),i64 b.p.h,i64 b.p.c,i64 b.f]] [],T.fn 66 [T.agg [i64 a.n,i64 a.p.o,T.sl 1 (ints a.p.s),i64 a.p.h,i64 a.p.c,i64 a.f,i64 b.n,i64 b.p.o,T.sl 1 (ints b.p.s),i64 b.p.h,i64 b.p.c,i64 b.f]] [],T.fn 67 [T.agg [i64 a.n,i64 a.p.o,T.sl 1 (ints a.p.s),i64 a.p.h,i64 a.p.c,i64 a.f,i64 b.n,i64 b.p.o,T.sl 1 (ints b.p.s),i64 b.p.h,i64 b.p.c,i64 b.f]] [],T.fn 68 [T.agg [i64 a.n,i64 a.p.o,T.sl 1 (ints a.p.s),i64 a.p.h,i64 a.p.c,i64 a.f,i64 b.n,i64 b.p.o,T.sl 1 (ints b.p.s),i64 b.p.h,i64 b.p.c,i64 b.f]] [],T.fn 69 [T.agg [i64 a.n,i64 a.p.o,T.sl 1 (ints a.p.s),i64 a.p.h,i64 a.p.c,i64 a.f,i64 b.n,i64 b.p.o,T.sl 1 (ints b.p.s),i64 b.p.h,i64 b.p.c,i64 b.f]] []]]}):=by kernel_rfl
theorem ahf (N:Nat) (a b:Rt):aH env N 30 0 3 (asn a b)=cl N 65 [T.agg [i64 a.n,i64 a.p.o,T.sl 1 (ints a.p.s),i64 a.p.h,i64 a.p.c,i64 a.f,i64 b.n,i64 b.p.o,T.sl 1 (ints b.p.s),i64 b.p.h,i64 b.p.c,i64 b.f]] fun r=>iT IntKind.i64 r fun a_1=>bif a_1 !=0 then aj.ok (Ex.ret,{tmps:=slots 38 [(4,PV.t r)],heap:=[]}) else aj.ok (Ex.norm,{tmps:=slots 38 [(26,PV.own 0),(27,PV.t (i64 7)),(28,PV.t (i64 3))],heap:=[ah.row 97 1 [T.fn 63 [T.agg [i64 a.n,i64 a.p.o,T.sl 1 (ints a.p.s),i64 a.p.h,i64 a.p.c,i64 a.f,i64 b.n,i64 b.p.o,T.sl 1 (ints b.p.s),i64 b.p.h,i64 b.p.c,i64 b.f]] [],T.fn 64 [T.agg [i64 a.n,i64 a.p.o,T.sl 1 (ints a.p.s),i64 a.p.h,i64 a.p.c,i64 a.f,i64 b.n,i64 b.p.o,T.sl 1 (ints b.p.s),i64 b.p.h,i64 b.p.c,i64 b.f]] [],T.fn 65 [T.agg [i64 a.n,i64 a.p.o,T.sl 1 (ints a.p.s),i64 a.p.h,i64 a.p.c,i64 a.f,i64 b.n,i64 b.p.o,T.sl 1 (ints b.p.s),i64 b.p.h,i64 b.p.c,i64 b.f]] [],T.fn 66 [T.agg [i64 a.n,i64 a.p.o,T.sl 1 (ints a.p.s),i64 a.p.h,i64 a.p.c,i64 a.f,i64 b.n,i64 b.p.o,T.sl 1 (ints b.p.s),i64 b.p.h,i64 b.p.c,i64 b.f]] [],T.fn 67 [T.agg [i64 a.n,i64 a.p.o,T.sl 1 (ints a.p.s),i64 a.p.h,i64 a.p.c,i64 a.f,i64 b.n,i64 b.p.o,T.sl 1 (ints b.p.s),i64 b.p.h,i64 b.p.c,i64 b.f]] [],T.fn 68 [T.agg [i64 a.n,i64 a.p.o,T.sl 1 (ints a.p.s),i64 a.p.h,i64 a.p.c,i64 a.f,i64 b.n,i64 b.p.o,T.sl 1 (ints b.p.s),i64 b.p.h,i64 b.p.c,i64 b.f]] [],T.fn 69 [T.agg [i64 a.n,i64 a.p.o,T.sl 1 (ints a.p.s),i64 a.p.h,i64 a.p.c,i64 a.f,i64 b.n,i64 b.p.o,T.sl 1 (ints b.p.s),i64 b.p.h,i64 b.p.c,i64 b.f]] []]]}):=by kernel_rfl
theorem ahg (N:Nat) (a b:Rt):aH env N 30 0 3 (aso a b)=cl N 66 [T.agg [i64 a.n,i64 a.p.o,T.sl 1 (ints a.p.s),i64 a.p.h,i64 a.p.c,i64 a.f,i64 b.n,i64 b.p.o,T.sl 1 (ints b.p.s),i64 b.p.h,i64 b.p.c,i64 b.f]] fun r=>iT IntKind.i64 r fun a_1=>bif a_1 !=0 then aj.ok (Ex.ret,{tmps:=slots 38 [(4,PV.t r)],heap:=[]}) else aj.ok (Ex.norm,{tmps:=slots 38 [(26,PV.own 0),(27,PV.t (i64 7)),(28,PV.t (i64 4))],heap:=[ah.row 97 1 [T.fn 63 [T.agg [i64 a.n,i64 a.p.o,T.sl 1 (ints a.p.s),i64 a.p.h,i64 a.p.c,i64 a.f,i64 b.n,i64 b.p.o,T.sl 1 (ints b.p.s),i64 b.p.h,i64 b.p.c,i64 b.f]] [],T.fn 64 [T.agg [i64 a.n,i64 a.p.o,T.sl 1 (ints a.p.s),i64 a.p.h,i64 a.p.c,i64 a.f,i64 b.n,i64 b.p.o,T.sl 1 (ints b.p.s),i64 b.p.h,i64 b.p.c,i64 b.f]] [],T.fn 65 [T.agg [i64 a.n,i64 a.p.o,T.sl 1 (ints a.p.s),i64 a.p.h,i64 a.p.c,i64 a.f,i64 b.n,i64 b.p.o,T.sl 1 (ints b.p.s),i64 b.p.h,i64 b.p.c,i64 b.f]] [],T.fn 66 [T.agg [i64 a.n,i64 a.p.o,T.sl 1 (ints a.p.s),i64 a.p.h,i64 a.p.c,i64 a.f,i64 b.n,i64 b.p.o,T.sl 1 (ints b.p.s),i64 b.p.h,i64 b.p.c,i64 b.f]] [],T.fn 67 [T.agg [i64 a.n,i64 a.p.o,T.sl 1 (ints a.p.s),i64 a.p.h,i64 a.p.c,i64 a.f,i64 b.n,i64 b.p.o,T.sl 1 (ints b.p.s),i64 b.p.h,i64 b.p.c,i64 b.f]] [],T.fn 68 [T.agg [i64 a.n,i64 a.p.o,T.sl 1 (ints a.p.s),i64 a.p.h,i64 a.p.c,i64 a.f,i64 b.n,i64 b.p.o,T.sl 1 (ints b.p.s),i64 b.p.h,i64 b.p.c,i64 b.f]] [],T.fn 69 [T.agg [i64 a.n,i64 a.p.o,T.sl 1 (ints a.p.s),i64 a.p.h,i64 a.p.c,i64 a.f,i64 b.n,i64 b.p.o,T.sl 1 (ints b.p.s),i64 b.p.h,i64 b.p.c,i64 b.f]] []]]}):=by kernel_rfl
theorem ahh (N:Nat) (a b:Rt):aH env N 30 0 3 (asq a b)=cl N 67 [T.agg [i64 a.n,i64 a.p.o,T.sl 1 (ints a.p.s),i64 a.p.h,i64 a.p.c,i64 a.f,i64 b.n,i64 b.p.o,T.sl 1 (ints b.p.s),i64 b.p.h,i64 b.p.c,i64 b.f]] fun r=>iT IntKind.i64 r fun a_1=>bif a_1 !=0 then aj.ok (Ex.ret,{tmps:=slots 38 [(4,PV.t r)],heap:=[]}) else aj.ok (Ex.norm,{tmps:=slots 38 [(26,PV.own 0),(27,PV.t (i64 7)),(28,PV.t (i64 5))],heap:=[ah.row 97 1 [T.fn 63 [T.agg [i64 a.n,i64 a.p.o,T.sl 1 (ints a.p.s),i64 a.p.h,i64 a.p.c,i64 a.f,i64 b.n,i64 b.p.o,T.sl 1 (ints b.p.s),i64 b.p.h,i64 b.p.c,i64 b.f]] [],T.fn 64 [T.agg [i64 a.n,i64 a.p.o,T.sl 1 (ints a.p.s),i64 a.p.h,i64 a.p.c,i64 a.f,i64 b.n,i64 b.p.o,T.sl 1 (ints b.p.s),i64 b.p.h,i64 b.p.c,i64 b.f]] [],T.fn 65 [T.agg [i64 a.n,i64 a.p.o,T.sl 1 (ints a.p.s),i64 a.p.h,i64 a.p.c,i64 a.f,i64 b.n,i64 b.p.o,T.sl 1 (ints b.p.s),i64 b.p.h,i64 b.p.c,i64 b.f]] [],T.fn 66 [T.agg [i64 a.n,i64 a.p.o,T.sl 1 (ints a.p.s),i64 a.p.h,i64 a.p.c,i64 a.f,i64 b.n,i64 b.p.o,T.sl 1 (ints b.p.s),i64 b.p.h,i64 b.p.c,i64 b.f]] [],T.fn 67 [T.agg [i64 a.n,i64 a.p.o,T.sl 1 (ints a.p.s),i64 a.p.h,i64 a.p.c,i64 a.f,i64 b.n,i64 b.p.o,T.sl 1 (ints b.p.s),i64 b.p.h,i64 b.p.c,i64 b.f]] [],T.fn 68 [T.agg [i64 a.n,i64 a.p.o,T.sl 1 (ints a.p.s),i64 a.p.h,i64 a.p.c,i64 a.f,i64 b.n,i64 b.p.o,T.sl 1 (ints b.p.s),i64 b.p.h,i64 b.p.c,i64 b.f]] [],T.fn 69 [T.agg [i64 a.n,i64 a.p.o,T.sl 1 (ints a.p.s),i64 a.p.h,i64 a.p.c,i64 a.f,i64 b.n,i64 b.p.o,T.sl 1 (ints b.p.s),i64 b.p.h,i64 b.p.c,i64 b.f]] []]]}):=by kernel_rfl
theorem ahi (N:Nat) (a b:Rt):aH env N 30 0 3 (asr a b)=cl N 68 [T.agg [i64 a.n,i64 a.p.o,T.sl 1 (ints a.p.s),i64 a.p.h,i64 a.p.c,i64 a.f,i64 b.n,i64 b.p.o,T.sl 1 (ints b.p.s),i64 b.p.h,i64 b.p.c,i64 b.f]] fun r=>iT IntKind.i64 r fun a_1=>bif a_1 !=0 then aj.ok (Ex.ret,{tmps:=slots 38 [(4,PV.t r)],heap:=[]}) else aj.ok (Ex.norm,{tmps:=slots 38 [(26,PV.own 0),(27,PV.t (i64 7)),(28,PV.t (i64 6))],heap:=[ah.row 97 1 [T.fn 63 [T.agg [i64 a.n,i64 a.p.o,T.sl 1 (ints a.p.s),i64 a.p.h,i64 a.p.c,i64 a.f,i64 b.n,i64 b.p.o,T.sl 1 (ints b.p.s),i64 b.p.h,i64 b.p.c,i64 b.f]] [],T.fn 64 [T.agg [i64 a.n,i64 a.p.o,T.sl 1 (ints a.p.s),i64 a.p.h,i64 a.p.c,i64 a.f,i64 b.n,i64 b.p.o,T.sl 1 (ints b.p.s),i64 b.p.h,i64 b.p.c,i64 b.f]] [],T.fn 65 [T.agg [i64 a.n,i64 a.p.o,T.sl 1 (ints a.p.s),i64 a.p.h,i64 a.p.c,i64 a.f,i64 b.n,i64 b.p.o,T.sl 1 (ints b.p.s),i64 b.p.h,i64 b.p.c,i64 b.f]] [],T.fn 66 [T.agg [i64 a.n,i64 a.p.o,T.sl 1 (ints a.p.s),i64 a.p.h,i64 a.p.c,i64 a.f,i64 b.n,i64 b.p.o,T.sl 1 (ints b.p.s),i64 b.p.h,i64 b.p.c,i64 b.f]] [],T.fn 67 [T.agg [i64 a.n,i64 a.p.o,T.sl 1 (ints a.p.s),i64 a.p.h,i64 a.p.c,i64 a.f,i64 b.n,i64 b.p.o,T.sl 1 (ints b.p.s),i64 b.p.h,i64 b.p.c,i64 b.f]] [],T.fn 68 [T.agg [i64 a.n,i64 a.p.o,T.sl 1 (ints a.p.s),i64 a.p.h,i64 a.p.c,i64 a.f,i64 b.n,i64 b.p.o,T.sl 1 (ints b.p.s),i64 b.p.h,i64 b.p.c,i64 b.f]] [],T.fn 69 [T.agg [i64 a.n,i64 a.p.o,T.sl 1 (ints a.p.s),i64 a.p.h,i64 a.p.c,i64 a.f,i64 b.n,i64 b.p.o,T.sl 1 (ints b.p.s),i64 b.p.h,i64 b.p.c,i64 b.f]] []]]}):=by kernel_rfl
theorem ahj (N:Nat) (a b:Rt):aH env N 30 0 3 (asu a b)=cl N 69 [T.agg [i64 a.n,i64 a.p.o,T.sl 1 (ints a.p.s),i64 a.p.h,i64 a.p.c,i64 a.f,i64 b.n,i64 b.p.o,T.sl 1 (ints b.p.s),i64 b.p.h,i64 b.p.c,i64 b.f]] fun r=>iT IntKind.i64 r fun a_1=>bif a_1 !=0 then aj.ok (Ex.ret,{tmps:=slots 38 [(4,PV.t r)],heap:=[]}) else aj.ok (Ex.norm,{tmps:=slots 38 [(26,PV.own 0),(27,PV.t (i64 7)),(28,PV.t (i64 7))],heap:=[ah.row 97 1 [T.fn 63 [T.agg [i64 a.n,i64 a.p.o,T.sl 1 (ints a.p.s),i64 a.p.h,i64 a.p.c,i64 a.f,i64 b.n,i64 b.p.o,T.sl 1 (ints b.p.s),i64 b.p.h,i64 b.p.c,i64 b.f]] [],T.fn 64 [T.agg [i64 a.n,i64 a.p.o,T.sl 1 (ints a.p.s),i64 a.p.h,i64 a.p.c,i64 a.f,i64 b.n,i64 b.p.o,T.sl 1 (ints b.p.s),i64 b.p.h,i64 b.p.c,i64 b.f]] [],T.fn 65 [T.agg [i64 a.n,i64 a.p.o,T.sl 1 (ints a.p.s),i64 a.p.h,i64 a.p.c,i64 a.f,i64 b.n,i64 b.p.o,T.sl 1 (ints b.p.s),i64 b.p.h,i64 b.p.c,i64 b.f]] [],T.fn 66 [T.agg [i64 a.n,i64 a.p.o,T.sl 1 (ints a.p.s),i64 a.p.h,i64 a.p.c,i64 a.f,i64 b.n,i64 b.p.o,T.sl 1 (ints b.p.s),i64 b.p.h,i64 b.p.c,i64 b.f]] [],T.fn 67 [T.agg [i64 a.n,i64 a.p.o,T.sl 1 (ints a.p.s),i64 a.p.h,i64 a.p.c,i64 a.f,i64 b.n,i64 b.p.o,T.sl 1 (ints b.p.s),i64 b.p.h,i64 b.p.c,i64 b.f]] [],T.fn 68 [T.agg [i64 a.n,i64 a.p.o,T.sl 1 (ints a.p.s),i64 a.p.h,i64 a.p.c,i64 a.f,i64 b.n,i64 b.p.o,T.sl 1 (ints b.p.s),i64 b.p.h,i64 b.p.c,i64 b.f]] [],T.fn 69 [T.agg [i64 a.n,i64 a.p.o,T.sl 1 (ints a.p.s),i64 a.p.h,i64 a.p.c,i64 a.f,i64 b.n,i64 b.p.o,T.sl 1 (ints b.p.s),i64 b.p.h,i64 b.p.c,i64 b.f]] []]]}):=by kernel_rfl
theorem ahk (N:Nat) (a b:Rt):aH env N 30 0 3 (asv a b)=aj.ok (Ex.exit 0,{tmps:=slots 38 [],heap:=[]}):=by kernel_rfl
theorem ac4 (N:Nat) (n:Int):aS env N 30 0 3 (aY env 30) (.ret) (⟨slots 38 [(4,.t (i64 n))],[]⟩)=rI n:=by kernel_rfl
theorem WV (N:Nat):aS env N 30 0 3 (aY env 30) (.exit 0) (⟨slots 38 [],[]⟩)=rI 0:=by kernel_rfl
theorem q63 (N:Nat) (a b:Rt):ak env (N+1) 63 [xM a b]=W [xM a b] (cl N 96 [i64 b.n,i64 a.n] fun x=>aj.ok x):=by kernel_rfl
theorem q64 (N:Nat) (a b:Rt):ak env (N+1) 64 [xM a b]=W [xM a b] (cl N 96 [i64 (↑(ints a.p.s).length:Int),i64 (↑(ints b.p.s).length:Int)] fun x=>aj.ok x):=by kernel_rfl
theorem q65 (N:Nat) (a b:Rt):ak env (N+1) 65 [xM a b]=W [xM a b] (cl N 96 [i64 a.p.o,i64 b.p.o] fun x=>aj.ok x):=by kernel_rfl
theorem q66 (N:Nat) (a b:Rt):ak env (N+1) 66 [xM a b]=W [xM a b] (cl N 97 [T.sl 1 (ints a.p.s),T.sl 1 (ints b.p.s)] fun x=>aj.ok x):=by kernel_rfl
theorem q67 (N:Nat) (a b:Rt):ak env (N+1) 67 [xM a b]=W [xM a b] (cl N 96 [i64 a.p.h,i64 b.p.h] fun x=>aj.ok x):=by kernel_rfl
theorem q68 (N:Nat) (a b:Rt):ak env (N+1) 68 [xM a b]=W [xM a b] (cl N 96 [i64 a.p.c,i64 b.p.c] fun x=>aj.ok x):=by kernel_rfl
theorem q69 (N:Nat) (a b:Rt):ak env (N+1) 69 [xM a b]=W [xM a b] (cl N 96 [i64 a.f,i64 b.f] fun x=>aj.ok x):=by kernel_rfl
end
section
open Go.RowKit Go.Proofs
theorem Kt {B:St→aj (Ex×St)} {R:Int→St} {X:St} {id:Nat} {S:Nat→St}:∀ (vs:List Int) (k n:Nat),(∀ j v,vs[j]? =some v→B (S (k+j))=if v=0 then .ok (.norm,S (k+j+1)) else .ok (.ret,R v))→B (S (k+vs.length))= .ok (.exit id,X)→vs.length < n→
 bH B n (S k)=if wM vs=0 then .ok (.exit id,X) else .ok (.ret,R (wM vs))
 | [],k,n,h,hx,hn=>by
  obtain⟨n,rfl⟩:∃ m,n=m+1:=⟨n - 1,by omega⟩
  simp only[wM,if_true]
  exact eH hx
 |v::vs,k,n,h,hx,hn=>by
  simp only[List.length_cons] at hn
  obtain⟨n,rfl⟩:∃ m,n=m+1:=⟨n - 1,by omega⟩
  have h0:=h 0 v rfl
  simp only[Nat.add_zero] at h0
  by_cases hv:v=0
  · rw[if_pos hv] at h0
    rw[aW h0,Kt vs (k+1) n (fun j u hu=>by have:=h (j+1) u (by simpa using hu); rw[show k+1+j=k+(j+1) by omega]; exact this) (by rw[show k+1+vs.length=k+(v::vs).length by simp; omega]; exact hx) (by omega)]
    simp only[wM,hv,if_true]
  · rw[if_neg hv] at h0
    rw[eF h0]
    simp only[wM,hv,if_false]
theorem Pz {α:Type}:∀ (l:List (List α)) (r:List α),l.foldl (fun r a=>r++a) r=r++l.flatten
 | [],r=>by simp
 |a::l,r=>by rw[List.foldl_cons,Pz l]; simp
theorem PD:∀ (l:List (List Int)) (n:Nat),l.foldl (fun n a=>n+a.length) n=n+l.flatten.length
 | [],n=>by simp
 |a::l,n=>by rw[List.foldl_cons,PD l]; simp; omega
theorem Bz {α:Type} {l:List (List α)} {j:Nat} {a:List α} (h:l[j]? =some a):(l.take j).flatten.length+a.length≤l.flatten.length:=by
 have h1:=(List.getElem?_eq_some_iff.1 h)
 have:l.flatten.length=(l.take (j+1)).flatten.length+(l.drop (j+1)).flatten.length:=by
  rw[←List.length_append,←List.flatten_append,List.take_append_drop]
 rw[this,List.take_succ_eq_append_getElem h1.1,List.flatten_append,List.length_append,h1.2]
 simp
theorem Ho {α:Type} {l:List (List α)} {j:Nat} {a:List α} (h:l[j]? =some a):(l.take (j+1)).flatten=(l.take j).flatten++a:=by
 have h1:=(List.getElem?_eq_some_iff.1 h)
 rw[List.take_succ_eq_append_getElem h1.1,List.flatten_append,h1.2]
 simp
variable [Lv]
theorem yE {M:Nat} {a b:Int} (hM:1≤M) (ha:aT a=true) (hb:aT b=true):ak env (M+1) 96 [i64 a,i64 b]= .ok (i64 (cZ a b)):=by
 obtain⟨m,rfl⟩:=dL hM
 have nn:∀ {a:Int},aT a=true→ak env (m+1) 132 [i64 a]= .ok (.bool false):=fun {a} h=>by rw[aqW,aZ (gQ (bg h)),bne_self_eq_false]
 rw[q96,aZ (dN (bg ha) (bg hb)),aF (nn ha),aF (nn hb)]
 simp only[jV,cond_false]
 unfold cZ
 by_cases h:a < b
 · rw[decide_eq_true h,if_pos h]; rfl
 · rw[decide_eq_false h,if_neg h]
   by_cases h2:b < a
   · rw[decide_eq_true (show a > b from h2),if_pos h2]; rfl
   · rw[decide_eq_false (show ¬ a > b from h2),if_neg h2]; rfl
theorem ak8 (a b:Int):aT (cZ a b)=true:=by
 unfold cZ
 split
 · rfl
 · split<;>rfl
theorem alO {M:Nat} {l m:List Int} (hM:big+2≤M) (hl:bZ okI l) (hm:bZ okI m):ak env (M+1) 97 [.sl 1 (ints l),.sl 1 (ints m)]= .ok (i64 (cmpL l m)):=by
 rw[q97,aZ (dN (qO hl) (qO hm))]
 have hbl:=hl.1
 have hbm:=hm.1
 have main:∀ (r:List Int) (i n:Nat),l.drop i=r→i≤l.length→r.length < n→
  (bH (aH env M 97 0 2) n (sCm l m i)).bind (fun p=>aS env M 97 0 2 (aY env 97) p.1 p.2)=rI (cmpL r (m.drop i)):=by
  intro r
  induction r with
  |nil=>
   intro i n hd hi hn
   obtain⟨n,rfl⟩:∃ m,n=m+1:=⟨n - 1,by omega⟩
   have hil:i=l.length:=by have:=congrArg List.length hd; simp at this; omega
   subst hil
   have hb:aH env M 97 0 2 (sCm l m (l.length:Int))= .ok (.exit 0,⟨slots 36 [(0,.t (.sl 1 (ints l))),(1,.t (.sl 1 (ints m)))],[]⟩):=by
    rw[ajF,decide_eq_false (by omega)]; rfl
   rw[eH hb]
   refine(Xw M l m).trans ?_
   rw[aX,aX,List.length_map,List.length_map]
   by_cases h:l.length < m.length
   · rw[decide_eq_true (by omega)]
     cases hdm:m.drop l.length with
     |nil=>have:=congrArg List.length hdm; simp at this; omega
     |cons=>rfl
   · rw[decide_eq_false (by omega),List.drop_eq_nil_of_le (by omega)]; rfl
  |cons x r ih=>
   intro i n hd hi hn
   simp only[List.length_cons] at hn
   obtain⟨n,rfl⟩:∃ m,n=m+1:=⟨n - 1,by omega⟩
   have hil:i < l.length:=by have:=congrArg List.length hd; simp at this; omega
   have hx:l[i]? =some x:=by have:=congrArg (fun z=>z[0]?) hd; simpa using this
   have hd':l.drop (i+1)=r:=by rw[←List.drop_drop,hd]; rfl
   have hb:=ajF M l m i
   rw[decide_eq_true (by omega)] at hb
   simp only[cond_true] at hb
   rw[aA (jm hx),aX,List.length_map] at hb
   by_cases him:i < m.length
   case neg=>
    rw[decide_eq_true (by omega)] at hb
    rw[List.drop_eq_nil_of_le (show m.length≤i by omega),eF hb]
    exact QC M 1
   have hy:m[i]? =some m[i]:=List.getElem?_eq_getElem him
   rw[decide_eq_false (by omega)] at hb
   simp only[cond_false] at hb
   rw[←aX,aA (jm hy)] at hb
   obtain⟨m',rfl⟩:=dL (show 1≤M by omega)
   rw[aF (yE (by omega) (hl.2 x (List.mem_of_getElem? hx)) (hm.2 _ (List.mem_of_getElem? hy)))] at hb
   simp only[bW] at hb
   rw[show m.drop i=m[i]::m.drop (i+1) from List.drop_eq_getElem_cons him]
   simp only[cmpL]
   by_cases hc:x=m[i]
   · rw[kS.2 hc,show((0:Int) !=0)=false from rfl,wrap_succ (show i≤big by omega)] at hb
     rw[if_pos hc,aW hb]
     exact ih (i+1) n hd' (by omega) (by omega)
   · rw[bne_iff_ne.2 (fun h=>hc (kS.1 h))] at hb
     rw[if_neg hc,eF hb]
     exact QC (m'+1) (cZ x m[i])
 have:=main l 0 M rfl (Nat.zero_le _) (by omega)
 rw[List.drop_zero] at this
 rw[show((ints l).length:Int)=(l.length:Int) by rw[aX,List.length_map]]
 exact this
theorem amG {a b:Rt} (ha:a.ok) (hb:b.ok):T.wfs [xM a b]=true:=by
 have h1:=ha.wf; have h2:=hb.wf
 simp only[Rt.t,T.wf,T.wfs,Bool.and_true,Bool.and_eq_true] at h1 h2
 simp[xM,T.wf,T.wfs,h1,h2]
def sRc (a b:Rt) (i:Nat):St:=⟨slots 38 [(26,.own 0),(27,.t (i64 7)),(28,.t (i64 i))],[.row 97 1 (NC a b)]⟩
set_option maxHeartbeats 4000000 in
theorem XP {M:Nat} {a b:Rt} (hM:big+4≤M) (ha:a.ok) (hb:b.ok):ak env (M+1) 30 [a.t,b.t]= .ok (i64 (iM a b)):=by
 obtain⟨m,rfl⟩:=dL (show 1≤M by omega)
 have hw:=amG ha hb
 have ni:∀ n:Nat,n≤big→aT (n:Int)=true:=fun n hn=>iE.2 (by have:=aQ; omega)
 have la:=rQ ha.p
 have lb:=rQ hb.p
 have m1:ak env (m+1) 63 [xM a b]= .ok (i64 (cZ b.n a.n)):=by
  obtain⟨m,rfl⟩:=dL (show 1≤m by omega)
  rw[q63,aZ hw,aF (yE (by omega) hb.n ha.n)]
 have m2:ak env (m+1) 64 [xM a b]= .ok (i64 (cZ a.p.s.length b.p.s.length)):=by
  obtain⟨m,rfl⟩:=dL (show 1≤m by omega)
  rw[q64,aZ hw,aX,aX,List.length_map,List.length_map,aF (yE (by omega) (ni _ la.1) (ni _ lb.1))]
 have m3:ak env (m+1) 65 [xM a b]= .ok (i64 (cZ a.p.o b.p.o)):=by
  obtain⟨m,rfl⟩:=dL (show 1≤m by omega)
  rw[q65,aZ hw,aF (yE (by omega) ha.p.o hb.p.o)]
 have m4:ak env (m+1) 66 [xM a b]= .ok (i64 (cmpL a.p.s b.p.s)):=by
  obtain⟨m,rfl⟩:=dL (show 1≤m by omega)
  rw[q66,aZ hw,aF (alO (by omega) la lb)]
 have m5:ak env (m+1) 67 [xM a b]= .ok (i64 (cZ a.p.h b.p.h)):=by
  obtain⟨m,rfl⟩:=dL (show 1≤m by omega)
  rw[q67,aZ hw,aF (yE (by omega) ha.p.h hb.p.h)]
 have m6:ak env (m+1) 68 [xM a b]= .ok (i64 (cZ a.p.c b.p.c)):=by
  obtain⟨m,rfl⟩:=dL (show 1≤m by omega)
  rw[q68,aZ hw,aF (yE (by omega) ha.p.c hb.p.c)]
 have m7:ak env (m+1) 69 [xM a b]= .ok (i64 (cZ a.f b.f)):=by
  obtain⟨m,rfl⟩:=dL (show 1≤m by omega)
  rw[q69,aZ hw,aF (yE (by omega) ha.f hb.f)]
 have rnd:∀ {f:FuncId} {ts:List T} {v:Int} {S:St},ak env (m+1) f ts= .ok (i64 v)→
  (cl (m+1) f ts fun r=>iT .i64 r fun a=>bif a !=0 then(.ok (.ret,⟨slots 38 [(4,.t r)],[]⟩):aj (Ex×St)) else .ok (.norm,S))=if v=0 then .ok (.norm,S) else .ok (.ret,⟨slots 38 [(4,.t (i64 v))],[]⟩):=fun {f ts v S} h=>by
  rw[aF h]
  simp only[bW]
  by_cases hv:v=0
  · rw[if_pos hv,hv]; rfl
  · rw[if_neg hv,bne_iff_ne.2 hv]; rfl
 rw[q30,aZ (dN ha.wf hb.wf)]
 refine Eq.trans (show _=bC env (m+1) 30 3 (sRc a b 0) from rfl) ?_
 have it:=Kt (B:=aH env (m+1) 30 0 3) (R:=fun v=>⟨slots 38 [(4,.t (i64 v))],[]⟩) (X:=⟨slots 38 [],[]⟩) (id:=0) (S:=sRc a b)
  [cZ b.n a.n,cZ a.p.s.length b.p.s.length,cZ a.p.o b.p.o,cmpL a.p.s b.p.s,cZ a.p.h b.p.h,cZ a.p.c b.p.c,cZ a.f b.f] 0 (m+1) (fun j v hj=>?_) (ahk (m+1) a b) (show 7 < m+1 by have:=aQ; omega)
 · unfold iM
   generalize wM [cZ b.n a.n,cZ a.p.s.length b.p.s.length,cZ a.p.o b.p.o,cmpL a.p.s b.p.s,cZ a.p.h b.p.h,cZ a.p.c b.p.c,cZ a.f b.f]=v at it ⊢
   by_cases hv:v=0
   · rw[if_pos hv] at it
     rw[hv]
     exact(aU it).trans (WV (m+1))
   · rw[if_neg hv] at it
     exact(aU it).trans (ac4 (m+1) v)
 · have hj7:j < 7:=(List.getElem?_eq_some_iff.1 hj).1
   rw[Nat.zero_add]
   have hc:j=0∨j=1∨j=2∨j=3∨j=4∨j=5∨j=6:=by omega
   clear hj7
   rcases hc with rfl|rfl|rfl|rfl|rfl|rfl|rfl
   all_goals simp only[List.getElem?_cons_zero,List.getElem?_cons_succ,Option.some.injEq] at hj; subst hj
   · exact(an9 (m+1) a b).trans (rnd (S:=sRc a b 1) m1)
   · exact(ahe (m+1) a b).trans (rnd (S:=sRc a b 2) m2)
   · exact(ahf (m+1) a b).trans (rnd (S:=sRc a b 3) m3)
   · exact(ahg (m+1) a b).trans (rnd (S:=sRc a b 4) m4)
   · exact(ahh (m+1) a b).trans (rnd (S:=sRc a b 5) m5)
   · exact(ahi (m+1) a b).trans (rnd (S:=sRc a b 6) m6)
   · exact(ahj (m+1) a b).trans (rnd (S:=sRc a b 7) m7)
theorem Em {h:Int} (hh:aT h=true):(uI h).ok:=⟨rfl,⟨rfl,Nat.zero_le _,fun _ h=>(by cases h),hh,rfl⟩,rfl⟩
theorem XO {M:Nat} {n:Int} (h:aT n=true):ak env (M+1) 28 [i64 n]= .ok (uI n).t:=by
 rw[q28,aZ (gQ (bg h))]; rfl
theorem XM {M:Nat} {a b:Rt} (hM:big+5≤M) (ha:a.ok) (hb:b.ok):ak env (M+1) 27 [a.t,b.t]= .ok (.bool (iM a b==0)):=by
 obtain⟨m,rfl⟩:=dL (show 1≤M by omega)
 rw[q27,aZ (dN ha.wf hb.wf),nI (XP (by omega) ha hb)]
theorem ahz {M:Nat} {r:Rt} (hM:big+6≤M) (h:r.ok):ak env (M+1) 114 [r.t]= .ok (.bool (nK r)):=by
 obtain⟨m,rfl⟩:=dL (show 1≤M by omega)
 have ho:=XO (M:=m) h.p.h
 rw[aqN,aZ (gQ h.wf),bD (QW (by omega) h.p)]
 unfold nK
 cases gU r.p with
 |false=>rfl
 |true=>
 have hl:((ints r.p.s).length:Int)=(r.p.s.length:Int):=by rw[aX,List.length_map]
 rw[hl]
 by_cases h1:r.p.s.length≤32
 case neg=>rw[decide_eq_true (show(r.p.s.length:Int) > 32 by omega),decide_eq_false h1]; rfl
 rw[decide_eq_false (show ¬ (r.p.s.length:Int) > 32 by omega),decide_eq_true h1]
 simp only[Bool.not_true,cond_false,Bool.true_and]
 by_cases h2:r.f= -1
 · rw[beq_iff_eq.2 h2,if_pos h2]
   simp only[cond_true]
   rw[aF ho,aF (XM (by omega) h (Em h.p.h))]
 · rw[beq_eq_false_iff_ne.2 h2,if_neg h2]
   simp only[cond_false,jC]
theorem ahB {M:Nat} {a b c:Int} (hM:1≤M) (ha:aT a=true) (hb:aT b=true) (hc:aT c=true):ak env (M+1) 120 [i64 a,i64 b,i64 c]= .ok (.au [i64 ((kL a b c).getD 0),.bool (kL a b c).isSome]):=by
 obtain⟨m,rfl⟩:=dL hM
 have ho:=aaz (M:=m) hc hb
 rw[aqQ,aZ (BP (bg ha) (bg hb) (bg hc))]
 unfold kL
 by_cases h1:a=1
 · rw[beq_iff_eq.2 h1,if_pos h1]; simp only[cond_true]; rw[aF ho]; rfl
 rw[beq_eq_false_iff_ne.2 h1,if_neg h1]; simp only[cond_false]
 by_cases h2:a=2
 · rw[beq_iff_eq.2 h2,if_pos h2]; simp only[cond_true]
   by_cases he:c=0
   · rw[beq_iff_eq.2 he,if_pos he]; simp only[cond_true]; rw[aF ho]; rfl
   · rw[beq_eq_false_iff_ne.2 he,if_neg he,beq_eq_false_iff_ne.2 (show a≠3 by omega)]; rfl
 rw[beq_eq_false_iff_ne.2 h2,if_neg h2]; simp only[cond_false]
 by_cases h3:a=3
 · rw[beq_iff_eq.2 h3,if_pos h3]; simp only[cond_true]
   by_cases he:c=0
   · rw[beq_iff_eq.2 he,if_pos he]; rfl
   · rw[beq_eq_false_iff_ne.2 he,if_neg he]; rfl
 · rw[beq_eq_false_iff_ne.2 h3,if_neg h3]; rfl
theorem ahC {M:Nat} {l:List (List Int)} (hM:l.length+2≤M) (hl:bZ (bZ okI) l) (hs:l.flatten.length*8≤big):ak env (M+1) 122 [.sl 1 (l.map fun a=> .sl 1 (ints a))]= .ok (.sl 1 (ints l.flatten)):=by
 have hb:=aQ
 have h1:=hl.1
 have hw:(T.sl 1 (l.map fun a=>T.sl 1 (ints a))).wf=true:=dG (f:=fun a=>T.sl 1 (ints a)) (p:=bZ okI) (fun x hx=>qO hx) hl
 rw[aqR,aZ (gQ hw)]
 have i1:=lW (B:=aH env M 122 0 3) (S:=fun(n:Nat) i=>sCc l n i) (X:=fun n=>⟨slots 36 [(0,PV.t (T.sl 1 (List.map (fun a=>T.sl 1 (ints a)) l))),(3,PV.t (i64 n))],[]⟩) (id:=0)
  (fun n j=>n=(l.take j).flatten.length) (fun n (a:List Int)=>n+a.length) l (n:=M) 0 (by omega) (fun n j a hj hI=>by
   have hjl:=(List.getElem?_eq_some_iff.1 hj).1
   have hf:=Bz hj
   rw[←hI] at hf
   refine⟨?_,?_⟩
   · show aH env M 122 0 3 (sCc l n j)=_
     rw[ad7,decide_eq_true (by omega)]
     simp only[cond_true]
     rw[aA (aC (f:=fun a=>T.sl 1 (ints a)) hj)]
     have e:gY (T.sl 1 (ints a))=fun(K:Int→aj (Ex×St))=>K (a.length:Int):=by funext K; show K ((ints a).length:Int)=_; rw[aX,List.length_map]
     rw[e]
     simp only[]
     rw[show((n:Int)+(a.length:Int))=((n+a.length:Nat):Int) by omega,EX (by omega),decide_eq_false (by omega),wrap_succ (show j≤big by omega)]
     rfl
   · rw[Ho hj,List.length_append,hI]) (fun n hI=>by
   show aH env M 122 0 3 (sCc l n l.length)=_
   rw[ad7,decide_eq_false (by omega)]; rfl) rfl
 have e1:=i1.1
 rw[PD,Nat.zero_add] at e1
 rw[show((List.map (fun a=>T.sl 1 (ints a)) l).length:Int)=(l.length:Int) by rw[List.length_map]]
 refine(aU e1).trans ?_
 refine(Td M l _).trans ?_
 rw[decide_eq_true (show(0:Int)≤(l.flatten.length:Int) by omega),decide_eq_true (show(0+(l.flatten.length:Int).toNat)*8≤140737488355328 by rw[Int.toNat_natCast]; omega)]
 simp only[Bool.and_self,cond_true,aj.bind_ok]
 have i2:=lW (B:=aH env M 122 0 11) (S:=fun(r:List Int) i=>agI l r i) (X:=fun r=>⟨slots 36 [(6,.own 0)],[.row 3 1 (ints r)]⟩) (id:=2)
  (fun r j=>r=(l.take j).flatten) (fun r (a:List Int)=>r++a) l (n:=M) [] (by omega) (fun r j a hj hI=>by
   have hjl:=(List.getElem?_eq_some_iff.1 hj).1
   have hf:=Bz hj
   rw[←hI] at hf
   refine⟨?_,?_⟩
   · show aH env M 122 0 11 (agI l r j)=_
     rw[aai,decide_eq_true (by omega)]
     simp only[cond_true]
     rw[aA (aC (f:=fun a=>T.sl 1 (ints a)) hj)]
     have e:∀ K:List T→aj (Ex×St),qW 1 (T.sl 1 (ints a)) K=K (ints a):=fun K=>rfl
     simp only[e]
     rw[wrap_succ (show j≤big by omega),decide_eq_true (show((ints r).length+(ints a).length)*8≤140737488355328 by rw[aX,aX,List.length_map,List.length_map]; omega),aI]
     rw[show ints r++ints a=ints (r++a) by rw[aX,aX,aX,List.map_append]]
     rfl
   · rw[Ho hj,hI]) (fun r hI=>by
   show aH env M 122 0 11 (agI l r l.length)=_
   rw[aai,decide_eq_false (by omega)]; rfl) rfl
 have e2:=i2.1
 rw[Pz,List.nil_append] at e2
 rw[show((List.map (fun a=>T.sl 1 (ints a)) l).length:Int)=(l.length:Int) by rw[List.length_map]]
 refine(aU e2).trans ?_
 exact OD M l _
end
section
open Go.RowKit Go.Proofs
def O5 (e:En):Bool:= !dA e.x|| !gU e.p
def orP (u v:Int):Int:=bif u !=0 then u else v
def kC (x y:Px):Int:=orP (cZ x.a y.a) (cZ x.n y.n)
def Og (l:List En) (i:Nat):Bool:=match l[i - 1]?,l[i]? with|some a,some b=>decide (kC a.x b.x≥0)|_,_=>false
def uO (l:List En):Bool:=(dI (Og l) 1 (l.length - 1)).isNone
def sS (l:List En):Bool:= !(l.any O5)&&uO l
def known (l:List En):List En:=bif sS l then l else[]
theorem lX {l:List En} {e:En} (h:e∈known l):e∈l:=by
 unfold known at h; cases ht:sS l<;>simp[ht] at h; exact h
theorem GR (l:List En):(known l).length≤l.length:=by
 unfold known; cases sS l<;>simp
def RJ (c:Nat→Bool):Nat→Nat→Nat→Nat
 |0,i,_=>i
 |k+1,i,j=>bif decide (i < j) then(bif c ((i+j) / 2) then RJ c k ((i+j) / 2+1) j else RJ c k i ((i+j) / 2)) else i
def XZ (l:List En) (x:Px) (i:Nat):Bool:=match l[i]? with|some e=>decide (kC e.x x < 0)|none=>false
def fM (l:List En) (x:Px):Nat:=RJ (XZ l x) l.length 0 l.length
def mg (l:List En) (x:Px):Bool:=match l[fM l x]? with|some e=>kC e.x x==0|none=>false
theorem Hq {l:List En} {x:Px} (h:mg l x=true):fM l x < l.length:=by
 unfold mg at h
 cases hx:l[fM l x]? with
 |none=>simp[hx] at h
 |some e=>exact(List.getElem?_eq_some_iff.1 hx).1
theorem agr {i j:Nat} (hi:i≤big) (hj:j≤big):IntKind.i64.wrap (Int.fdiv (IntKind.u64.wrap (IntKind.i64.wrap ((i:Int)+(j:Int)))) 2)=(((i+j) / 2:Nat):Int):=by
 have hb:=aQ
 have h0:IntKind.i64.wrap ((i:Int)+(j:Int))=(i:Int)+(j:Int):=wrap64 (by omega)
 have h1:IntKind.u64.wrap ((i:Int)+(j:Int))=((i+j:Nat):Int):=by rw[IntKind.wrap_u64]; omega
 have h2:Int.fdiv ((i+j:Nat):Int) 2=(((i+j) / 2:Nat):Int):=by
  rw[Int.fdiv_eq_ediv_of_nonneg _ (by omega)]; omega
 rw[h0,h1,h2,wrap64 (by omega)]
def qZ (l:List En) (x:Px):List En:=bif mg l x then l.take (fM l x)++l.drop (fM l x+1) else l
def newE (p:Pa) (l:List En) (x:Px):List En:=bif dA x&&gU p then(bif mg l x then l.set (fM l x) ⟨x,p⟩ else l.take (fM l x)++ [⟨x,p⟩]++l.drop (fM l x)) else l
def yB (t:List En) (n:Nw):List En:=n.m.foldl (newE n.p) (n.g.foldl qZ (known t))
def atI (l:List En) (i:Nat):Bool:=match l[i]? with|some e=>decide ((e.p.s.length:Int) > 100)|none=>false
def apQ (l:List En):Bool:= !(l.any fun e=>decide ((e.p.s.length:Int) > 100))&&decide ((l.length:Int)≤40)
def avW (n:Nw):Bool:=decide ((n.g.length:Int)≤40)&&(decide ((n.m.length:Int)≤40)&&decide ((n.p.s.length:Int)≤300))
def Bv (x y:Px):Bool:=(x.a==y.a)&&((x.n==y.n)&&true)
theorem Px.ext' {x y:Px} (h:x.a=y.a) (h2:x.n=y.n):x=y:=by cases x; cases y; simp_all
theorem Pa.ext' {p q:Pa} (h:p.o=q.o) (h2:p.s=q.s) (h3:p.h=q.h) (h4:p.c=q.c):p=q:=by cases p; cases q; simp_all
theorem En.ext' {p q:En} (h:p.x=q.x) (h2:p.p=q.p):p=q:=by cases p; cases q; simp_all
def vT (x y:Px):Prop:=x.a < y.a∨(x.a=y.a∧x.n < y.n)
theorem fZ (x:Px):¬ vT x x:=fun h=>by rcases h with h|⟨_,h⟩<;>omega
theorem yI {x y z:Px} (h:vT x y) (h2:vT y z):vT x z:=by
 unfold vT at*; omega
theorem GV {x y:Px} (h:vT x y):¬ vT y x:=by unfold vT at*; omega
theorem Ld (a b:Int):(a < b∧cZ a b= -1)∨(a > b∧cZ a b=1)∨(a=b∧cZ a b=0):=by
 unfold cZ
 split
 · exact .inl ⟨by assumption,rfl⟩
 · split
   · exact .inr (.inl ⟨by assumption,rfl⟩)
   · exact .inr (.inr ⟨by omega,rfl⟩)
theorem sF (x y:Px):(vT x y∧kC x y= -1)∨(vT y x∧kC x y=1)∨(x=y∧kC x y=0):=by
 unfold kC orP
 rcases Ld x.a y.a with ⟨h,e⟩|⟨h,e⟩|⟨h,e⟩
 · exact .inl ⟨.inl h,by rw[e]; rfl⟩
 · exact .inr (.inl ⟨.inl h,by rw[e]; rfl⟩)
 · rw[e]
   rcases Ld x.n y.n with ⟨h',e'⟩|⟨h',e'⟩|⟨h',e'⟩
   · exact .inl ⟨.inr ⟨h,h'⟩,by rw[e']; rfl⟩
   · exact .inr (.inl ⟨.inr ⟨h.symm,h'⟩,by rw[e']; rfl⟩)
   · exact .inr (.inr ⟨Px.ext' h h',by rw[e']; rfl⟩)
theorem rM {x y:Px}:kC x y < 0↔vT x y:=by
 rcases sF x y with ⟨h,e⟩|⟨h,e⟩|⟨h,e⟩
 · exact⟨fun _=>h,fun _=>by omega⟩
 · exact⟨fun _=>by omega,fun h2=>absurd h2 (GV h)⟩
 · exact⟨fun _=>by omega,fun h2=>absurd (h ▸ h2) (fZ _)⟩
theorem QM {x y:Px}:kC x y≥0↔ ¬ vT x y:=by rw[←rM]; omega
theorem aaq {x y:Px}:(kC x y==0)=true↔x=y:=by
 rw[beq_iff_eq]
 rcases sF x y with ⟨h,e⟩|⟨h,e⟩|⟨h,e⟩
 · exact⟨fun _=>by omega,fun h2=>absurd (h2 ▸ h) (fZ _)⟩
 · exact⟨fun _=>by omega,fun h2=>absurd (h2 ▸ h) (fZ _)⟩
 · exact⟨fun _=>h,fun _=>e⟩
def mG (l:List En):Prop:=l.Pairwise fun a b=>vT a.x b.x
theorem yu {l:List En}:uO l=true↔mG l:=by
 unfold uO
 constructor
 · intro h
   have h':dI (Og l) 1 (l.length - 1)=none:=by simpa using h
   have hs:=iG h'
   unfold mG
   rw[List.pairwise_iff_getElem]
   have key:∀ (d i:Nat) (hi:i+d+1 < l.length),vT l[i].x l[i+d+1].x:=by
    intro d
    induction d with
    |zero=>
     intro i hi
     have:=hs (i+1) (by omega) (by omega)
     have g1:l[i+1 - 1]? =some l[i]:=by rw[show i+1 - 1=i by omega]; exact List.getElem?_eq_getElem (by omega)
     have g2:l[i+1]? =some l[i+1]:=List.getElem?_eq_getElem (by omega)
     simp only[Og,g1,g2,decide_eq_false_iff_not] at this
     rw[QM,Classical.not_not] at this
     exact this
    |succ d ih=>
     intro i hi
     have h1:=ih i (by omega)
     have h2:=ih (i+1) (by omega)
     have h3:=hs (i+d+1+1) (by omega) (by omega)
     have g1:l[i+d+1+1 - 1]? =some l[i+d+1]:=by rw[show i+d+1+1 - 1=i+d+1 by omega]; exact List.getElem?_eq_getElem (by omega)
     have g2:l[i+d+1+1]? =some l[i+d+1+1]:=List.getElem?_eq_getElem (by omega)
     simp only[Og,g1,g2,decide_eq_false_iff_not] at h3
     rw[QM,Classical.not_not] at h3
     exact yI h1 h3
   intro i j hi hj hij
   have:=key (j - i - 1) i (by omega)
   simpa only[show i+(j - i - 1)+1=j by omega] using this
 · intro h
   cases hk:dI (Og l) 1 (l.length - 1) with
   |none=>rfl
   |some j=>
    obtain⟨a,b,c⟩:=jB hk
    have g1:l[j - 1]? =some l[j - 1]:=List.getElem?_eq_getElem (by omega)
    have g2:l[j]? =some l[j]:=List.getElem?_eq_getElem (by omega)
    simp only[Og,g1,g2,decide_eq_true_eq] at c
    rw[QM] at c
    exact absurd (List.pairwise_iff_getElem.1 h (j - 1) j (by omega) (by omega) (by omega)) c
theorem UL {e:En}:O5 e=false↔dA e.x=true∧gU e.p=true:=by
 unfold O5; cases dA e.x<;>cases gU e.p<;>simp
theorem yO {l:List En}:sS l=true↔mG l∧∀ e∈l,dA e.x=true∧gU e.p=true:=by
 unfold sS
 rw[Bool.and_eq_true,yu,Bool.not_eq_true',List.any_eq_false]
 constructor
 · rintro⟨a,b⟩
   exact⟨b,fun e he=>UL.1 (by simpa using a e he)⟩
 · rintro⟨a,b⟩
   exact⟨fun e he=>by simp[UL.2 (b e he)],a⟩
theorem vW (l:List En):mG (known l):=by
 unfold known
 cases h:sS l with
 |true=>exact(yO.1 h).1
 |false=>exact List.Pairwise.nil
theorem afY {l:List En} (h:mG l):∀ {e e':En},e∈l→e'∈l→e.x=e'.x→e=e':=by
 induction l with
 |nil=>intro e e' h; cases h
 |cons a l ih=>
  obtain⟨ha,hl⟩:=List.pairwise_cons.1 h
  intro e e' h1 h2 hx
  rcases List.mem_cons.1 h1 with e1|e1<;>rcases List.mem_cons.1 h2 with e2|e2
  · rw[e1,e2]
  · subst e1; exact absurd (hx ▸ ha _ e2) (fZ _)
  · subst e2; exact absurd (hx ▸ ha _ e1) (fZ _)
  · exact ih hl e1 e2 hx
theorem Gw (c:Nat→Bool) (hc:∀ i j,i≤j→c j=true→c i=true):∀ (k i j:Nat),j - i≤k→i≤j→(∀ a,a < i→c a=true)→(∀ a,j≤a→c a=false)→(∀ a,a < RJ c k i j→c a=true)∧∀ a,RJ c k i j≤a→c a=false
 |0,i,j,h,hij,h1,h2=>⟨h1,fun a ha=>h2 a (by simp only[RJ] at ha; omega)⟩
 |k+1,i,j,h,hij,h1,h2=>by
  unfold RJ
  rcases Nat.lt_or_ge i j with h3|h3
  · rw[decide_eq_true h3,cond_true]
    cases hm:c ((i+j) / 2) with
    |true=>exact Gw c hc k _ j (by omega) (by omega) (fun a ha=>hc a _ (by omega) hm) h2
    |false=>
     refine Gw c hc k i _ (by omega) (by omega) h1 fun a ha=>?_
     cases hca:c a with
     |false=>rfl
     |true=>rw[hc _ _ ha hca] at hm; cases hm
  · rw[decide_eq_false (by omega),cond_false]
    exact⟨h1,fun a ha=>h2 a (by omega)⟩
theorem Iw {l:List En} (h:mG l) (x:Px):(∀ a,a < fM l x→XZ l x a=true)∧∀ a,fM l x≤a→XZ l x a=false:=by
 refine Gw _ (fun i j hij hj=>?_) _ _ _ (by omega) (by omega) (fun a ha=>by omega) fun a ha=>by simp[XZ,List.getElem?_eq_none ha]
 unfold XZ at hj ⊢
 cases hx:l[j]? with
 |none=>simp[hx] at hj
 |some e=>
  obtain⟨hlt,he⟩:=List.getElem?_eq_some_iff.1 hx
  have g:l[i]? =some l[i]:=List.getElem?_eq_getElem (by omega)
  simp only[hx,decide_eq_true_eq,rM] at hj
  simp only[g,decide_eq_true_eq,rM]
  rcases Nat.lt_or_ge i j with h1|h1
  · exact yI (List.pairwise_iff_getElem.1 h i j (by omega) hlt h1) (he ▸ hj)
  · have:i=j:=by omega
    subst this; exact he ▸ hj
theorem abh {l:List En} (h:mG l) (x:Px):∀ e∈l.take (fM l x),vT e.x x:=fun e he=>by
 obtain⟨i,hi⟩:=List.getElem?_of_mem he
 have hlt:=(List.getElem?_eq_some_iff.1 hi).1
 rw[List.length_take] at hlt
 rw[List.getElem?_take_of_lt (by omega)] at hi
 have:=(Iw h x).1 i (by omega)
 simp only[XZ,hi,decide_eq_true_eq,rM] at this
 exact this
theorem aar {l:List En} (h:mG l) (x:Px):∀ e∈l.drop (fM l x),¬ vT e.x x:=fun e he=>by
 obtain⟨i,hi⟩:=List.getElem?_of_mem he
 rw[List.getElem?_drop] at hi
 have:=(Iw h x).2 (fM l x+i) (by omega)
 simp only[XZ,hi,decide_eq_false_iff_not,rM] at this
 exact this
theorem uo {l:List En} {x:Px} (h:mg l x=true):∃ p,l=l.take (fM l x)++⟨x,p⟩::l.drop (fM l x+1):=by
 have hlt:=Hq h
 unfold mg at h
 have g:l[fM l x]? =some l[fM l x]:=List.getElem?_eq_getElem hlt
 simp only[g,aaq] at h
 refine⟨l[fM l x].p,?_⟩
 rw[show(⟨x,l[fM l x].p⟩:En)=l[fM l x] from En.ext' h.symm rfl,List.getElem_cons_drop,List.take_append_drop]
theorem adr {l:List En} (hr:mG l) {x:Px}:mg l x=true↔∃ e∈l,e.x=x:=by
 constructor
 · intro h
   obtain⟨p,hp⟩:=uo h
   exact⟨⟨x,p⟩,by rw[hp]; simp,rfl⟩
 · rintro⟨e,he,rfl⟩
   have hs:=List.take_append_drop (fM l e.x) l
   have hd:e∈l.drop (fM l e.x):=by
    rw[←hs] at he
    rcases List.mem_append.1 he with h|h
    · exact absurd (abh hr _ _ h) (fZ _)
    · exact h
   cases hdr:l.drop (fM l e.x) with
   |nil=>rw[hdr] at hd; cases hd
   |cons f r=>
    have g:l[fM l e.x]? =some f:=by
     have:=List.getElem?_drop (xs:=l) (i:=fM l e.x) (j:=0)
     rw[hdr] at this; simpa using this.symm
    unfold mg
    simp only[g,aaq]
    rw[hdr] at hd
    rcases List.mem_cons.1 hd with rfl|hd
    · rfl
    · have hrd:mG (f::r):=by rw[←hdr]; exact List.Pairwise.sublist (List.drop_sublist _ _) hr
      have:=(List.pairwise_cons.1 hrd).1 _ hd
      exact absurd this (aar hr _ f (by rw[hdr]; exact List.mem_cons_self))
theorem BG {l:List En} (hr:mG l) {x:Px} (h:mg l x=false):∀ e∈l,e.x≠x:=fun e he hx=>by
 rw[adr hr |>.2 ⟨e,he,hx⟩] at h; cases h
def Told (p:Pa) (m:List Px) (x:Px):Prop:=x∈m∧dA x=true∧gU p=true
theorem LH {t:List En} (h:sS t=true):known t=t:=by unfold known; rw[h]; rfl
theorem vH {x y:Px}:Bv x y=true↔x=y:=by
 unfold Bv
 constructor
 · intro h
   simp only[Bool.and_eq_true,beq_iff_eq] at h
   exact Px.ext' h.1 h.2.1
 · rintro rfl; simp
def akm (s s':List Int):Bool:=bif (s.length:Int) !=(s'.length:Int) then false else !((s.zip s').any fun p=>p.1 !=p.2)
def akn (p q:Pa):Bool:=bif p.o==q.o then bif p.h==q.h then bif p.c==q.c then akm p.s q.s else false else false else false
def abB (e f:En):Bool:=bif Bv e.x f.x then akn e.p f.p else false
def am5 (l l':List En):Bool:=bif (l.length:Int) !=(l'.length:Int) then false else !((l.zip l').any fun p=> !abB p.1 p.2)
def Pa.none:Pa:=⟨0,[],0,0⟩
def qo (l:List En) (x:Px):Option Pa:=((known l).find? fun e=>Bv e.x x).map (·.p)
theorem pq {l:List En} {x:Px} {p:Pa}:qo l x=some p↔(⟨x,p⟩:En)∈known l:=by
 unfold qo
 rw[Option.map_eq_some_iff]
 constructor
 · rintro⟨e,he,rfl⟩
   have h1:=List.find?_some he
   have h2:=List.mem_of_find?_eq_some he
   simp only[vH] at h1
   subst h1
   exact h2
 · intro h
   cases hf:(known l).find? fun e=>Bv e.x x with
   |none=>
    have:=List.find?_eq_none.1 hf _ h
    simp[vH.2 rfl] at this
   |some e=>
    have h1:=List.find?_some hf
    have h2:=List.mem_of_find?_eq_some hf
    simp only[vH] at h1
    exact⟨e,rfl,by rw[afY (vW l) h2 h h1]⟩
theorem get_none {l:List En} {x:Px}:qo l x=none↔∀ e∈known l,e.x≠x:=by
 cases h:qo l x with
 |none=>
  refine⟨fun _ e he hx=>?_,fun _=>rfl⟩
  subst hx
  have:=(pq (l:=l) (x:=e.x) (p:=e.p)).2 he
  rw[h] at this; cases this
 |some p=>exact⟨fun q=>(by cases q),fun q=>absurd rfl (q _ (pq.1 h))⟩
end
section
open Go.RowKit Go.Proofs
def gq (c:Cf) (t:List (List En)) (x:Px):List Rt:=if dF c then(if c.w.contains x then[uI c.d] else[])++(List.range (min t.length c.s.length)).filterMap fun(k:Nat)=>(t[k]?).bind fun l=>(qo l x).bind fun p=>wQ c (k:Int) x p else[]
def qA (x:Px):List Px→List Px
 | []=>[x]
 |y::l=>if kC x y < 0 then x::y::l else if kC x y=0 then y::l else y::qA x l
def iZ (c:Cf) (t:List (List En)):List Px:=c.w++(t.take c.s.length).flatMap fun l=>l.map En.x
def CV (c:Cf) (t:List (List En)):List Px:=(iZ c t).foldl (fun l x=>qA x l) []
def kK (c:Cf) (t:List (List En)) (x:Px):Option Ch:=(oO (gq c t x)).map (Ch.mk x)
def kH (c:Cf) (t:List (List En)):List Ch:=(CV c t).filterMap (kK c t)
def mW (l:List Ch) (x:Px):Option Rt:=(l.find? fun c=>c.x==x).map Ch.r
theorem Ee {x y:Px}:∀ {l:List Px},y∈qA x l↔y=x∨y∈l
 | []=>by simp[qA]
 |z::l=>by
  simp only[qA]
  split
  · simp
  · split
    · rename_i h1 h2
      have:x=z:=by
       rcases sF x z with ⟨_,h⟩|⟨_,h⟩|⟨h,_⟩
       · omega
       · omega
       · exact h
      subst this
      simp
    · rw[List.mem_cons,Ee,List.mem_cons]
      constructor
      · rintro(h|h|h)
        · exact .inr (.inl h)
        · exact .inl h
        · exact .inr (.inr h)
      · rintro(h|h|h)
        · exact .inr (.inl h)
        · exact .inl h
        · exact .inr (.inr h)
theorem Md {x:Px}:∀ {l:List Px},l.Pairwise vT→(qA x l).Pairwise vT
 | [],_=>by simp[qA]
 |z::l,h=>by
  simp only[qA]
  obtain⟨h1,h2⟩:=List.pairwise_cons.1 h
  split
  · rename_i h3
    have h3:=rM.1 h3
    refine List.pairwise_cons.2 ⟨fun y hy=>?_,h⟩
    rcases List.mem_cons.1 hy with rfl|hy
    · exact h3
    · exact yI h3 (h1 y hy)
  · split
    · exact h
    · rename_i h3 h4
      refine List.pairwise_cons.2 ⟨fun y hy=>?_,Md h2⟩
      rcases Ee.1 hy with rfl|hy
      · rcases sF y z with ⟨_,h⟩|⟨h,_⟩|⟨_,h⟩
        · omega
        · exact h
        · omega
      · exact h1 y hy
theorem KF {y:Px}:∀ (m l:List Px),y∈m.foldl (fun l x=>qA x l) l↔y∈m∨y∈l
 | [],l=>by simp
 |x::m,l=>by
  rw[List.foldl_cons,KF m,Ee,List.mem_cons]
  constructor
  · rintro(h|h|h)
    · exact .inl (.inr h)
    · exact .inl (.inl h)
    · exact .inr h
  · rintro((h|h)|h)
    · exact .inr (.inl h)
    · exact .inl h
    · exact .inr (.inr h)
theorem Iz:∀ (m l:List Px),l.Pairwise vT→(m.foldl (fun l x=>qA x l) l).Pairwise vT
 | [],l,h=>h
 |x::m,l,h=>Iz m _ (Md h)
theorem mem_keys {c:Cf} {t:List (List En)} {x:Px}:x∈CV c t↔x∈iZ c t:=by
 unfold CV
 rw[KF]; simp
theorem V8 (c:Cf) (t:List (List En)):(CV c t).Pairwise vT:=Iz _ _ List.Pairwise.nil
theorem jY {c:Cf} {t:List (List En)} {x:Px} {e:Ch}:kK c t x=some e↔e.x=x∧oO (gq c t x)=some e.r:=by
 unfold kK
 rw[Option.map_eq_some_iff]
 constructor
 · rintro⟨r,h,rfl⟩; exact⟨rfl,h⟩
 · rintro⟨rfl,h⟩; exact⟨e.r,h,rfl⟩
def E5 (l:List Ch):Prop:=l.Pairwise fun a b=>vT a.x b.x
theorem sN (c:Cf) (t:List (List En)):E5 (kH c t):=by
 refine List.Pairwise.filterMap _ (fun a b h a' h1 b' h2=>?_) (V8 c t)
 rw[(jY.1 h1).1,(jY.1 h2).1]; exact h
theorem G9:∀ {l l':List Ch},E5 l→E5 l'→(∀ e,e∈l↔e∈l')→l=l'
 | [],[],_,_,_=>rfl
 | [],e::l,_,_,h=>absurd ((h e).2 List.mem_cons_self) (by simp)
 |e::l,[],_,_,h=>absurd ((h e).1 List.mem_cons_self) (by simp)
 |e::l,e'::l',h1,h2,h=>by
  obtain⟨a1,a2⟩:=List.pairwise_cons.1 h1
  obtain⟨b1,b2⟩:=List.pairwise_cons.1 h2
  have he:e=e':=by
   rcases List.mem_cons.1 ((h e).1 List.mem_cons_self) with h3|h3
   · exact h3
   · rcases List.mem_cons.1 ((h e').2 List.mem_cons_self) with h4|h4
     · exact h4.symm
     · exact absurd (a1 _ h4) (GV (b1 _ h3))
  subst he
  rw[G9 a2 b2 fun x=>?_]
  constructor
  · intro hx
    rcases List.mem_cons.1 ((h x).1 (List.mem_cons_of_mem _ hx)) with h3|h3
    · exact absurd (h3 ▸ a1 x hx) (fZ _)
    · exact h3
  · intro hx
    rcases List.mem_cons.1 ((h x).2 (List.mem_cons_of_mem _ hx)) with h3|h3
    · exact absurd (h3 ▸ b1 x hx) (fZ _)
    · exact h3
theorem nH {c:Cf} {t:List (List En)} {x:Px} {r:Rt}:r∈gq c t x↔dF c=true∧((x∈c.w∧r=uI c.d)∨∃ (k:Nat) (l:List En) (p:Pa),k < c.s.length∧t[k]? =some l∧qo l x=some p∧wQ c k x p=some r):=by
 unfold gq
 cases hc:dF c with
 |false=>simp
 |true=>
  simp only[if_true,true_and,List.mem_append,List.mem_filterMap,List.mem_range]
  constructor
  · rintro(h|⟨k,h1,h2⟩)
    · split at h
      · rename_i h3
        rw[List.mem_singleton] at h
        exact .inl ⟨List.contains_iff_mem.1 h3,h⟩
      · simp at h
    · rw[Option.bind_eq_some_iff] at h2
      obtain⟨l,h2,h3⟩:=h2
      rw[Option.bind_eq_some_iff] at h3
      obtain⟨p,h3,h4⟩:=h3
      exact .inr ⟨k,l,p,by omega,h2,h3,h4⟩
  · rintro(⟨h1,h2⟩|⟨k,l,p,h1,h2,h3,h4⟩)
    · rw[if_pos (List.contains_iff_mem.2 h1)]; exact .inl (by rw[h2]; simp)
    · have:=(List.getElem?_eq_some_iff.1 h2).1
      exact .inr ⟨k,by omega,by rw[h2,Option.bind_some,h3,Option.bind_some,h4]⟩
theorem MS {c:Cf} {t:List (List En)} {x:Px} {r:Rt} (h:r∈gq c t x):x∈iZ c t:=by
 unfold iZ
 rw[List.mem_append]
 rcases(nH.1 h).2 with ⟨h,_⟩|⟨k,l,p,h1,h2,h3,h4⟩
 · exact .inl h
 · refine .inr (List.mem_flatMap.2 ⟨l,?_,List.mem_map.2 ⟨⟨x,p⟩,lX (pq.1 h3),rfl⟩⟩)
   exact List.mem_of_getElem? (i:=k) (by rw[List.getElem?_take,if_pos h1]; exact h2)
theorem yV {c:Cf} {t:List (List En)} {e:Ch}:e∈kH c t↔oO (gq c t e.x)=some e.r:=by
 unfold kH
 rw[List.mem_filterMap]
 constructor
 · rintro⟨x,h1,h2⟩
   obtain⟨h3,h4⟩:=jY.1 h2
   subst h3; exact h4
 · intro h
   exact⟨e.x,mem_keys.2 (MS (kR h).1),jY.2 ⟨rfl,h⟩⟩
theorem GK {l:List Ch} (h:E5 l) {x:Px} {r:Rt}:mW l x=some r↔⟨x,r⟩∈l:=by
 unfold mW
 rw[Option.map_eq_some_iff]
 constructor
 · rintro⟨e,h1,h2⟩
   have h3:=List.find?_some h1
   have h4:=List.mem_of_find?_eq_some h1
   have h5:e.x=x:=by simpa using h3
   subst h2; subst h5; exact h4
 · intro hm
   cases hf:l.find? (fun c=>c.x==x) with
   |none=>exact absurd (List.find?_eq_none.1 hf _ hm) (by simp)
   |some e=>
    have h3:=List.find?_some hf
    have h4:=List.mem_of_find?_eq_some hf
    have h5:e.x=x:=by simpa using h3
    refine⟨e,rfl,?_⟩
    clear hf h3
    induction l with
    |nil=>cases hm
    |cons a l ih=>
     obtain⟨a1,a2⟩:=List.pairwise_cons.1 h
     rcases List.mem_cons.1 h4 with e1|e1<;>rcases List.mem_cons.1 hm with e2|e2
     · rw[e1,←e2]
     · have:=a1 _ e2; rw[←e1,h5] at this; exact absurd this (fZ _)
     · have:=a1 _ e1; rw[←e2,h5] at this; exact absurd this (fZ _)
     · exact ih a2 e2 e1
theorem Q5 {c:Cf} {t:List (List En)} {x:Px}:mW (kH c t) x=oO (gq c t x):=by
 refine Option.ext fun r=>?_
 rw[GK (sN c t),yV]
theorem LJ {c:Cf} {t:List (List En)} {vis:List Px} {ys:List Ch} (hv:∀ x,x∈vis↔x∈iZ c t) (hn:vis.Nodup) (hp:ys.Perm (vis.filterMap (kK c t))) (hs:ys.Pairwise fun a b=>¬ kC b.x a.x < 0):ys=kH c t:=by
 have hmem:∀ e,e∈ys↔e∈kH c t:=fun e=>by
  rw[hp.mem_iff,yV,List.mem_filterMap]
  constructor
  · rintro⟨x,h1,h2⟩
    obtain⟨h3,h4⟩:=jY.1 h2
    subst h3; exact h4
  · intro h
    exact⟨e.x,(hv _).2 (MS (kR h).1),jY.2 ⟨rfl,h⟩⟩
 have hd:(vis.filterMap (kK c t)).Pairwise fun a b=>a.x≠b.x:=by
  refine List.Pairwise.filterMap _ (fun a b h a' h1 b' h2=>?_) hn
  rw[(jY.1 h1).1,(jY.1 h2).1]; exact h
 have hd2:ys.Pairwise fun a b=>a.x≠b.x:=hp.symm.pairwise hd fun {a b} h=>Ne.symm h
 refine G9 ?_ (sN c t) hmem
 refine List.Pairwise.imp₂ (fun a b h1 h2=>?_) hs hd2
 rcases sF b.x a.x with ⟨_,h⟩|⟨h,_⟩|⟨h,_⟩
 · omega
 · exact h
 · exact absurd h.symm h2
end
section
open Go.RowKit Go.Proofs
variable [Lv]
def agS (l:List Sd) (f:T) (i:Int):St:=⟨slots 19 [(0,.t (.sl 4 (l.map Sd.t))),(1,.t f),(7,.t (i64 (l.map Sd.t).length)),(8,.t (i64 i))],[]⟩
theorem q87 (N:Nat) (l:List Sd) (f:T):ak env (N+1) 87 [.sl 4 (l.map Sd.t),f]=W [.sl 4 (l.map Sd.t),f] (bC env N 87 2 (agS l f 0)):=by kernel_rfl
theorem aoc (N:Nat) (l:List Sd) (f:T) (i:Int):aH env N 87 0 2 (agS l f i)=bif decide (i < (↑(List.map Sd.t l).length:Int)) then bV (List.map Sd.t l) i fun e=>oN env (aK env N) f [e] fun r=>bT r fun v=>bif v then aj.ok (Ex.ret,{tmps:=slots 19 [(4,PV.t (i64 i))],heap:=[]}) else aj.ok (Ex.norm,agS l f (IntKind.i64.wrap (i+1))) else aj.ok (Ex.exit 0,{tmps:=slots 19 [],heap:=[]}):=by kernel_rfl
theorem adl (N:Nat) (i:Int):aS env N 87 0 2 (aY env 87) (.ret) (⟨slots 19 [(4,.t (i64 i))],[]⟩)=rI i:=by kernel_rfl
theorem Xt (N:Nat):aS env N 87 0 2 (aY env 87) (.exit 0) (⟨slots 19 [],[]⟩)=rI (-1):=by kernel_rfl
theorem q51 (N:Nat) (c:Cf) (n:Int):ak env (N+1) 51 [c.t,i64 n]=W [c.t,i64 n] (cl N 87 [T.sl 4 (List.map Sd.t c.s),T.fn 88 [] [(i64 n).ref]] fun x=>iT IntKind.i64 x fun n=>iT IntKind.i64 x fun a=>aj.ok (T.au [i64 (dh true [0] n),T.bool (decide (a≥0))])):=by kernel_rfl
theorem q88 (N:Nat) (s:Sd) (n:Int):ak env (N+1) 88 [s.t,.ref (i64 n)]=W [s.t,.ref (i64 n)] (rB (s.a==n)):=by kernel_rfl
def akI (l:List Ru) (b:Bool) (e n:Nat) (x:T) (i:Int):St:=⟨slots 39 [(0,.t .dR),(3,.t (.bool b)),(13,.t (.sl 6 (l.map Ru.t))),(14,.t (i64 (l.map Ru.t).length)),(15,.t (i64 i))],[.box e n (.t x)]⟩
def agX (l:List Ru) (b:Bool) (e n:Nat) (x:T) (r:Ru) (i:Int):St:=⟨slots 39 [(0,.ptr 1 5),(3,.t (.bool b)),(13,.t (.sl 6 (l.map Ru.t))),(14,.t (i64 (l.map Ru.t).length)),(15,.t (i64 i))],[.box e n (.t x),.box 123 6 (.t r.t)]⟩
def agY (l:List Ru) (b:Bool) (e n:Nat) (x:T) (w:Ru) (i:Int):St:=⟨slots 39 [(0,.ptr 0 5),(3,.t (.bool b)),(13,.t (.sl 6 (l.map Ru.t))),(14,.t (i64 (l.map Ru.t).length)),(15,.t (i64 i))],[.box 123 6 (.t w.t),.box e n (.t x)]⟩
def agZ (l:List Ru) (b:Bool) (e n:Nat) (x:T) (w r:Ru) (i:Int):St:=⟨slots 39 [(0,.ptr 2 5),(3,.t (.bool b)),(13,.t (.sl 6 (l.map Ru.t))),(14,.t (i64 (l.map Ru.t).length)),(15,.t (i64 i))],[.box 123 6 (.t w.t),.box e n (.t x),.box 123 6 (.t r.t)]⟩
theorem aqa (N:Nat) (l:List Ru) (c:Int) (b:Bool) (e n:Nat) (x:T) {β:Type} (K:PV→List ah→aj β):fQ env (aK env N) N 128 [.t .dR,.t (.sl 6 (l.map Ru.t)),.t (i64 c),.t (.bool b)] [.box e n (.t x)] K=cl N 130 [T.sl 6 (List.map Ru.t l),i64 c] fun x_1=>gY x_1 fun n_1=>uD env (aK env N) N 128 1 2 K {tmps:=slots 39 [(0,PV.t T.dR),(3,PV.t (T.bool b)),(13,PV.t x_1),(14,PV.t (i64 n_1)),(15,PV.t (i64 0))],heap:=[ah.box e n (PV.t x)]}:=by kernel_rfl
theorem al4 (N:Nat) (l:List Ru) (c:Int) (b:Bool) (e n:Nat) (x:T) (w:Ru) {β:Type} (K:PV→List ah→aj β):fQ env (aK env N) N 128 [.ptr 0 5,.t (.sl 6 (l.map Ru.t)),.t (i64 c),.t (.bool b)] [.box 123 6 (.t w.t),.box e n (.t x)] K=cl N 130 [T.sl 6 (List.map Ru.t l),i64 c] fun x_1=>gY x_1 fun n_1=>uD env (aK env N) N 128 2 2 K {tmps:=slots 39 [(0,PV.ptr 0 5),(3,PV.t (T.bool b)),(13,PV.t x_1),(14,PV.t (i64 n_1)),(15,PV.t (i64 0))],heap:=[ah.box 123 6 (PV.t w.t),ah.box e n (PV.t x)]}:=by kernel_rfl
theorem aaO (N:Nat) (l:List Ru) (b:Bool) (e n:Nat) (x:T) (i:Int):bU env (aK env N) N 128 1 2 (akI l b e n x i)=bif decide (i < (↑(List.map Ru.t l).length:Int)) then bV (List.map Ru.t l) i fun e_1=>chk (e_1.cells.length==6&& !e_1.aV) (iT IntKind.i64 (e_1.ay 4 1 false) fun a=>bif a==2 then aj.ok (Ex.norm,{tmps:=slots 39 [(0,PV.ptr 1 5),(3,PV.t (T.bool b)),(13,PV.t (T.sl 6 (List.map Ru.t l))),(14,PV.t (i64 (↑(List.map Ru.t l).length:Int))),(15,PV.t (i64 (IntKind.i64.wrap (i+1))))],heap:=[ah.box e n (PV.t x),ah.box 123 6 (PV.t e_1)]}) else aj.ok (Ex.norm,akI l b e n x (IntKind.i64.wrap (i+1)))) else aj.ok (Ex.exit 0,{tmps:=slots 39 [(0,PV.t T.dR)],heap:=[ah.box e n (PV.t x)]}):=by kernel_rfl
theorem PX (N:Nat) (l:List Ru) (b:Bool) (e n:Nat) (x:T) (r:Ru) (i:Int):bU env (aK env N) N 128 1 2 (agX l b e n x r i)=bif decide (i < (↑(List.map Ru.t l).length:Int)) then bV (List.map Ru.t l) i fun e_1=>chk (e_1.cells.length==6&& !e_1.aV) (iT IntKind.i64 (e_1.ay 4 1 false) fun a=>bif a==2 then iT IntKind.i64 (e_1.ay 5 1 false) fun a=>bif decide (a < r.n)==b&&true then aj.ok (Ex.norm,{tmps:=slots 39 [(0,PV.ptr 1 5),(3,PV.t (T.bool b)),(13,PV.t (T.sl 6 (List.map Ru.t l))),(14,PV.t (i64 (↑(List.map Ru.t l).length:Int))),(15,PV.t (i64 (IntKind.i64.wrap (i+1))))],heap:=[ah.box e n (PV.t x),ah.box 123 6 (PV.t e_1)]}) else aj.ok (Ex.norm,agX l b e n x r (IntKind.i64.wrap (i+1))) else aj.ok (Ex.norm,agX l b e n x r (IntKind.i64.wrap (i+1)))) else aj.ok (Ex.exit 0,{tmps:=slots 39 [(0,PV.ptr 1 5)],heap:=[ah.box e n (PV.t x),ah.box 123 6 (PV.t r.t)]}):=by kernel_rfl
theorem PY (N:Nat) (l:List Ru) (b:Bool) (e n:Nat) (x:T) (w:Ru) (i:Int):bU env (aK env N) N 128 2 2 (agY l b e n x w i)=bif decide (i < (↑(List.map Ru.t l).length:Int)) then bV (List.map Ru.t l) i fun e_1=>chk (e_1.cells.length==6&& !e_1.aV) (iT IntKind.i64 (e_1.ay 4 1 false) fun a=>bif a==2 then iT IntKind.i64 (e_1.ay 5 1 false) fun a=>bif decide (a < w.n)==b&&true then aj.ok (Ex.norm,{tmps:=slots 39 [(0,PV.ptr 2 5),(3,PV.t (T.bool b)),(13,PV.t (T.sl 6 (List.map Ru.t l))),(14,PV.t (i64 (↑(List.map Ru.t l).length:Int))),(15,PV.t (i64 (IntKind.i64.wrap (i+1))))],heap:=[ah.box 123 6 (PV.t w.t),ah.box e n (PV.t x),ah.box 123 6 (PV.t e_1)]}) else aj.ok (Ex.norm,agY l b e n x w (IntKind.i64.wrap (i+1))) else aj.ok (Ex.norm,agY l b e n x w (IntKind.i64.wrap (i+1)))) else aj.ok (Ex.exit 0,{tmps:=slots 39 [(0,PV.ptr 0 5)],heap:=[ah.box 123 6 (PV.t w.t),ah.box e n (PV.t x)]}):=by kernel_rfl
theorem PZ (N:Nat) (l:List Ru) (b:Bool) (e n:Nat) (x:T) (w r:Ru) (i:Int):bU env (aK env N) N 128 2 2 (agZ l b e n x w r i)=bif decide (i < (↑(List.map Ru.t l).length:Int)) then bV (List.map Ru.t l) i fun e_1=>chk (e_1.cells.length==6&& !e_1.aV) (iT IntKind.i64 (e_1.ay 4 1 false) fun a=>bif a==2 then iT IntKind.i64 (e_1.ay 5 1 false) fun a=>bif decide (a < r.n)==b&&true then aj.ok (Ex.norm,{tmps:=slots 39 [(0,PV.ptr 2 5),(3,PV.t (T.bool b)),(13,PV.t (T.sl 6 (List.map Ru.t l))),(14,PV.t (i64 (↑(List.map Ru.t l).length:Int))),(15,PV.t (i64 (IntKind.i64.wrap (i+1))))],heap:=[ah.box 123 6 (PV.t w.t),ah.box e n (PV.t x),ah.box 123 6 (PV.t e_1)]}) else aj.ok (Ex.norm,agZ l b e n x w r (IntKind.i64.wrap (i+1))) else aj.ok (Ex.norm,agZ l b e n x w r (IntKind.i64.wrap (i+1)))) else aj.ok (Ex.exit 0,{tmps:=slots 39 [(0,PV.ptr 2 5)],heap:=[ah.box 123 6 (PV.t w.t),ah.box e n (PV.t x),ah.box 123 6 (PV.t r.t)]}):=by kernel_rfl
theorem Ou (N:Nat) (p:PV) (H:List ah) {β:Type} (K:PV→List ah→aj β):rF env (aK env N) N 128 1 2 K (.exit 0) (⟨slots 39 [(0,p)],H⟩)=K p H:=by kernel_rfl
theorem JC (N:Nat) (p:PV) (H:List ah) {β:Type} (K:PV→List ah→aj β):rF env (aK env N) N 128 2 2 K (.exit 0) (⟨slots 39 [(0,p)],H⟩)=K p H:=by kernel_rfl
theorem anB (N:Nat):ak env (N+1) 127 [.dR]=W [.dR] (aj.ok (T.au [i64 0,T.bool false])):=by kernel_rfl
theorem ap9 (N:Nat) (r:Ru) {β:Type} (K:PV→List ah→aj β):fQ env (aK env N) N 127 [.ptr 0 5] [.box 123 6 (.t r.t)] K=K (PV.au [PV.t (i64 r.n),PV.t (T.bool true)]) [ah.box 123 6 (PV.t r.t)]:=by kernel_rfl
theorem al3 (N:Nat) (e n:Nat) (x:T) (r:Ru) {β:Type} (K:PV→List ah→aj β):fQ env (aK env N) N 127 [.ptr 1 5] [.box e n (.t x),.box 123 6 (.t r.t)] K=K (PV.au [PV.t (i64 r.n),PV.t (T.bool true)]) [ah.box e n (PV.t x),ah.box 123 6 (PV.t r.t)]:=by kernel_rfl
def AQ (l:List Ru) (k:Int) (b:Bool) (e n:Nat) (x:T) (r:PV) (H:List ah):Pin:=⟨128,[.t .dR,.t (.sl 6 (l.map Ru.t)),.t (i64 k),.t (.bool b)],[.box e n (.t x)],r,H⟩
def SB (l:List Ru) (k:Int) (b:Bool) (e n:Nat) (x:T) (w:Ru) (r:PV) (H:List ah):Pin:=⟨128,[.ptr 0 5,.t (.sl 6 (l.map Ru.t)),.t (i64 k),.t (.bool b)],[.box 123 6 (.t w.t),.box e n (.t x)],r,H⟩
def Yy (H:List ah) (l:Nat) (r:Ru):Pin:=⟨127,[.ptr l 5],H,.au [.t (i64 r.n),.t (.bool true)],H⟩
theorem anz (N:Nat) (c:Cf) (n k:Int) (l:List Ru):fQ env (bI env N [AQ l k false 56 6 c.t (.t .dR) [.box 56 6 (.t c.t)]]) N 92 [.t (c.t),.t (i64 n)] [] (aY env 92)=bif decide (n < 0) then aj.ok (T.au [i64 0,T.bool false]) else bif decide (n≥(↑(List.map Sd.t c.s).length:Int)) then aj.ok (T.au [i64 0,T.bool false]) else bV (List.map Sd.t c.s) n fun e=>bV (List.map Sd.t c.s) n fun e_1=>iQ ([PV.t T.dR,PV.t (e.ay 2 1 false),PV.t (e_1.ay 1 1 false),PV.t (T.bool false)]= [PV.t T.dR,PV.t (T.sl 6 (List.map Ru.t l)),PV.t (i64 k),PV.t (T.bool false)]∧ [ah.box 56 6 (PV.t c.t)]= [ah.box 56 6 (PV.t c.t)]) (cl N 127 [T.dR] fun x=>aG x 0 fun y=>aG x 1 fun y_1=>aj.ok (T.au [y,y_1])):=by kernel_rfl
theorem amg (N:Nat) (c:Cf) (n k:Int) (l:List Ru) (r:Ru):fQ env (bI env N [AQ l k false 56 6 c.t (.ptr 1 5) [.box 56 6 (.t c.t),.box 123 6 (.t r.t)],Yy [.box 56 6 (.t c.t),.box 123 6 (.t r.t)] 1 r]) N 92 [.t (c.t),.t (i64 n)] [] (aY env 92)=bif decide (n < 0) then aj.ok (T.au [i64 0,T.bool false]) else bif decide (n≥(↑(List.map Sd.t c.s).length:Int)) then aj.ok (T.au [i64 0,T.bool false]) else bV (List.map Sd.t c.s) n fun e=>bV (List.map Sd.t c.s) n fun e_1=>iQ ([PV.t T.dR,PV.t (e.ay 2 1 false),PV.t (e_1.ay 1 1 false),PV.t (T.bool false)]= [PV.t T.dR,PV.t (T.sl 6 (List.map Ru.t l)),PV.t (i64 k),PV.t (T.bool false)]∧ [ah.box 56 6 (PV.t c.t)]= [ah.box 56 6 (PV.t c.t)]) (iQ ([PV.ptr 1 5]= [PV.ptr 1 5]∧ [ah.box 56 6 (PV.t c.t),ah.box 123 6 (PV.t r.t)]= [ah.box 56 6 (PV.t c.t),ah.box 123 6 (PV.t r.t)]) (aj.ok (T.au [i64 r.n,T.bool true]))):=by kernel_rfl
theorem q94 (N:Nat) (c:Cf) (k n:Int):ak env (N+1) 94 [c.t,i64 k,i64 n]=W [c.t,i64 k,i64 n] (bif decide (k < 0) then rB false else bif decide (k≥(↑(List.map Sd.t c.s).length:Int)) then rB false else bV (List.map Sd.t c.s) k fun e=>cl N 130 [e.ay 3 1 false,i64 n] fun x=>cl N 129 [x,T.fn 131 [] []] fun x=>aj.ok x):=by kernel_rfl
theorem aqV (N:Nat) (r:Ru):ak env (N+1) 131 [r.t]=W [r.t] (rB (r.a !=0)):=by kernel_rfl
def NH (c:Cf) (k i:Int):St:=⟨slots 32 [(1,.t (i64 k)),(6,.t .dR),(12,.t (.sl 4 (c.s.map Sd.t))),(13,.t (i64 (c.s.map Sd.t).length)),(14,.t (i64 i))],[]⟩
def Jq (c:Cf) (w:Ru) (k i:Int):St:=⟨slots 32 [(1,.t (i64 k)),(6,.ptr 0 5),(12,.t (.sl 4 (c.s.map Sd.t))),(13,.t (i64 (c.s.map Sd.t).length)),(14,.t (i64 i))],[.box 123 6 (.t w.t)]⟩
theorem q93 (N:Nat) (c:Cf) (n:Int):ak env (N+1) 93 [c.t,i64 n]=W [c.t,i64 n] (bif n==0 then aj.ok (T.au [i64 400,T.bool true]) else bC env N 93 5 (NH c n 0)):=by kernel_rfl
theorem aeR (N:Nat) (c:Cf) (k i:Int):uK env (bI env N []) N 93 0 5 (NH c k i)=bif decide (i < (↑(List.map Sd.t c.s).length:Int)) then bV (List.map Sd.t c.s) i fun e=>chk (e.cells.length==4&& !e.aV) (iT IntKind.i64 (e.ay 1 1 false) fun a=>bif a==k then aj.stuck else aj.ok (Ex.norm,NH c k (IntKind.i64.wrap (i+1)))) else aj.ok (Ex.exit 0,{tmps:=slots 32 [(6,PV.t T.dR)],heap:=[]}):=by kernel_rfl
theorem Vl (N:Nat) (c:Cf) (w:Ru) (k i:Int):uK env (bI env N []) N 93 0 5 (Jq c w k i)=bif decide (i < (↑(List.map Sd.t c.s).length:Int)) then bV (List.map Sd.t c.s) i fun e=>chk (e.cells.length==4&& !e.aV) (iT IntKind.i64 (e.ay 1 1 false) fun a=>bif a==k then aj.stuck else aj.ok (Ex.norm,Jq c w k (IntKind.i64.wrap (i+1)))) else aj.ok (Ex.exit 0,{tmps:=slots 32 [(6,PV.ptr 0 5)],heap:=[ah.box 123 6 (PV.t w.t)]}):=by kernel_rfl
theorem afQ (N:Nat) (c:Cf) (l:List Ru) (x:T) (k i:Int):uK env (bI env N [AQ l k true 86 4 x (.t .dR) [.box 86 4 (.t x)]]) N 93 0 5 (NH c k i)=bif decide (i < (↑(List.map Sd.t c.s).length:Int)) then bV (List.map Sd.t c.s) i fun e=>chk (e.cells.length==4&& !e.aV) (iT IntKind.i64 (e.ay 1 1 false) fun a=>bif a==k then iQ ([PV.t T.dR,PV.t (e.ay 2 1 false),PV.t (i64 k),PV.t (T.bool true)]= [PV.t T.dR,PV.t (T.sl 6 (List.map Ru.t l)),PV.t (i64 k),PV.t (T.bool true)]∧ [ah.box 86 4 (PV.t e)]= [ah.box 86 4 (PV.t x)]) (aj.ok (Ex.norm,NH c k (IntKind.i64.wrap (i+1)))) else aj.ok (Ex.norm,NH c k (IntKind.i64.wrap (i+1)))) else aj.ok (Ex.exit 0,{tmps:=slots 32 [(6,PV.t T.dR)],heap:=[]}):=by kernel_rfl
theorem afR (N:Nat) (c:Cf) (l:List Ru) (x:T) (r:Ru) (k i:Int):uK env (bI env N [AQ l k true 86 4 x (.ptr 1 5) [.box 86 4 (.t x),.box 123 6 (.t r.t)]]) N 93 0 5 (NH c k i)=bif decide (i < (↑(List.map Sd.t c.s).length:Int)) then bV (List.map Sd.t c.s) i fun e=>chk (e.cells.length==4&& !e.aV) (iT IntKind.i64 (e.ay 1 1 false) fun a=>bif a==k then iQ ([PV.t T.dR,PV.t (e.ay 2 1 false),PV.t (i64 k),PV.t (T.bool true)]= [PV.t T.dR,PV.t (T.sl 6 (List.map Ru.t l)),PV.t (i64 k),PV.t (T.bool true)]∧ [ah.box 86 4 (PV.t e)]= [ah.box 86 4 (PV.t x)]) (aj.ok (Ex.norm,Jq c r k (IntKind.i64.wrap (i+1)))) else aj.ok (Ex.norm,NH c k (IntKind.i64.wrap (i+1)))) else aj.ok (Ex.exit 0,{tmps:=slots 32 [(6,PV.t T.dR)],heap:=[]}):=by kernel_rfl
theorem afS (N:Nat) (c:Cf) (l:List Ru) (x:T) (w:Ru) (k i:Int):uK env (bI env N [SB l k true 86 4 x w (.ptr 0 5) [.box 123 6 (.t w.t),.box 86 4 (.t x)]]) N 93 0 5 (Jq c w k i)=bif decide (i < (↑(List.map Sd.t c.s).length:Int)) then bV (List.map Sd.t c.s) i fun e=>chk (e.cells.length==4&& !e.aV) (iT IntKind.i64 (e.ay 1 1 false) fun a=>bif a==k then iQ ([PV.ptr 0 5,PV.t (e.ay 2 1 false),PV.t (i64 k),PV.t (T.bool true)]= [PV.ptr 0 5,PV.t (T.sl 6 (List.map Ru.t l)),PV.t (i64 k),PV.t (T.bool true)]∧ [ah.box 123 6 (PV.t w.t),ah.box 86 4 (PV.t e)]= [ah.box 123 6 (PV.t w.t),ah.box 86 4 (PV.t x)]) (aj.ok (Ex.norm,Jq c w k (IntKind.i64.wrap (i+1)))) else aj.ok (Ex.norm,Jq c w k (IntKind.i64.wrap (i+1)))) else aj.ok (Ex.exit 0,{tmps:=slots 32 [(6,PV.ptr 0 5)],heap:=[ah.box 123 6 (PV.t w.t)]}):=by kernel_rfl
theorem afT (N:Nat) (c:Cf) (l:List Ru) (x:T) (w r:Ru) (k i:Int):uK env (bI env N [SB l k true 86 4 x w (.ptr 2 5) [.box 123 6 (.t w.t),.box 86 4 (.t x),.box 123 6 (.t r.t)]]) N 93 0 5 (Jq c w k i)=bif decide (i < (↑(List.map Sd.t c.s).length:Int)) then bV (List.map Sd.t c.s) i fun e=>chk (e.cells.length==4&& !e.aV) (iT IntKind.i64 (e.ay 1 1 false) fun a=>bif a==k then iQ ([PV.ptr 0 5,PV.t (e.ay 2 1 false),PV.t (i64 k),PV.t (T.bool true)]= [PV.ptr 0 5,PV.t (T.sl 6 (List.map Ru.t l)),PV.t (i64 k),PV.t (T.bool true)]∧ [ah.box 123 6 (PV.t w.t),ah.box 86 4 (PV.t e)]= [ah.box 123 6 (PV.t w.t),ah.box 86 4 (PV.t x)]) (aj.ok (Ex.norm,Jq c r k (IntKind.i64.wrap (i+1)))) else aj.ok (Ex.norm,Jq c w k (IntKind.i64.wrap (i+1)))) else aj.ok (Ex.exit 0,{tmps:=slots 32 [(6,PV.ptr 0 5)],heap:=[ah.box 123 6 (PV.t w.t)]}):=by kernel_rfl
theorem Xu (N:Nat):aS env N 93 0 5 (aY env 93) (.exit 0) (⟨slots 32 [(6,.t .dR)],[]⟩)=cl N 127 [T.dR] fun x=>aG x 0 fun y=>aG x 1 fun y_1=>aj.ok (T.au [y,y_1]):=by kernel_rfl
theorem SC (N:Nat) (w:Ru):Gf env (bI env N [Yy [.box 123 6 (.t w.t)] 0 w]) N 93 0 5 (aY env 93) (.exit 0) (⟨slots 32 [(6,.ptr 0 5)],[.box 123 6 (.t w.t)]⟩)=iQ ([PV.ptr 0 5]= [PV.ptr 0 5]∧ [ah.box 123 6 (PV.t w.t)]= [ah.box 123 6 (PV.t w.t)]) (aj.ok (T.au [i64 w.n,T.bool true])):=by kernel_rfl
def Qs (a:Cf) (h:T) (k:T) (b:T) (i:Int):St:=⟨slots 75 [(2,.ptr 0 0),(5,.t k),(9,.t h),(10,.t b),(11,.t (i64 i))],[.box 56 6 (.t a.t)]⟩
theorem q59 (N:Nat) (a b:Cf):ak env (N+1) 59 [a.t,b.t]=W [a.t,b.t] (cl N 51 [a.t,i64 b.a] fun x=>aG x 0 fun y=>aG x 1 fun y_1=>cl N 51 [b.t,i64 a.a] fun x=>aG x 0 fun pI=>aG x 1 fun zJ=>iO N 52 [a.t] fun b_1=>bif !b_1 then rB false else iO N 52 [b.t] fun b_2=>bif !b_2 then rB false else bT y_1 fun b_3=>bif !b_3 then rB false else bT zJ fun b_4=>bif !b_4 then rB false else cl N 92 [b.t,pI] fun x=>aG x 0 fun y_4=>aG x 1 fun y_5=>bC env N 59 7 (Qs a y_4 y y_5 0)):=by kernel_rfl
theorem ajv (N:Nat) (a:Cf) (h k i:Int) (b:Bool):aH env N 59 0 7 (Qs a (i64 h) (i64 k) (.bool b) i)=bif decide (i≤3) then cl N 93 [a.t,i64 i] fun x=>aG x 0 fun y=>aG x 1 fun y_1=>bT y_1 fun b_1=>bif b_1 then bif b then iT IntKind.i64 y fun b_2=>bif decide (h > b_2) then iO N 94 [a.t,i64 k,i64 i] fun v=>bif v then aj.ok (Ex.ret,{tmps:=slots 75 [(4,PV.t (T.bool false))],heap:=[]}) else aj.ok (Ex.norm,Qs a (i64 h) (i64 k) (T.bool b) (IntKind.i64.wrap (i+1))) else aj.ok (Ex.norm,Qs a (i64 h) (i64 k) (T.bool b) (IntKind.i64.wrap (i+1))) else aj.ok (Ex.norm,Qs a (i64 h) (i64 k) (T.bool b) (IntKind.i64.wrap (i+1))) else aj.ok (Ex.norm,Qs a (i64 h) (i64 k) (T.bool b) (IntKind.i64.wrap (i+1))) else aj.ok (Ex.exit 0,{tmps:=slots 75 [],heap:=[]}):=by kernel_rfl
theorem Xj (N:Nat):aS env N 59 0 7 (aY env 59) (.exit 0) (⟨slots 75 [],[]⟩)=rB true:=by kernel_rfl
theorem adg (N:Nat):aS env N 59 0 7 (aY env 59) (.ret) (⟨slots 75 [(4,.t (.bool false))],[]⟩)=rB false:=by kernel_rfl
end
end Go.aP
