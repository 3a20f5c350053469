/- The texts of a proof, one behind the other: an interpreter and its soundness, what the functions of the program answer, and plain laws on that. -/
import Derived.Test.YtjlpnhpfbgbkhaaGreatX1
import Derived.Test.YtjlpnhpfbgbkhaaGreatX7
import Derived.Test.YtjlpnhpfbgbkhaaGreatK10
import Derived.Test.YtjlpnhpfbgbkhaaGreatX2
import Derived.Test.YtjlpnhpfbgbkhaaGreatX4
set_option linter.unusedVariables false
set_option linter.unusedSimpArgs false
set_option linter.unnecessarySimpa false
set_option linter.unusedSectionVars false
set_option maxRecDepth 100000
namespace Go.aP
section
open Go.RowKit Go.Proofs
variable [Lv]
theorem q37 (N:Nat) (L:List (List Ch)) (i:Int):ak env (N+1) 37 [.sl 1 (dH L),i64 i]=W [.sl 1 (dH L),i64 i] (bif decide (i≥(↑(List.map (fun l=>T.sl 8 (List.map Ch.t l)) L).length:Int)) then aj.ok (T.sl 8 []) else bV (List.map (fun l=>T.sl 8 (List.map Ch.t l)) L) i fun e=>aj.ok e):=by kernel_rfl
theorem q29 (N:Nat) (n:Int):ak env (N+1) 29 [i64 n]=W [i64 n] (rI (IntKind.i64.wrap (IntKind.i64.wrap (IntKind.i64.wrap (IntKind.i64.wrap (2*dh true [dh false [8] n] 0)*dh true [dh false [8] n] 0)+IntKind.i64.wrap (4*dh true [dh false [8] n] 0))+10))):=by kernel_rfl
theorem q17 (N:Nat) (t:List Cf):ak env (N+1) 17 [.sl 6 (t.map Cf.t)]=W [.sl 6 (t.map Cf.t)] (cl N 42 [T.sl 6 (List.map Cf.t t),T.fn 43 [] []] fun x=>aj.ok x):=by kernel_rfl
theorem q19 (N:Nat) (t:List Cf) (L:List (List Ch)):ak env (N+1) 19 [.sl 6 (t.map Cf.t),.sl 1 (dH L)]=W [.sl 6 (t.map Cf.t),.sl 1 (dH L)] (cl N 42 [T.sl 6 (List.map Cf.t t),T.fn 45 [] [(T.sl 6 (List.map Cf.t t)).ref,(T.sl 1 (List.map (fun l=>T.sl 8 (List.map Ch.t l)) L)).ref]] fun x=>aj.ok x):=by kernel_rfl
theorem q21 (N:Nat) (t:List Cf) (L:List (List Ch)):ak env (N+1) 21 [.sl 6 (t.map Cf.t),.sl 1 (dH L)]=W [.sl 6 (t.map Cf.t),.sl 1 (dH L)] (bif decide ((↑(List.map Cf.t t).length:Int)≤8) then cl N 19 [T.sl 6 (List.map Cf.t t),T.sl 1 (List.map (fun l=>T.sl 8 (List.map Ch.t l)) L)] fun x=>cl N 48 [x,T.sl 1 (List.map (fun l=>T.sl 8 (List.map Ch.t l)) L),T.fn 49 [] []] fun x=>aj.ok x else rB false):=by kernel_rfl
theorem q43 (N:Nat) (i k:Int):ak env (N+1) 43 [i64 i,i64 k]=W [i64 i,i64 k] (aj.ok (T.sl 6 [])):=by kernel_rfl
theorem q45 (N:Nat) (t:List Cf) (L:List (List Ch)) (i k:Int):ak env (N+1) 45 [i64 i,i64 k,.ref (.sl 6 (t.map Cf.t)),.ref (.sl 1 (dH L))]=W [i64 i,i64 k,.ref (.sl 6 (t.map Cf.t)),.ref (.sl 1 (dH L))] (cl N 23 [T.sl 6 (List.map Cf.t t),i64 i,i64 k] fun x=>aG x 0 fun y=>aG x 1 fun y_1=>aG x 2 fun pI=>bT pI fun b=>bif !b then aj.ok (T.sl 6 []) else pJ y fun i=>bV (List.map Cf.t t) i fun e=>cl N 37 [T.sl 1 (List.map (fun l=>T.sl 8 (List.map Ch.t l)) L),y] fun x=>cl N 46 [e,y_1,x] fun x=>aj.ok x):=by kernel_rfl
def acD (g:T) (t:List Cf) (ys:List T) (i:Int):St:=⟨slots 45 [(1,.t g),(5,.own 0),(13,.t (.sl 6 (t.map Cf.t))),(14,.t (i64 (t.map Cf.t).length)),(15,.t (i64 i))],[.row 40 1 ys]⟩
def agC (g:T) (t:List Cf) (ys:List T) (i:Int) (c:Cf) (zs:List T) (n k:Int):St:=⟨slots 45 [(1,.t g),(5,.own 0),(6,.t (i64 i)),(7,.ptr 1 0),(8,.own 2),(13,.t (.sl 6 (t.map Cf.t))),(14,.t (i64 (t.map Cf.t).length)),(15,.t (i64 i)),(25,.t (i64 n)),(26,.t (i64 k))],[.row 40 1 ys,.box 56 6 (.t c.t),.row 75 1 zs]⟩
theorem q42 (N:Nat) (t:List Cf) (g:T):ak env (N+1) 42 [.sl 6 (t.map Cf.t),g]=W [.sl 6 (t.map Cf.t),g] (bif decide ((↑(List.map Cf.t t).length:Int) > 8) then aj.ok (T.sl 1 []) else bC env N 42 5 (acD g t [] 0)):=by kernel_rfl
theorem ajo (N:Nat) (g:T) (t:List Cf) (ys:List T) (i:Int):aH env N 42 0 5 (acD g t ys i)=bif decide (i < (↑(List.map Cf.t t).length:Int)) then bV (List.map Cf.t t) i fun e=>chk (e.cells.length==6&& !e.aV) (gY (e.ay 5 1 false) fun n=>chk (decide (0≤n)&&decide (n≤n)&&decide (n.toNat*24≤140737488355328)) (nY env N 42 5 9 {tmps:=slots 45 [(1,PV.t g),(5,PV.own 0),(6,PV.t (i64 i)),(7,PV.ptr 1 0),(8,PV.own 2),(13,PV.t (T.sl 6 (List.map Cf.t t))),(14,PV.t (i64 (↑(List.map Cf.t t).length:Int))),(15,PV.t (i64 i)),(25,PV.t (i64 (↑(List.replicate n.toNat (T.sl 6 [])).length:Int))),(26,PV.t (i64 0))],heap:=[ah.row 40 1 ys,ah.box 56 6 (PV.t e),ah.row 75 1 (List.replicate n.toNat (T.sl 6 []))]})) else aj.ok (Ex.exit 0,{tmps:=slots 45 [(5,PV.own 0)],heap:=[ah.row 40 1 ys]}):=by kernel_rfl
theorem aak (N:Nat) (g:T) (t:List Cf) (ys:List T) (i:Int) (c:Cf) (zs:List T) (n k:Int):nR env N 42 0 5 9 (agC g t ys i c zs n k)=bif decide (k < n) then oN env (aK env N) g [i64 i,i64 k] fun r=>chk (decide (0≤k)&&decide (k < (↑zs.length:Int))) (chk (r.cells.length==1&& !r.aV) (chk (!r.isAgg) (aj.ok (Ex.norm,agC g t ys i c (zs.set k.toNat r) n (IntKind.i64.wrap (k+1)))))) else aj.ok (Ex.exit 2,{tmps:=slots 45 [(1,PV.t g),(5,PV.own 0),(7,PV.ptr 1 0),(8,PV.own 2),(13,PV.t (T.sl 6 (List.map Cf.t t))),(14,PV.t (i64 (↑(List.map Cf.t t).length:Int))),(15,PV.t (i64 i))],heap:=[ah.row 40 1 ys,ah.box 56 6 (PV.t c.t),ah.row 75 1 zs]}):=by kernel_rfl
theorem OG (N:Nat) (g:T) (t:List Cf) (ys:List T) (i:Int) (c:Cf) (zs:List T):pR env N 42 0 5 9 (.exit 2) (⟨slots 45 [(1,.t g),(5,.own 0),(7,.ptr 1 0),(8,.own 2),(13,.t (.sl 6 (t.map Cf.t))),(14,.t (i64 (t.map Cf.t).length)),(15,.t (i64 i))],[.row 40 1 ys,.box 56 6 (.t c.t),.row 75 1 zs]⟩)=cl N 76 [c.t,T.sl 1 zs] fun x=>dB (T.oq 1) [x] (chk (decide ((ys.length+1)*24≤140737488355328)) (aj.ok (Ex.norm,acD g t (ys++ [x]) (IntKind.i64.wrap (i+1))))):=by kernel_rfl
theorem Xa (N:Nat) (ys:List T):aS env N 42 0 5 (aY env 42) (.exit 0) (⟨slots 45 [(5,.own 0)],[.row 40 1 ys]⟩)=aj.ok (T.sl 1 ys):=by kernel_rfl
def Hg (c:Cf) (k:Int) (l:List Ch) (ys:List En) (i:Int):St:=⟨slots 59 [(1,.t (i64 k)),(2,.t (.sl 8 (l.map Ch.t))),(3,.ptr 0 0),(7,.own 1),(12,.t (.sl 8 (l.map Ch.t))),(13,.t (i64 (l.map Ch.t).length)),(14,.t (i64 i))],[.box 56 6 (.t c.t),.row 104 6 (ys.map En.t)]⟩
theorem q46 (N:Nat) (c:Cf) (k:Int) (l:List Ch):ak env (N+1) 46 [c.t,i64 k,.sl 8 (l.map Ch.t)]=W [c.t,i64 k,.sl 8 (l.map Ch.t)] (bC env N 46 3 {tmps:=slots 59 [(1,PV.t (i64 k)),(2,PV.t (T.sl 8 (List.map Ch.t l))),(3,PV.ptr 0 0),(7,PV.own 1),(12,PV.t (T.sl 8 (List.map Ch.t l))),(13,PV.t (i64 (↑(List.map Ch.t l).length:Int))),(14,PV.t (i64 0))],heap:=[ah.box 56 6 (PV.t c.t),ah.row 104 6 []]}):=by kernel_rfl
theorem ajr (N:Nat) (c:Cf) (k:Int) (l:List Ch) (ys:List En) (i:Int):aH env N 46 0 3 (Hg c k l ys i)=bif decide (i < (↑(List.map Ch.t l).length:Int)) then bV (List.map Ch.t l) i fun e=>chk (e.cells.length==8&& !e.aV) (iO N 70 [e.ay 0 2 true] fun b=>bif !b then aj.ok (Ex.ret,{tmps:=slots 59 [(6,PV.own 0)],heap:=[ah.row 104 6 []]}) else bif decide (i > 0) then bV (List.map Ch.t l) (IntKind.i64.wrap (i - 1)) fun e_1=>Gy N 80 [e_1.ay 0 2 true,e.ay 0 2 true] fun a=>bif decide (a≥0) then aj.ok (Ex.ret,{tmps:=slots 59 [(6,PV.own 0)],heap:=[ah.row 104 6 []]}) else cl N 81 [c.t,i64 k,e.ay 0 2 true,e.ay 2 6 true] fun x=>aG x 0 fun y=>aG x 1 fun y_1=>chk (y.cells.length==4&& !y.aV) (bT y_1 fun v=>bif v then chk ((e.ay 0 2 true).cells.length==2&& !(e.ay 0 2 true).aV) (chk (y.cells.length==4&& !y.aV) (dB (T.oq 6) [T.agg [(e.ay 0 2 true).cell 0,(e.ay 0 2 true).cell 1,y.cell 0,y.cell 1,y.cell 2,y.cell 3]] (chk (decide (((List.map En.t ys).length+1)*64≤140737488355328)) (aj.ok (Ex.norm,{tmps:=slots 59 [(1,PV.t (i64 k)),(2,PV.t (T.sl 8 (List.map Ch.t l))),(3,PV.ptr 0 0),(7,PV.own 1),(12,PV.t (T.sl 8 (List.map Ch.t l))),(13,PV.t (i64 (↑(List.map Ch.t l).length:Int))),(14,PV.t (i64 (IntKind.i64.wrap (i+1))))],heap:=[ah.box 56 6 (PV.t c.t),ah.row 104 6 (List.map En.t ys++ [T.agg [(e.ay 0 2 true).cell 0,(e.ay 0 2 true).cell 1,y.cell 0,y.cell 1,y.cell 2,y.cell 3]])]}))))) else aj.ok (Ex.norm,Hg c k l ys (IntKind.i64.wrap (i+1)))) else cl N 81 [c.t,i64 k,e.ay 0 2 true,e.ay 2 6 true] fun x=>aG x 0 fun y=>aG x 1 fun y_1=>chk (y.cells.length==4&& !y.aV) (bT y_1 fun v=>bif v then chk ((e.ay 0 2 true).cells.length==2&& !(e.ay 0 2 true).aV) (chk (y.cells.length==4&& !y.aV) (dB (T.oq 6) [T.agg [(e.ay 0 2 true).cell 0,(e.ay 0 2 true).cell 1,y.cell 0,y.cell 1,y.cell 2,y.cell 3]] (chk (decide (((List.map En.t ys).length+1)*64≤140737488355328)) (aj.ok (Ex.norm,{tmps:=slots 59 [(1,PV.t (i64 k)),(2,PV.t (T.sl 8 (List.map Ch.t l))),(3,PV.ptr 0 0),(7,PV.own 1),(12,PV.t (T.sl 8 (List.map Ch.t l))),(13,PV.t (i64 (↑(List.map Ch.t l).length:Int))),(14,PV.t (i64 (IntKind.i64.wrap (i+1))))],heap:=[ah.box 56 6 (PV.t c.t),ah.row 104 6 (List.map En.t ys++ [T.agg [(e.ay 0 2 true).cell 0,(e.ay 0 2 true).cell 1,y.cell 0,y.cell 1,y.cell 2,y.cell 3]])]}))))) else aj.ok (Ex.norm,Hg c k l ys (IntKind.i64.wrap (i+1))))) else aj.ok (Ex.exit 0,{tmps:=slots 59 [(7,PV.own 0)],heap:=[ah.row 104 6 (List.map En.t ys)]}):=by kernel_rfl
theorem Xd (N:Nat) (ys:List T):aS env N 46 0 3 (aY env 46) (.exit 0) (⟨slots 59 [(7,.own 0)],[.row 104 6 ys]⟩)=aj.ok (T.sl 6 ys):=by kernel_rfl
def agD (L M:List (List Ch)) (g:T) (i:Int):St:=⟨slots 32 [(1,.t (.sl 1 (dH M))),(2,.t g),(15,.t (.sl 1 (dH L))),(16,.t (i64 (dH L).length)),(17,.t (i64 i))],[]⟩
theorem q48 (N:Nat) (L M:List (List Ch)) (g:T):ak env (N+1) 48 [.sl 1 (dH L),.sl 1 (dH M),g]=W [.sl 1 (dH L),.sl 1 (dH M),g] (bif (↑(List.map (fun l=>T.sl 8 (List.map Ch.t l)) L).length:Int) !=(↑(List.map (fun l=>T.sl 8 (List.map Ch.t l)) M).length:Int) then rB false else bC env N 48 4 (agD L M g 0)):=by kernel_rfl
theorem ajs (N:Nat) (L M:List (List Ch)) (g:T) (i:Int):aH env N 48 0 4 (agD L M g i)=bif decide (i < (↑(List.map (fun l=>T.sl 8 (List.map Ch.t l)) L).length:Int)) then bV (List.map (fun l=>T.sl 8 (List.map Ch.t l)) L) i fun e=>bV (List.map (fun l=>T.sl 8 (List.map Ch.t l)) M) i fun e_1=>oN env (aK env N) g [e,e_1] fun r=>bT r fun b=>bif !b then aj.ok (Ex.ret,{tmps:=slots 32 [(6,PV.t (T.bool false))],heap:=[]}) else aj.ok (Ex.norm,agD L M g (IntKind.i64.wrap (i+1))) else aj.ok (Ex.exit 0,{tmps:=slots 32 [],heap:=[]}):=by kernel_rfl
theorem adb (N:Nat) (b:Bool):aS env N 48 0 4 (aY env 48) (.ret) (⟨slots 32 [(6,.t (.bool b))],[]⟩)=rB b:=by kernel_rfl
theorem Xe (N:Nat):aS env N 48 0 4 (aY env 48) (.exit 0) (⟨slots 32 [],[]⟩)=rB true:=by kernel_rfl
def YD (t:List Cf) (L:List (List Ch)) (i:Int) (x:Px) (ys:List Int):St:=⟨slots 69 [(0,.t (.sl 6 (t.map Cf.t))),(1,.t (.sl 1 (dH L))),(2,.t (i64 i)),(7,.ptr 0 0),(10,.own 1)],[.box 25 2 (.t x.t),.row 3 1 (ints ys)]⟩
theorem q13 (N:Nat) (t:List Cf) (L:List (List Ch)) (i:Int) (x:Px):ak env (N+1) 13 [.sl 6 (t.map Cf.t),.sl 1 (dH L),i64 i,x.t]=W [.sl 6 (t.map Cf.t),.sl 1 (dH L),i64 i,x.t] (bif decide (i < 0) then aj.ok (T.au [T.sl 1 [],T.bool false]) else bif decide (i≥(↑(List.map Cf.t t).length:Int)) then aj.ok (T.au [T.sl 1 [],T.bool false]) else bif decide ((↑(List.map Cf.t t).length:Int) > 8) then aj.ok (T.au [T.sl 1 [],T.bool false]) else dB (T.oq 1) [i64 i] (bC env N 13 4 {tmps:=slots 69 [(0,PV.t (T.sl 6 (List.map Cf.t t))),(1,PV.t (T.sl 1 (List.map (fun l=>T.sl 8 (List.map Ch.t l)) L))),(2,PV.t (i64 i)),(7,PV.ptr 0 0),(10,PV.own 1)],heap:=[ah.box 25 2 (PV.t x.t),ah.row 3 1 [i64 i]]})):=by kernel_rfl
theorem an8 (N:Nat) (t:List Cf) (L:List (List Ch)) (i:Int) (x:Px) (ys:List Int):aH env N 13 0 4 (YD t L i x ys)=cl N 37 [T.sl 1 (List.map (fun l=>T.sl 8 (List.map Ch.t l)) L),i64 i] fun x_1=>cl N 26 [x_1,x.t] fun x_2=>aG x_2 0 fun y=>aG x_2 1 fun y_1=>chk (y.cells.length==6&& !y.aV) (bT y_1 fun b=>bif !b then aj.ok (Ex.ret,{tmps:=slots 69 [(8,PV.own 0),(9,PV.t y_1)],heap:=[ah.row 3 1 (ints ys)]}) else iT IntKind.i64 (y.ay 5 1 false) fun a=>bif decide (a < 0) then aj.ok (Ex.ret,{tmps:=slots 69 [(8,PV.own 0),(9,PV.t y_1)],heap:=[ah.row 3 1 (ints ys)]}) else cl N 23 [T.sl 6 (List.map Cf.t t),i64 i,y.ay 5 1 false] fun x_3=>aG x_3 0 fun y=>aG x_3 1 fun pI=>aG x_3 2 fun zJ=>bT zJ fun b=>bif !b then aj.ok (Ex.ret,{tmps:=slots 69 [(8,PV.own 0),(9,PV.t (T.bool false))],heap:=[ah.row 3 1 (ints ys)]}) else bif (↑(ints ys).length:Int)==8 then aj.ok (Ex.ret,{tmps:=slots 69 [(8,PV.own 0),(9,PV.t (T.bool false))],heap:=[ah.row 3 1 (ints ys)]}) else dB (T.oq 1) [y] (chk (decide (((ints ys).length+1)*8≤140737488355328)) (aj.ok (Ex.norm,{tmps:=slots 69 [(0,PV.t (T.sl 6 (List.map Cf.t t))),(1,PV.t (T.sl 1 (List.map (fun l=>T.sl 8 (List.map Ch.t l)) L))),(2,PV.t y),(7,PV.ptr 0 0),(10,PV.own 1)],heap:=[ah.box 25 2 (PV.t x.t),ah.row 3 1 (ints ys++ [y])]})))):=by kernel_rfl
theorem ac1 (N:Nat) (ys:List T) (b:Bool):aS env N 13 0 4 (aY env 13) (.ret) (⟨slots 69 [(8,.own 0),(9,.t (.bool b))],[.row 3 1 ys]⟩)=aj.ok (T.au [T.sl 1 ys,T.bool b]):=by kernel_rfl
def agE (L:List (List Ch)) (i:Int):St:=⟨slots 19 [(0,.t (.sl 1 (dH L))),(3,.t (i64 i))],[]⟩
theorem q10 (N:Nat) (L:List (List Ch)):ak env (N+1) 10 [.sl 1 (dH L)]=W [.sl 1 (dH L)] (bC env N 10 2 (agE L 0)):=by kernel_rfl
theorem ajh (N:Nat) (L:List (List Ch)) (i:Int):aH env N 10 0 2 (agE L i)=bif decide (i < (↑(List.map (fun l=>T.sl 8 (List.map Ch.t l)) L).length:Int)) then bV (List.map (fun l=>T.sl 8 (List.map Ch.t l)) L) i fun e=>iO N 34 [e] fun b=>bif !b then aj.ok (Ex.ret,{tmps:=slots 19 [(2,PV.t (T.bool false))],heap:=[]}) else aj.ok (Ex.norm,agE L (IntKind.i64.wrap (i+1))) else aj.ok (Ex.exit 0,{tmps:=slots 19 [(0,PV.t (T.sl 1 (List.map (fun l=>T.sl 8 (List.map Ch.t l)) L)))],heap:=[]}):=by kernel_rfl
theorem ac0 (N:Nat) (b:Bool):aS env N 10 0 2 (aY env 10) (.ret) (⟨slots 19 [(2,.t (.bool b))],[]⟩)=rB b:=by kernel_rfl
theorem WS (N:Nat) (L:List (List Ch)):aS env N 10 0 2 (aY env 10) (.exit 0) (⟨slots 19 [(0,.t (.sl 1 (dH L)))],[]⟩)=rB (decide ((↑(List.map (fun l=>T.sl 8 (List.map Ch.t l)) L).length:Int)≤10)):=by kernel_rfl
def agF (t:List Cf) (i:Int):St:=⟨slots 19 [(0,.t (.sl 6 (t.map Cf.t))),(3,.t (i64 i))],[]⟩
theorem q9 (N:Nat) (t:List Cf):ak env (N+1) 9 [.sl 6 (t.map Cf.t)]=W [.sl 6 (t.map Cf.t)] (bC env N 9 2 (agF t 0)):=by kernel_rfl
theorem am2 (N:Nat) (t:List Cf) (i:Int):aH env N 9 0 2 (agF t i)=bif decide (i < (↑(List.map Cf.t t).length:Int)) then bV (List.map Cf.t t) i fun e=>iO N 33 [e] fun b=>bif !b then aj.ok (Ex.ret,{tmps:=slots 19 [(2,PV.t (T.bool false))],heap:=[]}) else aj.ok (Ex.norm,agF t (IntKind.i64.wrap (i+1))) else aj.ok (Ex.exit 0,{tmps:=slots 19 [(0,PV.t (T.sl 6 (List.map Cf.t t)))],heap:=[]}):=by kernel_rfl
theorem agn (N:Nat) (b:Bool):aS env N 9 0 2 (aY env 9) (.ret) (⟨slots 19 [(2,.t (.bool b))],[]⟩)=rB b:=by kernel_rfl
theorem Z8 (N:Nat) (t:List Cf):aS env N 9 0 2 (aY env 9) (.exit 0) (⟨slots 19 [(0,.t (.sl 6 (t.map Cf.t)))],[]⟩)=rB (decide ((↑(List.map Cf.t t).length:Int)≤10)):=by kernel_rfl
def agH (L M:List (List Ch)) (i:Int):St:=⟨slots 27 [(0,.t (.sl 1 (dH L))),(1,.t (.sl 1 (dH M))),(5,.t (i64 i))],[]⟩
theorem q15 (N:Nat) (L M:List (List Ch)):ak env (N+1) 15 [.sl 1 (dH L),.sl 1 (dH M)]=W [.sl 1 (dH L),.sl 1 (dH M)] (bif (↑(List.map (fun l=>T.sl 8 (List.map Ch.t l)) L).length:Int) !=(↑(List.map (fun l=>T.sl 8 (List.map Ch.t l)) M).length:Int) then rB false else bC env N 15 4 (agH L M 0)):=by kernel_rfl
theorem aji (N:Nat) (L M:List (List Ch)) (i:Int):aH env N 15 0 4 (agH L M i)=bif decide (i < (↑(List.map (fun l=>T.sl 8 (List.map Ch.t l)) L).length:Int)) then bV (List.map (fun l=>T.sl 8 (List.map Ch.t l)) L) i fun e=>bV (List.map (fun l=>T.sl 8 (List.map Ch.t l)) M) i fun e_1=>iO N 41 [e,e_1] fun b=>bif !b then aj.ok (Ex.ret,{tmps:=slots 27 [(4,PV.t (T.bool false))],heap:=[]}) else aj.ok (Ex.norm,agH L M (IntKind.i64.wrap (i+1))) else aj.ok (Ex.exit 0,{tmps:=slots 27 [],heap:=[]}):=by kernel_rfl
theorem ac2 (N:Nat) (b:Bool):aS env N 15 0 4 (aY env 15) (.ret) (⟨slots 27 [(4,.t (.bool b))],[]⟩)=rB b:=by kernel_rfl
theorem WT (N:Nat):aS env N 15 0 4 (aY env 15) (.exit 0) (⟨slots 27 [],[]⟩)=rB true:=by kernel_rfl
theorem q24 (N:Nat) (l:List Ch) (x:Px):ak env (N+1) 24 [.sl 8 (l.map Ch.t),x.t]=W [.sl 8 (l.map Ch.t),x.t] (cl N 26 [T.sl 8 (List.map Ch.t l),x.t] fun x=>aG x 0 fun y=>aG x 1 fun y_1=>chk (y.cells.length==6&& !y.aV) (aj.ok y_1)):=by kernel_rfl
def agG (l:List Px) (x:Px) (i:Int):St:=⟨slots 18 [(0,.t (.sl 2 (l.map Px.t))),(3,.ptr 0 0),(5,.t (i64 i))],[.box 25 2 (.t x.t)]⟩
theorem q31 (N:Nat) (l:List Px) (x:Px):ak env (N+1) 31 [.sl 2 (l.map Px.t),x.t]=W [.sl 2 (l.map Px.t),x.t] (bC env N 31 2 (agG l x 0)):=by kernel_rfl
theorem ajj (N:Nat) (l:List Px) (x:Px) (i:Int):aH env N 31 0 2 (agG l x i)=bif decide (i < (↑(List.map Px.t l).length:Int)) then bV (List.map Px.t l) i fun e=>match T.dZ [0,0] e.cells [i64 x.a,i64 x.n] with|some b=>bif b then aj.ok (Ex.ret,{tmps:=slots 18 [(4,PV.t (T.bool true))],heap:=[]}) else aj.ok (Ex.norm,agG l x (IntKind.i64.wrap (i+1)))|none=>aj.stuck else aj.ok (Ex.exit 0,{tmps:=slots 18 [],heap:=[]}):=by kernel_rfl
theorem ac5 (N:Nat) (b:Bool):aS env N 31 0 2 (aY env 31) (.ret) (⟨slots 18 [(4,.t (.bool b))],[]⟩)=rB b:=by kernel_rfl
theorem WW (N:Nat):aS env N 31 0 2 (aY env 31) (.exit 0) (⟨slots 18 [],[]⟩)=rB false:=by kernel_rfl
end
section
open Go.RowKit Go.Proofs
variable [Lv]
def hSt (t:List Cf):List ah:=[.box 22 1 (.t (.sl 6 (t.map Cf.t))),.box 71 1 (.fn 35 [] [.ptr 0 0,.ptr 1 0])]
def acp (t:List Cf) (L:List (List Ch)) (n:Int) (a:T) (b:Bool):Pin:=⟨35,[.t (.sl 1 (dH L)),.t (i64 n),.ptr 0 0,.ptr 1 0],hSt t,.au [.t a,.t (.bool b)],hSt t⟩
theorem aqz (N:Nat) (t:List Cf) (L M:List (List Ch)) (n:Int) (a:T) (b:Bool) {β:Type} (K:PV→List ah→aj β):fQ env (bI env N [acp t M (IntKind.i64.wrap (n - 1)) a b]) N 35 [.t (.sl 1 (dH L)),.t (i64 n),.ptr 0 0,.ptr 1 0] [.box 22 1 (.t (.sl 6 (t.map Cf.t))),.box 71 1 (.fn 35 [] [.ptr 0 0,.ptr 1 0])] K=cl N 21 [T.sl 6 (List.map Cf.t t),T.sl 1 (List.map (fun l=>T.sl 8 (List.map Ch.t l)) L)] fun x=>bT x fun b_1=>bif b_1 then K (PV.au [PV.t (T.sl 1 (List.map (fun l=>T.sl 8 (List.map Ch.t l)) L)),PV.t x]) [ah.box 22 1 (PV.t (T.sl 6 (List.map Cf.t t))),ah.box 71 1 (PV.fn 35 [] [PV.ptr 0 0,PV.ptr 1 0])] else bif n==0 then K (PV.au [PV.t (T.sl 1 (List.map (fun l=>T.sl 8 (List.map Ch.t l)) L)),PV.t x]) [ah.box 22 1 (PV.t (T.sl 6 (List.map Cf.t t))),ah.box 71 1 (PV.fn 35 [] [PV.ptr 0 0,PV.ptr 1 0])] else cl N 19 [T.sl 6 (List.map Cf.t t),T.sl 1 (List.map (fun l=>T.sl 8 (List.map Ch.t l)) L)] fun x=>iQ ([PV.t x,PV.t (i64 (IntKind.i64.wrap (n - 1))),PV.ptr 0 0,PV.ptr 1 0]= [PV.t (T.sl 1 (List.map (fun l=>T.sl 8 (List.map Ch.t l)) M)),PV.t (i64 (IntKind.i64.wrap (n - 1))),PV.ptr 0 0,PV.ptr 1 0]∧ [ah.box 22 1 (PV.t (T.sl 6 (List.map Cf.t t))),ah.box 71 1 (PV.fn 35 [] [PV.ptr 0 0,PV.ptr 1 0])]= [ah.box 22 1 (PV.t (T.sl 6 (List.map Cf.t t))),ah.box 71 1 (PV.fn 35 [] [PV.ptr 0 0,PV.ptr 1 0])]) (K (PV.au [PV.t a,PV.t (T.bool b)]) [ah.box 22 1 (PV.t (T.sl 6 (List.map Cf.t t))),ah.box 71 1 (PV.fn 35 [] [PV.ptr 0 0,PV.ptr 1 0])]):=by kernel_rfl
theorem aqA (N:Nat) (t:List Cf) (L:List (List Ch)) (n:Int) (a:T) (b:Bool):fQ env (bI env N [acp t L n a b]) N 11 [.t (.sl 6 (t.map Cf.t))] [] (aY env 11)=cl N 17 [T.sl 6 (List.map Cf.t t)] fun x=>cl N 29 [i64 (↑(List.map Cf.t t).length:Int)] fun x_1=>iQ ([PV.t x,PV.t x_1,PV.ptr 0 0,PV.ptr 1 0]= [PV.t (T.sl 1 (List.map (fun l=>T.sl 8 (List.map Ch.t l)) L)),PV.t (i64 n),PV.ptr 0 0,PV.ptr 1 0]∧ [ah.box 22 1 (PV.t (T.sl 6 (List.map Cf.t t))),ah.box 71 1 (PV.fn 35 [] [PV.ptr 0 0,PV.ptr 1 0])]= [ah.box 22 1 (PV.t (T.sl 6 (List.map Cf.t t))),ah.box 71 1 (PV.fn 35 [] [PV.ptr 0 0,PV.ptr 1 0])]) (aj.ok (T.au [a,T.bool b])):=by kernel_rfl
theorem ada (N:Nat) (ys:List T):aS env N 46 0 3 (aY env 46) (.ret) (⟨slots 59 [(6,.own 0)],[.row 104 6 ys]⟩)=aj.ok (T.sl 6 ys):=by kernel_rfl
theorem apP (N:Nat) (Kc:St→aj T):NK env N 8 0 5 (oC env 8 []) Kc=dB (T.oq 2) [T.agg [i64 167772160,i64 8]] (dB (T.oq 3) [T.agg [i64 0,i64 1,i64 3],T.agg [i64 2,i64 1,i64 3]] (cl N 32 [i64 3,T.sl 2 [T.agg [i64 167772160,i64 8]],T.sl 3 [T.agg [i64 0,i64 1,i64 3],T.agg [i64 2,i64 1,i64 3]]] fun x=>cl N 11 [x] fun x_1=>aG x_1 0 fun y=>aG x_1 1 fun y_1=>cl N 13 [x,y,i64 2,T.agg [i64 167772160,i64 8]] fun x_2=>aG x_2 0 fun pI=>aG x_2 1 fun zJ=>Kc {tmps:=[PV.t (T.bool false),PV.ptr 0 0,PV.t x,PV.t y,PV.t y_1,PV.t pI,PV.t zJ,PV.t (T.agg [i64 167772160,i64 8]),PV.t (T.agg [i64 167772160,i64 8]),PV.own 1,PV.t (T.agg [i64 0,i64 1,i64 3]),PV.t (T.agg [i64 2,i64 1,i64 3]),PV.own 2,PV.t x,PV.t x_1,PV.t x,PV.t x_1,PV.t y,PV.t y_1,PV.t x_2,PV.t x,PV.t y,PV.t (T.agg [i64 167772160,i64 8]),PV.t x_2,PV.t pI,PV.t zJ,PV.au [],PV.au [],PV.au [],PV.au [],PV.au [],PV.au [],PV.au [],PV.au [],PV.au [],PV.au [],PV.au [],PV.au [],PV.au [],PV.au [],PV.au [],PV.au [],PV.au [],PV.au [],PV.au [],PV.au [],PV.au [],PV.au [],PV.au [],PV.au [],PV.au [],PV.au [],PV.au [],PV.au [],PV.au [],PV.au [],PV.au [],PV.au [],PV.au [],PV.au [],PV.au [],PV.au [],PV.au [],PV.au [],PV.au [],PV.au [],PV.au [],PV.au [],PV.au [],PV.au [],PV.au [],PV.au [],PV.au [],PV.au [],PV.au [],PV.au [],PV.au [],PV.au [],PV.au [],PV.au [],PV.au [],PV.au [],PV.au [],PV.au [],PV.au [],PV.au [],PV.au [],PV.au [],PV.au [],PV.au [],PV.au [],PV.au [],PV.au [],PV.au [],PV.au []],heap:=[ah.box 25 2 (PV.t (T.agg [i64 167772160,i64 8])),ah.jR 25 2 [T.agg [i64 167772160,i64 8]],ah.jR 67 3 [T.agg [i64 0,i64 1,i64 3],T.agg [i64 2,i64 1,i64 3]]]})):=by kernel_rfl
theorem aeS (N:Nat) (t:List Cf) (L:List (List Ch)) (n:Int) {β:Type} (K:PV→List ah→aj β):fQ env (bI env N []) N 35 [.t (.sl 1 (dH L)),.t (i64 n),.ptr 0 0,.ptr 1 0] [.box 22 1 (.t (.sl 6 (t.map Cf.t))),.box 71 1 (.fn 35 [] [.ptr 0 0,.ptr 1 0])] K=cl N 21 [T.sl 6 (List.map Cf.t t),T.sl 1 (List.map (fun l=>T.sl 8 (List.map Ch.t l)) L)] fun x=>bT x fun b=>bif b then K (PV.au [PV.t (T.sl 1 (List.map (fun l=>T.sl 8 (List.map Ch.t l)) L)),PV.t x]) [ah.box 22 1 (PV.t (T.sl 6 (List.map Cf.t t))),ah.box 71 1 (PV.fn 35 [] [PV.ptr 0 0,PV.ptr 1 0])] else bif n==0 then K (PV.au [PV.t (T.sl 1 (List.map (fun l=>T.sl 8 (List.map Ch.t l)) L)),PV.t x]) [ah.box 22 1 (PV.t (T.sl 6 (List.map Cf.t t))),ah.box 71 1 (PV.fn 35 [] [PV.ptr 0 0,PV.ptr 1 0])] else cl N 19 [T.sl 6 (List.map Cf.t t),T.sl 1 (List.map (fun l=>T.sl 8 (List.map Ch.t l)) L)] fun x=>aj.stuck:=by kernel_rfl
end
section
open Go.RowKit Go.Proofs
variable [Lv]
abbrev gZ (t:List (List En)):List T:=t.map fun l=> .sl 6 (l.map En.t)
def agO (l:List Ch) (f:T) (i:Int):St:=⟨slots 19 [(0,.t (.sl 8 (l.map Ch.t))),(1,.t f),(7,.t (i64 (l.map Ch.t).length)),(8,.t (i64 i))],[]⟩
def agJ (l m:List Ch) (f:T) (i:Int):St:=⟨slots 32 [(1,.t (.sl 8 (m.map Ch.t))),(2,.t f),(15,.t (.sl 8 (l.map Ch.t))),(16,.t (i64 (l.map Ch.t).length)),(17,.t (i64 i))],[]⟩
def sMn (l:List Rt) (r:Rt) (f:T) (i:Int):St:=⟨slots 33 [(0,.t (.sl 6 (l.map Rt.t))),(1,.t f),(4,.ptr 0 0),(5,.ptr 1 0),(6,.t (i64 i))],[.box 44 6 (.agg [.t (i64 0),.t (i64 0),.own 2,.t (i64 0),.t (i64 0),.t (i64 0)]),.box 44 6 (.t r.t),.row 3 1 []]⟩
def sTh (c:Cf) (t:List (List En)) (x:Px) (r:List Rt) (n i:Int):St:=⟨slots 61 [(1,.t (.sl 1 (gZ t))),(3,.ptr 0 0),(5,.ptr 1 0),(7,.own 2),(31,.t (i64 n)),(32,.t (i64 i))],[.box 56 6 (.t c.t),.box 25 2 (.t x.t),.row 44 6 (r.map Rt.t)]⟩
def akJ (c:Cf) (t:List (List En)) (x:Px) (r:List Rt) (i:Int):St:=⟨slots 76 [(1,.t (.sl 1 (gZ t))),(3,.ptr 0 0),(5,.ptr 1 0),(7,.own 2),(8,.t (i64 i))],[.box 56 6 (.t c.t),.box 25 2 (.t x.t),.row 44 6 (r.map Rt.t)]⟩
def acQ (c:Cf) (t:List (List En)) (x:Px) (r:List Rt) (i:Int):St:=⟨slots 76 [(1,.t (.sl 1 (gZ t))),(3,.ptr 0 0),(5,.ptr 1 0),(7,.own 2),(9,.t (i64 i))],[.box 56 6 (.t c.t),.box 25 2 (.t x.t),.row 44 6 (r.map Rt.t)]⟩
def sFC (l:List Ch) (i:Int):St:=⟨slots 22 [(0,.t (.sl 8 (l.map Ch.t))),(3,.t (i64 i))],[]⟩
def sFw (t:List (List En)) (i:Int):St:=⟨slots 19 [(0,.t (.sl 1 (gZ t))),(3,.t (i64 i))],[]⟩
def sGt (l:List Ch) (x:Px) (i:Int):St:=⟨slots 26 [(0,.t (.sl 8 (l.map Ch.t))),(3,.ptr 0 0),(4,.ptr 1 0),(6,.t (i64 i))],[.box 25 2 (.t x.t),.box 44 6 (.agg [.t (i64 0),.t (i64 0),.own 2,.t (i64 0),.t (i64 0),.t (i64 0)]),.row 3 1 []]⟩
def sSr (l m:List Rt) (i:Int):St:=⟨slots 27 [(0,.t (.sl 6 (l.map Rt.t))),(1,.t (.sl 6 (m.map Rt.t))),(5,.t (i64 i))],[]⟩
def sSm (l m:List Ch) (i:Int):St:=⟨slots 42 [(0,.t (.sl 8 (l.map Ch.t))),(1,.t (.sl 8 (m.map Ch.t))),(5,.t (i64 i))],[]⟩
def sPt (l:List Px) (x:Px) (r:List Px) (d:Bool) (i:Int):St:=⟨slots 50 [(0,.t (.sl 2 (l.map Px.t))),(3,.ptr 0 0),(5,.own 1),(6,.t (.bool d)),(7,.t (i64 i))],[.box 25 2 (.t x.t),.row 25 2 (r.map Px.t)]⟩
def sBs (l:List Rt) (r:Rt) (i:Int):St:=⟨slots 31 [(0,.t (.sl 6 (l.map Rt.t))),(2,.ptr 0 0),(4,.ptr 1 0),(5,.t (i64 i))],[.box 44 6 (.agg [.t (i64 0),.t (i64 0),.own 2,.t (i64 0),.t (i64 0),.t (i64 0)]),.box 44 6 (.t r.t),.row 3 1 []]⟩
def sG8 (l:List En) (x:Px) (i:Int):St:=⟨slots 29 [(3,.ptr 0 0),(4,.ptr 1 0),(6,.t (.sl 6 (l.map En.t))),(7,.t (i64 i))],[.box 25 2 (.t x.t),.box 42 4 (.agg [.t (i64 0),.own 2,.t (i64 0),.t (i64 0)]),.row 3 1 []]⟩
def sS8 (l:List En) (i:Int):St:=⟨slots 45 [(0,.t (.sl 6 (l.map En.t))),(3,.t (i64 i))],[]⟩
def anK (a b:Rt) (l:List Int) (i:Int):St:=⟨slots 99 [(2,.ptr 0 0),(3,.ptr 1 0),(5,.own 2),(6,.t (i64 i))],[.box 44 6 (.t a.t),.box 44 6 (.t b.t),.row 3 1 (ints l)]⟩
def akE (l:List Int) (i:Int):St:=⟨slots 99 [(5,.own 0),(7,.t (i64 i))],[.row 3 1 (ints l)]⟩
def sL1 (c:Cf) (t:List (List En)) (l:List Px) (i:Int):St:=⟨slots 87 [(1,.t (.sl 1 (gZ t))),(2,.ptr 0 0),(5,.t (.sl 2 (l.map Px.t))),(6,.t (i64 i))],[.box 56 6 (.t c.t)]⟩
def sL2 (c:Cf) (t:List (List En)) (l:List Px) (i:Int):St:=⟨slots 87 [(1,.t (.sl 1 (gZ t))),(2,.ptr 0 0),(5,.t (.sl 2 (l.map Px.t))),(7,.t (i64 i))],[.box 56 6 (.t c.t)]⟩
def sL3 (c:Cf) (t:List (List En)) (l:List Px) (i j:Int):St:=⟨slots 87 [(1,.t (.sl 1 (gZ t))),(2,.ptr 0 0),(5,.t (.sl 2 (l.map Px.t))),(7,.t (i64 i)),(8,.t (i64 j))],[.box 56 6 (.t c.t)]⟩
def sL4 (c:Cf) (t:List (List En)) (l:List Px) (r:List Ch) (i:Int):St:=⟨slots 87 [(1,.t (.sl 1 (gZ t))),(2,.ptr 0 0),(5,.t (.sl 2 (l.map Px.t))),(9,.own 1),(10,.t (i64 i))],[.box 56 6 (.t c.t),.row 46 8 (r.map Ch.t)]⟩
theorem q61 (N:Nat) (l:List Ch) (f:T):ak env (N+1) 61 [.sl 8 (l.map Ch.t),f]=W [.sl 8 (l.map Ch.t),f] (bC env N 61 2 (agO l f 0)):=by kernel_rfl
theorem aoa (N:Nat) (l:List Ch) (f:T) (i:Int):aH env N 61 0 2 (agO l f i)=bif decide (i < (↑(List.map Ch.t l).length:Int)) then bV (List.map Ch.t l) i fun e=>oN env (aK env N) f [e] fun r=>bT r fun v=>bif v then aj.ok (Ex.ret,{tmps:=slots 19 [(4,PV.t (i64 i))],heap:=[]}) else aj.ok (Ex.norm,agO l f (IntKind.i64.wrap (i+1))) else aj.ok (Ex.exit 0,{tmps:=slots 19 [],heap:=[]}):=by kernel_rfl
theorem adh (N:Nat) (i:Int):aS env N 61 0 2 (aY env 61) (.ret) (⟨slots 19 [(4,.t (i64 i))],[]⟩)=rI i:=by kernel_rfl
theorem Xl (N:Nat):aS env N 61 0 2 (aY env 61) (.exit 0) (⟨slots 19 [],[]⟩)=rI (-1):=by kernel_rfl
theorem q62 (N:Nat) (c:Ch) (x:Px):ak env (N+1) 62 [c.t,.ref x.t]=W [c.t,.ref x.t] (rB (c.x.a==x.a&&(c.x.n==x.n&&true))):=by kernel_rfl
theorem q26 (N:Nat) (l:List Ch) (x:Px):ak env (N+1) 26 [.sl 8 (l.map Ch.t),x.t]=W [.sl 8 (l.map Ch.t),x.t] (cl N 61 [T.sl 8 (List.map Ch.t l),T.fn 62 [] [x.t.ref]] fun x=>iT IntKind.i64 x fun a=>bif decide (a < 0) then aj.ok (T.au [T.agg [i64 0,i64 0,T.sl 1 [],i64 0,i64 0,i64 0],T.bool false]) else pJ x fun i=>bV (List.map Ch.t l) i fun e=>chk ((e.ay 2 6 true).cells.length==6&& !(e.ay 2 6 true).aV) (aj.ok (T.au [e.ay 2 6 true,T.bool true]))):=by kernel_rfl
theorem q49 (N:Nat) (l m:List Ch):ak env (N+1) 49 [.sl 8 (l.map Ch.t),.sl 8 (m.map Ch.t)]=W [.sl 8 (l.map Ch.t),.sl 8 (m.map Ch.t)] (cl N 83 [T.sl 8 (List.map Ch.t l),T.sl 8 (List.map Ch.t m),T.fn 84 [] []] fun x=>aj.ok x):=by kernel_rfl
theorem q84 (N:Nat) (a b:Ch):ak env (N+1) 84 [a.t,b.t]=W [a.t,b.t] (bif a.x.a==b.x.a&&(a.x.n==b.x.n&&true) then cl N 27 [a.r.t,b.r.t] fun x=>aj.ok x else rB false):=by kernel_rfl
theorem q83 (N:Nat) (l m:List Ch) (f:T):ak env (N+1) 83 [.sl 8 (l.map Ch.t),.sl 8 (m.map Ch.t),f]=W [.sl 8 (l.map Ch.t),.sl 8 (m.map Ch.t),f] (bif (↑(List.map Ch.t l).length:Int) !=(↑(List.map Ch.t m).length:Int) then rB false else bC env N 83 4 (agJ l m f 0)):=by kernel_rfl
theorem ajD (N:Nat) (l m:List Ch) (f:T) (i:Int):aH env N 83 0 4 (agJ l m f i)=bif decide (i < (↑(List.map Ch.t l).length:Int)) then bV (List.map Ch.t l) i fun e=>chk (e.cells.length==8&& !e.aV) (bV (List.map Ch.t m) i fun e_1=>chk (e_1.cells.length==8&& !e_1.aV) (oN env (aK env N) f [e,e_1] fun r=>bT r fun b=>bif !b then aj.ok (Ex.ret,{tmps:=slots 32 [(6,PV.t (T.bool false))],heap:=[]}) else aj.ok (Ex.norm,agJ l m f (IntKind.i64.wrap (i+1))))) else aj.ok (Ex.exit 0,{tmps:=slots 32 [],heap:=[]}):=by kernel_rfl
theorem adi (N:Nat) (b:Bool):aS env N 83 0 4 (aY env 83) (.ret) (⟨slots 32 [(6,.t (.bool b))],[]⟩)=rB b:=by kernel_rfl
theorem Xq (N:Nat):aS env N 83 0 4 (aY env 83) (.exit 0) (⟨slots 32 [],[]⟩)=rB true:=by kernel_rfl
theorem aqE (N:Nat) (a b:Ch):ak env (N+1) 103 [a.t,b.t]=W [a.t,b.t] (cl N 80 [a.x.t,b.x.t] fun x=>aj.ok x):=by kernel_rfl
theorem aqC (N:Nat) (l:List Rt):ak env (N+1) 100 [.sl 6 (l.map Rt.t)]=W [.sl 6 (l.map Rt.t)] (bif (↑(List.map Rt.t l).length:Int)==0 then aj.ok (T.au [T.agg [i64 0,i64 0,T.sl 1 [],i64 0,i64 0,i64 0],T.bool false]) else cl N 133 [T.sl 6 (List.map Rt.t l),T.fn 30 [] []] fun x=>chk (x.cells.length==6&& !x.aV) (aj.ok (T.au [x,T.bool true]))):=by kernel_rfl
theorem aqX (N:Nat) (l:List Rt) (f:T):ak env (N+1) 133 [.sl 6 (l.map Rt.t),f]=W [.sl 6 (l.map Rt.t),f] (bif decide ((↑(List.map Rt.t l).length:Int) < 1) then aj.stuck else bV (List.map Rt.t l) 0 fun e=>chk (e.cells.length==6&& !e.aV) (bC env N 133 5 {tmps:=slots 33 [(0,PV.t (T.sl 6 (List.map Rt.t l))),(1,PV.t f),(4,PV.ptr 0 0),(5,PV.ptr 1 0),(6,PV.t (i64 1))],heap:=[ah.box 44 6 (PV.agg [PV.t (i64 0),PV.t (i64 0),PV.own 2,PV.t (i64 0),PV.t (i64 0),PV.t (i64 0)]),ah.box 44 6 (PV.t e),ah.row 3 1 []]})):=by kernel_rfl
theorem ad9 (N:Nat) (l:List Rt) (r:Rt) (f:T) (i:Int):aH env N 133 0 5 (sMn l r f i)=bif decide (i < (↑(List.map Rt.t l).length:Int)) then bV (List.map Rt.t l) i fun e=>oN env (aK env N) f [e,r.t] fun r_1=>iT IntKind.i64 r_1 fun a=>bif decide (a < 0) then bV (List.map Rt.t l) i fun e=>chk (e.cells.length==6&& !e.aV) (aj.ok (Ex.norm,{tmps:=slots 33 [(0,PV.t (T.sl 6 (List.map Rt.t l))),(1,PV.t f),(4,PV.ptr 0 0),(5,PV.ptr 1 0),(6,PV.t (i64 (IntKind.i64.wrap (i+1))))],heap:=[ah.box 44 6 (PV.agg [PV.t (i64 0),PV.t (i64 0),PV.own 2,PV.t (i64 0),PV.t (i64 0),PV.t (i64 0)]),ah.box 44 6 (PV.t e),ah.row 3 1 []]})) else aj.ok (Ex.norm,{tmps:=slots 33 [(0,PV.t (T.sl 6 (List.map Rt.t l))),(1,PV.t f),(4,PV.ptr 0 0),(5,PV.ptr 1 0),(6,PV.t (i64 (IntKind.i64.wrap (i+1))))],heap:=[ah.box 44 6 (PV.agg [PV.t (i64 0),PV.t (i64 0),PV.own 2,PV.t (i64 0),PV.t (i64 0),PV.t (i64 0)]),ah.box 44 6 (PV.t r.t),ah.row 3 1 []]}) else aj.ok (Ex.exit 0,{tmps:=slots 33 [(4,PV.ptr 0 0),(5,PV.ptr 1 0)],heap:=[ah.box 44 6 (PV.agg [PV.t (i64 0),PV.t (i64 0),PV.own 2,PV.t (i64 0),PV.t (i64 0),PV.t (i64 0)]),ah.box 44 6 (PV.t r.t),ah.row 3 1 []]}):=by kernel_rfl
theorem Ti (N:Nat) (r:Rt):aS env N 133 0 5 (aY env 133) (.exit 0) (⟨slots 33 [(4,.ptr 0 0),(5,.ptr 1 0)],[.box 44 6 (.agg [.t (i64 0),.t (i64 0),.own 2,.t (i64 0),.t (i64 0),.t (i64 0)]),.box 44 6 (.t r.t),.row 3 1 []]⟩)=aj.ok r.t:=by kernel_rfl
theorem aqD (N:Nat) (c:Cf) (t:List (List En)) (x:Px):ak env (N+1) 101 [c.t,.sl 1 (gZ t),x.t]=W [c.t,.sl 1 (gZ t),x.t] (iO N 52 [c.t] fun b=>bif !b then aj.ok (T.sl 6 []) else iO N 134 [T.sl 2 (List.map Px.t c.w),x.t] fun v=>bif v then cl N 28 [i64 c.d] fun x_1=>dB (T.oq 6) [x_1] (bC env N 101 7 {tmps:=slots 61 [(1,PV.t (T.sl 1 (List.map (fun l=>T.sl 6 (List.map En.t l)) t))),(3,PV.ptr 0 0),(5,PV.ptr 1 0),(7,PV.own 2),(31,PV.t (i64 (dh false [(↑(List.map Sd.t c.s).length:Int)] (↑(List.map (fun l=>T.sl 6 (List.map En.t l)) t).length:Int)))),(32,PV.t (i64 0))],heap:=[ah.box 56 6 (PV.t c.t),ah.box 25 2 (PV.t x.t),ah.row 44 6 [x_1]]}) else bC env N 101 7 {tmps:=slots 61 [(1,PV.t (T.sl 1 (List.map (fun l=>T.sl 6 (List.map En.t l)) t))),(3,PV.ptr 0 0),(5,PV.ptr 1 0),(7,PV.own 2),(31,PV.t (i64 (dh false [(↑(List.map Sd.t c.s).length:Int)] (↑(List.map (fun l=>T.sl 6 (List.map En.t l)) t).length:Int)))),(32,PV.t (i64 0))],heap:=[ah.box 56 6 (PV.t c.t),ah.box 25 2 (PV.t x.t),ah.row 44 6 []]}):=by kernel_rfl
theorem ad2 (N:Nat) (c:Cf) (t:List (List En)) (x:Px) (r:List Rt) (n i:Int):aH env N 101 0 7 (sTh c t x r n i)=bif decide (i < n) then bV (List.map (fun l=>T.sl 6 (List.map En.t l)) t) i fun e=>cl N 135 [e,x.t] fun x_1=>aG x_1 0 fun y=>aG x_1 1 fun y_1=>chk (y.cells.length==4&& !y.aV) (bT y_1 fun b=>bif !b then aj.ok (Ex.norm,sTh c t x r n (IntKind.i64.wrap (i+1))) else cl N 136 [c.t,i64 i,x.t,y] fun x_2=>aG x_2 0 fun y=>aG x_2 1 fun pI=>chk (y.cells.length==6&& !y.aV) (bT pI fun v=>bif v then dB (T.oq 6) [y] (chk (decide (((List.map Rt.t r).length+1)*64≤140737488355328)) (aj.ok (Ex.norm,{tmps:=slots 61 [(1,PV.t (T.sl 1 (List.map (fun l=>T.sl 6 (List.map En.t l)) t))),(3,PV.ptr 0 0),(5,PV.ptr 1 0),(7,PV.own 2),(31,PV.t (i64 n)),(32,PV.t (i64 (IntKind.i64.wrap (i+1))))],heap:=[ah.box 56 6 (PV.t c.t),ah.box 25 2 (PV.t x.t),ah.row 44 6 (List.map Rt.t r++ [y])]}))) else aj.ok (Ex.norm,sTh c t x r n (IntKind.i64.wrap (i+1))))) else aj.ok (Ex.exit 0,{tmps:=slots 61 [(7,PV.own 0)],heap:=[ah.row 44 6 (List.map Rt.t r)]}):=by kernel_rfl
theorem SV (N:Nat) (r:List Rt):aS env N 101 0 7 (aY env 101) (.exit 0) (⟨slots 61 [(7,.own 0)],[.row 44 6 (r.map Rt.t)]⟩)=aj.ok (T.sl 6 (List.map Rt.t r)):=by kernel_rfl
theorem q34 (N:Nat) (l:List Ch):ak env (N+1) 34 [.sl 8 (l.map Ch.t)]=W [.sl 8 (l.map Ch.t)] (bC env N 34 2 (sFC l 0)):=by kernel_rfl
theorem ajl (N:Nat) (l:List Ch) (i:Int):aH env N 34 0 2 (sFC l i)=bif decide (i < (↑(List.map Ch.t l).length:Int)) then bV (List.map Ch.t l) i fun e=>gY (e.ay 4 1 false) fun n=>bif decide (n > 100) then aj.ok (Ex.ret,{tmps:=slots 22 [(2,PV.t (T.bool false))],heap:=[]}) else aj.ok (Ex.norm,sFC l (IntKind.i64.wrap (i+1))) else aj.ok (Ex.exit 0,{tmps:=slots 22 [(0,PV.t (T.sl 8 (List.map Ch.t l)))],heap:=[]}):=by kernel_rfl
theorem ac7 (N:Nat) (b:Bool):aS env N 34 0 2 (aY env 34) (.ret) (⟨slots 22 [(2,.t (.bool b))],[]⟩)=rB b:=by kernel_rfl
theorem WY (N:Nat) (l:List Ch):aS env N 34 0 2 (aY env 34) (.exit 0) (⟨slots 22 [(0,.t (.sl 8 (l.map Ch.t)))],[]⟩)=rB (decide ((↑(List.map Ch.t l).length:Int)≤60)):=by kernel_rfl
theorem q41 (N:Nat) (l m:List Ch):ak env (N+1) 41 [.sl 8 (l.map Ch.t),.sl 8 (m.map Ch.t)]=W [.sl 8 (l.map Ch.t),.sl 8 (m.map Ch.t)] (bif (↑(List.map Ch.t l).length:Int) !=(↑(List.map Ch.t m).length:Int) then rB false else bC env N 41 4 (sSm l m 0)):=by kernel_rfl
theorem ajn (N:Nat) (l m:List Ch) (i:Int):aH env N 41 0 4 (sSm l m i)=bif decide (i < (↑(List.map Ch.t l).length:Int)) then bV (List.map Ch.t l) i fun e=>bV (List.map Ch.t m) i fun e_1=>match T.dZ [0,0] (e.ay 0 2 true).cells (e_1.ay 0 2 true).cells with|some b=>bif !b then aj.ok (Ex.ret,{tmps:=slots 42 [(4,PV.t (T.bool false))],heap:=[]}) else bV (List.map Ch.t l) i fun e=>bV (List.map Ch.t m) i fun e_2=>iO N 75 [e.ay 2 6 true,e_2.ay 2 6 true] fun b=>bif !b then aj.ok (Ex.ret,{tmps:=slots 42 [(4,PV.t (T.bool false))],heap:=[]}) else aj.ok (Ex.norm,sSm l m (IntKind.i64.wrap (i+1)))|none=>aj.stuck else aj.ok (Ex.exit 0,{tmps:=slots 42 [],heap:=[]}):=by kernel_rfl
theorem ac9 (N:Nat) (b:Bool):aS env N 41 0 4 (aY env 41) (.ret) (⟨slots 42 [(4,.t (.bool b))],[]⟩)=rB b:=by kernel_rfl
theorem W9 (N:Nat):aS env N 41 0 4 (aY env 41) (.exit 0) (⟨slots 42 [],[]⟩)=rB true:=by kernel_rfl
def YJ (l:List Px) (x:Px) (i:Int):St:=⟨slots 19 [(0,.t (.sl 2 (l.map Px.t))),(3,.ptr 0 0),(7,.t (i64 (l.map Px.t).length)),(8,.t (i64 i))],[.box 25 2 (.t x.t)]⟩
theorem aqY (N:Nat) (l:List Px) (x:Px):ak env (N+1) 134 [.sl 2 (l.map Px.t),x.t]=W [.sl 2 (l.map Px.t),x.t] (Gy N 167 [T.sl 2 (List.map Px.t l),x.t] fun a=>rB (decide (a≥0))):=by kernel_rfl
theorem arv (N:Nat) (l:List Px) (x:Px):ak env (N+1) 167 [.sl 2 (l.map Px.t),x.t]=W [.sl 2 (l.map Px.t),x.t] (bC env N 167 2 (YJ l x 0)):=by kernel_rfl
theorem aee (N:Nat) (l:List Px) (x:Px) (i:Int):aH env N 167 0 2 (YJ l x i)=bif decide (i < (↑(List.map Px.t l).length:Int)) then bV (List.map Px.t l) i fun e=>match T.dZ [0,0] [i64 x.a,i64 x.n] e.cells with|some b=>bif b then aj.ok (Ex.ret,{tmps:=slots 19 [(4,PV.t (i64 i))],heap:=[]}) else aj.ok (Ex.norm,YJ l x (IntKind.i64.wrap (i+1)))|none=>aj.stuck else aj.ok (Ex.exit 0,{tmps:=slots 19 [],heap:=[]}):=by kernel_rfl
theorem ZQ (N:Nat) (i:Int):aS env N 167 0 2 (aY env 167) (.ret) (⟨slots 19 [(4,.t (i64 i))],[]⟩)=rI i:=by kernel_rfl
theorem TB (N:Nat):aS env N 167 0 2 (aY env 167) (.exit 0) (⟨slots 19 [],[]⟩)=rI (-1):=by kernel_rfl
def anO (c:Cf) (t:List (List En)) (i:Int):St:=⟨slots 87 [(1,.t (.sl 1 (gZ t))),(2,.ptr 0 0),(5,.own 1),(6,.t (i64 i))],[.box 56 6 (.t c.t),.row 25 2 []]⟩
def acH (c:Cf) (t:List (List En)) (i:Int):St:=⟨slots 87 [(1,.t (.sl 1 (gZ t))),(2,.ptr 0 0),(5,.own 1),(7,.t (i64 i))],[.box 56 6 (.t c.t),.row 25 2 []]⟩
def akG (c:Cf) (t:List (List En)) (i j:Int):St:=⟨slots 87 [(1,.t (.sl 1 (gZ t))),(2,.ptr 0 0),(5,.own 1),(7,.t (i64 i)),(8,.t (i64 j))],[.box 56 6 (.t c.t),.row 25 2 []]⟩
def agT (c:Cf) (t:List (List En)) (i:Int):St:=⟨slots 87 [(1,.t (.sl 1 (gZ t))),(2,.ptr 0 0),(5,.own 1),(9,.own 2),(10,.t (i64 i))],[.box 56 6 (.t c.t),.row 25 2 [],.row 46 8 []]⟩
end
section
open Go.RowKit Go.Proofs
variable [Lv]
theorem D7 {N:Nat} {F:FuncId} {r id:Nat} {S:Nat→St} {R X:St} {α:Type} (q:α→Bool) (l:List α) {a b:aj T} (hN:l.length < N) (hb:∀ j x,l[j]? =some x→aH env N F 0 r (S j)=bif q x then .ok (.ret,R) else .ok (.norm,S (j+1)))
 (he:aH env N F 0 r (S l.length)= .ok (.exit id,X)) (ha:aS env N F 0 r (aY env F) .ret R=a) (hx:aS env N F 0 r (aY env F) (.exit id) X=b):bC env N F r (S 0)=bif l.any q then a else b:=by
 have h:=vJ (B:=aH env N F 0 r) (S:=S) (R:=R) (X:=X) (id:=id) q l hN hb he
 cases hs:l.any q with
 |true=>rw[hs] at h; exact(aU h).trans ha
 |false=>rw[hs] at h; exact(aU h).trans hx
theorem o9 {N:Nat} {F:FuncId} {r id:Nat} {α β:Type} {S:β→Nat→St} {X:β→St} (I:β→Nat→Prop) (f:β→α→β) (l:List α) (b:β) (hN:l.length < N)
 (h:∀ b j x,l[j]? =some x→I b j→aH env N F 0 r (S b j)= .ok (.norm,S (f b x) (j+1))∧I (f b x) (j+1)) (hx:∀ b,I b l.length→aH env N F 0 r (S b l.length)= .ok (.exit id,X b)) (hb:I b 0):
 bC env N F r (S b 0)=aS env N F 0 r (aY env F) (.exit id) (X (l.foldl f b))∧I (l.foldl f b) l.length:=by
 obtain⟨h1,h2⟩:=lW (B:=aH env N F 0 r) (S:=S) (X:=X) (id:=id) I f l b hN h hx hb
 exact⟨aU h1,h2⟩
def NY {α β:Type} (q:α→β→Bool) (l:List α) (m:List β):Bool:= !((l.zip m).any fun p=> !q p.1 p.2)
theorem Ya {α β:Type} {l:List α} {m:List β} {j:Nat} {p:α×β} (h:(l.zip m)[j]? =some p):l[j]? =some p.1∧m[j]? =some p.2:=by
 rw[List.getElem?_zip_eq_some] at h; exact h
theorem EK {N:Nat} {F:FuncId} {r id:Nat} {S:Nat→St} {R X:St} {α β:Type} (q:α→β→Bool) {l:List α} {m:List β} (hN:l.length < N) (hlm:l.length=m.length)
 (hb:∀ j x y,l[j]? =some x→m[j]? =some y→aH env N F 0 r (S j)=bif !q x y then .ok (.ret,R) else .ok (.norm,S (j+1)))
 (he:aH env N F 0 r (S l.length)= .ok (.exit id,X)) (ha:aS env N F 0 r (aY env F) .ret R=rB false) (hx:aS env N F 0 r (aY env F) (.exit id) X=rB true):bC env N F r (S 0)=rB (NY q l m):=by
 have hz:(l.zip m).length=l.length:=by rw[List.length_zip]; omega
 rw[D7 (fun p:α×β=> !q p.1 p.2) (l.zip m) (by rw[hz]; exact hN) (fun j p hp=>hb j p.1 p.2 (Ya hp).1 (Ya hp).2) (by rw[hz]; exact he) ha hx]
 unfold NY
 cases (l.zip m).any fun p=> !q p.1 p.2<;>rfl
theorem Qi {α:Type} {q:α→α→Bool} (hq:∀ a b,q a b=true↔a=b):∀ {l m:List α},l.length=m.length→(NY q l m=true↔l=m)
 | [],[],_=>by simp[NY]
 | [],_::_,h=>by simp at h
 |_::_,[],h=>by simp at h
 |a::l,b::m,h=>by
  have ih:=Qi hq (l:=l) (m:=m) (by simpa using h)
  unfold NY at*
  rw[List.zip_cons_cons,List.any_cons,Bool.not_or,Bool.not_not,Bool.and_eq_true,ih,hq]
  simp
theorem EO {α:Type} {q:α→α→Bool} [DecidableEq α] (hq:∀ a b,q a b=true↔a=b) (l m:List α):(if l.length=m.length then NY q l m else false)=decide (l=m):=by
 by_cases h:l.length=m.length
 · rw[if_pos h,Bool.eq_iff_iff,Qi hq h,decide_eq_true_eq]
 · rw[if_neg h,decide_eq_false (fun e=>h (by rw[e]))]
theorem afb {α:Type} {q:α→Bool} {l:List α} {j:Nat} {y:α} (h:l.findIdx? q=some j) (hy:l[j]? =some y):l.find? q=some y:=by
 induction l generalizing j with
 |nil=>simp at h
 |cons a l ih=>
  rw[List.findIdx?_cons] at h
  rw[List.find?_cons]
  cases hq:q a with
  |true=>rw[hq] at h; simp at h; subst h; simpa using hy
  |false=>
   rw[hq] at h
   simp only[Bool.false_eq_true,if_false,Option.map_eq_some_iff] at h
   obtain⟨k,h1,rfl⟩:=h
   exact ih h1 (by simpa using hy)
theorem abE {α:Type} {q:α→Bool} {l:List α} (h:l.findIdx? q=none):l.find? q=none:=by
 rw[List.findIdx?_eq_none_iff] at h
 rw[List.find?_eq_none]
 intro x hx; rw[h x hx]; simp
end
section
open Go.RowKit Go.Proofs
variable [Lv]
theorem asb (N:Nat) (xs:List T) (f:T):ak env (N+1) 229 [.sl 6 xs,f]=bif T.wfs [.sl 6 xs,f] then(bC env N 229 2
 {
  tmps:=
   slots 19
    [(0,PV.t (T.sl 6 xs)),(1,PV.t f),(7,PV.t (i64 (↑(List.length xs):Int))),
     (8,PV.t (i64 (0)))],
  heap:=[]}) else .absurd:=by kernel_rfl
theorem arU (N:Nat) (xs:List T) (f:T):ak env (N+1) 212 [.sl 6 xs,f]=bif T.wfs [.sl 6 xs,f] then(aj.bind (ak env N 229 [T.sl 6 xs,f]) fun x=>iT IntKind.i64 x fun a=>aj.ok (T.bool (decide (a≥0)))) else .absurd:=by kernel_rfl
theorem arT (N:Nat) (a n o h c:Int) (s:List T):ak env (N+1) 211 [.agg [i64 a,i64 n,i64 o,.sl 1 s,i64 h,i64 c]]=bif T.wfs [.agg [i64 a,i64 n,i64 o,.sl 1 s,i64 h,i64 c]] then(aj.bind
 (ak env N 70
  [T.agg
   (List.take 2
    (List.drop 0
     [i64 a,i64 n,i64 o,T.sl 1 s,i64 h,
      i64 c]))])
 fun x=>
 bT x fun b=>
  bif
   (!(b)) then
   aj.ok (T.bool true)
  else
   aj.bind
    (ak env N 150
     [T.agg
      (List.take 4
       (List.drop 2
        [i64 a,i64 n,i64 o,T.sl 1 s,i64 h,
         i64 c]))])
    fun x=>
    bT x fun b=>
     aj.ok
      (T.bool
       ((!(b))))) else .absurd:=by kernel_rfl
theorem arV (N:Nat) (xs:List T) (f:T):ak env (N+1) 213 [.sl 6 xs,f]=bif T.wfs [.sl 6 xs,f] then(bC env N 213 2 {tmps:=slots 24 [(0,PV.t (T.sl 6 xs)),(1,PV.t f),(5,PV.t (i64 (1)))],heap:=[]}) else .absurd:=by kernel_rfl
theorem arW (N:Nat) (a n o h c a' n' o' h' c':Int) (s s':List T):ak env (N+1) 214 [.agg [i64 a,i64 n,i64 o,.sl 1 s,i64 h,i64 c],.agg [i64 a',i64 n',i64 o',.sl 1 s',i64 h',i64 c']]=bif T.wfs [.agg [i64 a,i64 n,i64 o,.sl 1 s,i64 h,i64 c],.agg [i64 a',i64 n',i64 o',.sl 1 s',i64 h',i64 c']] then(aj.bind
 (ak env N 80
  [T.agg
   (List.take 2
    (List.drop 0
     [i64 a,i64 n,i64 o,T.sl 1 s,i64 h,
      i64 c])),
   T.agg
    (List.take 2
     (List.drop 0
      [i64 a',i64 n',i64 o',T.sl 1 s',i64 h',
       i64 c']))])
 fun x=>aj.ok x) else .absurd:=by kernel_rfl
theorem arJ (N:Nat) (xs:List T):ak env (N+1) 196 [.sl 6 xs]=bif T.wfs [.sl 6 xs] then(aj.bind (ak env N 212 [T.sl 6 xs,T.fn 211 [] []]) fun x=>
 bT x fun b=>
  bif
   (!(b)) then
   aj.bind (ak env N 213 [T.sl 6 xs,T.fn 214 [] []]) fun x=>aj.ok x
  else aj.ok (T.bool false)) else .absurd:=by kernel_rfl
theorem arw (N:Nat) (xs:List T):ak env (N+1) 168 [.sl 6 xs]=bif T.wfs [.sl 6 xs] then(aj.bind (ak env N 196 [T.sl 6 xs]) fun x=>bT x fun v=>bif v then aj.ok (T.sl 6 xs) else aj.ok (T.sl 6 [])) else .absurd:=by kernel_rfl
theorem q80 (N:Nat) (a n a' n':Int):ak env (N+1) 80 [.agg [i64 a,i64 n],.agg [i64 a',i64 n']]=bif T.wfs [.agg [i64 a,i64 n],.agg [i64 a',i64 n']] then(aj.bind (ak env N 96 [i64 a,i64 a']) fun x=>
 aj.bind (ak env N 96 [i64 n,i64 n']) fun x_1=>
  dB (T.oq 1) [x,x_1] (aj.bind (ak env N 110 [T.sl 1 [x,x_1]]) fun x=>chk (T.plain x) (aj.ok x))) else .absurd:=by kernel_rfl
theorem aqL (N:Nat) (xs:List T):ak env (N+1) 110 [.sl 1 xs]=bif T.wfs [.sl 1 xs] then(bC env N 110 3
 {
  tmps:=
   slots 18
    [(3,PV.t (i64 (0))),(6,PV.t (T.sl 1 xs)),
     (7,PV.t (i64 (↑(List.length xs):Int))),(8,PV.t (i64 (0)))],
  heap:=[]}) else .absurd:=by kernel_rfl
theorem arK (N:Nat) (xs:List T) (a n:Int) (f:T):ak env (N+1) 197 [.sl 6 xs,.agg [i64 a,i64 n],f]=bif T.wfs [.sl 6 xs,.agg [i64 a,i64 n],f] then(bC env N 197 3
 {
  tmps:=
   slots 49
    [(0,PV.t (T.sl 6 xs)),(2,PV.t f),(4,PV.ptr 0 0),(8,PV.t (i64 (↑(List.length xs):Int))),
     (9,PV.t (i64 (0))),(10,PV.t (i64 (↑(List.length xs):Int)))],
  heap:=[ah.box 25 2 (PV.t (T.agg [i64 a,i64 n]))]}) else .absurd:=by kernel_rfl
theorem arL (N:Nat) (a n o h c:Int) (s:List T) (a' n':Int):ak env (N+1) 198 [.agg [i64 a,i64 n,i64 o,.sl 1 s,i64 h,i64 c],.agg [i64 a',i64 n']]=bif T.wfs [.agg [i64 a,i64 n,i64 o,.sl 1 s,i64 h,i64 c],.agg [i64 a',i64 n']] then(aj.bind
 (ak env N 80
  [T.agg
   (List.take 2
    (List.drop 0
     [i64 a,i64 n,i64 o,T.sl 1 s,i64 h,
      i64 c])),
   T.agg [i64 a',i64 n']])
 fun x=>aj.ok x) else .absurd:=by kernel_rfl
theorem arx (N:Nat) (xs:List T) (a n:Int):ak env (N+1) 169 [.sl 6 xs,.agg [i64 a,i64 n]]=bif T.wfs [.sl 6 xs,.agg [i64 a,i64 n]] then(aj.bind (ak env N 197 [T.sl 6 xs,T.agg [i64 a,i64 n],T.fn 198 [] []]) fun x=>
 aG x 0 fun y=>aG x 1 fun y_1=>aj.ok (T.au [y,y_1])) else .absurd:=by kernel_rfl
theorem aqZ (N:Nat) (xs:List T) (a n:Int):ak env (N+1) 135 [.sl 6 xs,.agg [i64 a,i64 n]]=bif T.wfs [.sl 6 xs,.agg [i64 a,i64 n]] then(aj.bind (ak env N 168 [T.sl 6 xs]) fun x=>
 aj.bind (ak env N 169 [x,T.agg [i64 a,i64 n]]) fun x_1=>
  aG x_1 0 fun y=>
   aG x_1 1 fun y_1=>
    bT y_1 fun b=>
     bif
      (!(b)) then
      aj.ok
       (T.au
        [T.agg
         [i64 (0),T.sl 1 [],i64 (0),
          i64 (0)],
         T.bool false])
     else
      pJ y fun i=>
       qW 6 x fun xs=>
        bV xs i fun e=>
         chk
          (match List.length (T.cells (T.ay e 2 4 true))==4 with
          |false=>false
          |true=>true)
          (aj.ok (T.au [T.ay e 2 4 true,T.bool true]))) else .absurd:=by kernel_rfl
theorem aem (N:Nat) (xs:List T) (f:T) (i:Nat):aH env N 229 0 2 ⟨slots 19 [(0,.t (.sl 6 xs)),(1,.t f),(7,.t (i64 (xs.length:Int))),(8,.t (i64 (i:Int)))],[]⟩=bif decide ((↑i:Int) < (↑(List.length xs):Int)) then
 bV xs (↑i:Int) fun e=>
  oN env (aK env N) f [e] fun r=>
   bT r fun v=>
    bif v then aj.ok (Ex.ret,{tmps:=slots 19 [(4,PV.t (i64 (↑i:Int)))],heap:=[]})
    else
     aj.ok
      (Ex.norm,
       {
        tmps:=
         slots 19
          [(0,PV.t (T.sl 6 xs)),(1,PV.t f),(7,PV.t (i64 (↑(List.length xs):Int))),
           (8,PV.t (i64 (IntKind.wrap IntKind.i64 ((↑i:Int)+1))))],
        heap:=[]})
else aj.ok (Ex.exit 0,{tmps:=slots 19 [],heap:=[]}):=by kernel_rfl
theorem TN (N:Nat):aS env N 229 0 2 (aY env 229) (.exit 0) ⟨slots 19 [],[]⟩=aj.ok (i64 (-1)):=by kernel_rfl
theorem ZY (N:Nat) (k:Int):aS env N 229 0 2 (aY env 229) (.ret) ⟨slots 19 [(4,.t (i64 k))],[]⟩=aj.ok (i64 k):=by kernel_rfl
theorem ael (N:Nat) (xs:List T) (f:T) (i:Nat):aH env N 213 0 2 ⟨slots 24 [(0,.t (.sl 6 xs)),(1,.t f),(5,.t (i64 (i:Int)))],[]⟩=bif decide ((↑i:Int) < (↑(List.length xs):Int)) then
 bV xs (IntKind.wrap IntKind.i64 ((↑i:Int) - 1)) fun e=>
  bV xs (↑i:Int) fun e_1=>
   oN env (aK env N) f [e,e_1] fun r=>
    iT IntKind.i64 r fun a=>
     bif decide (a≥0) then aj.ok (Ex.ret,{tmps:=slots 24 [(4,PV.t (T.bool false))],heap:=[]})
     else
      aj.ok
       (Ex.norm,
        {
         tmps:=
          slots 24
           [(0,PV.t (T.sl 6 xs)),(1,PV.t f),
            (5,PV.t (i64 (IntKind.wrap IntKind.i64 ((↑i:Int)+1))))],
         heap:=[]})
else aj.ok (Ex.exit 0,{tmps:=slots 24 [],heap:=[]}):=by kernel_rfl
theorem TM (N:Nat):aS env N 213 0 2 (aY env 213) (.exit 0) ⟨slots 24 [],[]⟩=aj.ok (T.bool true):=by kernel_rfl
theorem ZX (N:Nat) (b:Bool):aS env N 213 0 2 (aY env 213) (.ret) ⟨slots 24 [(4,.t (.bool b))],[]⟩=aj.ok (T.bool b):=by kernel_rfl
theorem ad6 (N:Nat) (xs:List T) (i:Nat):aH env N 110 0 3 ⟨slots 18 [(3,.t (i64 0)),(6,.t (.sl 1 xs)),(7,.t (i64 (xs.length:Int))),(8,.t (i64 (i:Int)))],[]⟩=bif decide ((↑i:Int) < (↑(List.length xs):Int)) then
 bV xs (↑i:Int) fun e=>
  iT IntKind.i64 e fun a=>
   bif a !=0 then aj.ok (Ex.ret,{tmps:=slots 18 [(2,PV.t e)],heap:=[]})
   else
    aj.ok
     (Ex.norm,
      {
       tmps:=
        slots 18
         [(3,PV.t (i64 (0))),(6,PV.t (T.sl 1 xs)),
          (7,PV.t (i64 (↑(List.length xs):Int))),
          (8,PV.t (i64 (IntKind.wrap IntKind.i64 ((↑i:Int)+1))))],
       heap:=[]})
else aj.ok (Ex.exit 0,{tmps:=slots 18 [(3,PV.t (i64 (0)))],heap:=[]}):=by kernel_rfl
theorem Tc (N:Nat) (k:Int):aS env N 110 0 3 (aY env 110) (.exit 0) ⟨slots 18 [(3,.t (i64 k))],[]⟩=aj.ok (i64 k):=by kernel_rfl
theorem ZJ (N:Nat) (k:Int):aS env N 110 0 3 (aY env 110) (.ret) ⟨slots 18 [(2,.t (i64 k))],[]⟩=aj.ok (i64 k):=by kernel_rfl
theorem aeh (N:Nat) (xs:List T) (a n:Int) (f:T) (i j:Nat):aH env N 197 0 3 ⟨slots 49 [(0,.t (.sl 6 xs)),(2,.t f),(4,.ptr 0 0),(8,.t (i64 (xs.length:Int))),(9,.t (i64 (i:Int))),(10,.t (i64 (j:Int)))],[.box 25 2 (.t (.agg [i64 a,i64 n]))]⟩=bif decide ((↑i:Int) < (↑j:Int)) then
 bV xs
  (IntKind.wrap IntKind.i64
   (Int.fdiv (IntKind.wrap IntKind.u64 (IntKind.wrap IntKind.i64 ((↑i:Int)+(↑j:Int)))) (2)))
  fun e=>
  oN env (aK env N) f [e,T.agg [i64 a,i64 n]] fun r=>
   iT IntKind.i64 r fun a_1=>
    bif decide (a_1 < 0) then
     aj.ok
      (Ex.norm,
       {
        tmps:=
         slots 49
          [(0,PV.t (T.sl 6 xs)),(2,PV.t f),(4,PV.ptr 0 0),
           (8,PV.t (i64 (↑(List.length xs):Int))),
           (9,
            PV.t
             (i64
              (IntKind.wrap IntKind.i64
               (IntKind.wrap IntKind.i64
                (Int.fdiv
                 (IntKind.wrap IntKind.u64 (IntKind.wrap IntKind.i64 ((↑i:Int)+(↑j:Int))))
                 (2))+
                1)))),
           (10,PV.t (i64 (↑j:Int)))],
        heap:=[ah.box 25 2 (PV.t (T.agg [i64 a,i64 n]))]})
    else
     aj.ok
      (Ex.norm,
       {
        tmps:=
         slots 49
          [(0,PV.t (T.sl 6 xs)),(2,PV.t f),(4,PV.ptr 0 0),
           (8,PV.t (i64 (↑(List.length xs):Int))),(9,PV.t (i64 (↑i:Int))),
           (10,
            PV.t
             (i64
              (IntKind.wrap IntKind.i64
               (Int.fdiv (IntKind.wrap IntKind.u64 (IntKind.wrap IntKind.i64 ((↑i:Int)+(↑j:Int))))
                (2)))))],
        heap:=[ah.box 25 2 (PV.t (T.agg [i64 a,i64 n]))]})
else
 aj.ok
  (Ex.exit 0,
   {
    tmps:=
     slots 49
      [(0,PV.t (T.sl 6 xs)),(2,PV.t f),(4,PV.ptr 0 0),
       (8,PV.t (i64 (↑(List.length xs):Int))),(9,PV.t (i64 (↑i:Int)))],
    heap:=[ah.box 25 2 (PV.t (T.agg [i64 a,i64 n]))]}):=by kernel_rfl
theorem TG (N:Nat) (xs:List T) (a n:Int) (f:T) (i:Nat):aS env N 197 0 3 (aY env 197) (.exit 0) ⟨slots 49 [(0,.t (.sl 6 xs)),(2,.t f),(4,.ptr 0 0),(8,.t (i64 (xs.length:Int))),(9,.t (i64 (i:Int)))],[.box 25 2 (.t (.agg [i64 a,i64 n]))]⟩=bif decide ((↑i:Int) < (↑(List.length xs):Int)) then
 bV xs (↑i:Int) fun e=>
  oN env (aK env N) f [e,T.agg [i64 a,i64 n]] fun r=>
   iT IntKind.i64 r fun a=>aj.ok (T.au [i64 (↑i:Int),T.bool (a==0)])
else aj.ok (T.au [i64 (↑i:Int),T.bool false]):=by kernel_rfl
end
section
open Go.RowKit Go.Proofs
variable [Lv]
theorem QL (a b:Int):aT (cZ a b)=true:=ak8 a b
def nzI (s:List Int) (i:Nat):Bool:=match s[i]? with|some x=>x !=0|none=>false
theorem Au {β:Type} {N:Nat} {g:FuncId} {ts:List T} {x:T} {K:T→aj β} (h:env.mode g=0) (hx:ak env N g ts= .ok x):oN env (aK env N) (.fn g [] []) ts K=K x:=(lS h).trans (by rw[List.nil_append,List.append_nil]; exact aF hx)
theorem ail {M:Nat} {s:List En} {g:FuncId} {q:En→Bool} (hM:big+1≤M) (hl:s.length≤big) (hs:∀ i∈s,(En.t i).wf=true) (hm:env.mode g=0) (hq:∀ i∈s,ak env M g [En.t i]= .ok (.bool (q i))):
 ∃ k,ak env (M+1) 229 [.sl 6 (s.map En.t),.fn g [] []]= .ok (i64 (rV k))∧k.isSome=s.any q:=by
 have hln:(s.map En.t).length=s.length:=by simp
 rw[asb,dN (xE hl hs) (Jb g)]
 simp only[cond_true,bC]
 have hget:∀ j,j < s.length→∃ x,s[j]? =some x∧x∈s:=fun j hj=>⟨s[j],List.getElem?_eq_getElem hj,List.getElem_mem _⟩
 have hstep:∀ (j:Nat) x,s[j]? =some x→aH env M 229 0 2 ⟨slots 19 [(0,.t (.sl 6 (s.map En.t))),(1,.t (.fn g [] [])),(7,.t (i64 ((s.map En.t).length:Int))),(8,.t (i64 (j:Int)))],[]⟩=
  bif q x then .ok (.ret,⟨slots 19 [(4,.t (i64 (j:Int)))],[]⟩) else .ok (.norm,⟨slots 19 [(0,.t (.sl 6 (s.map En.t))),(1,.t (.fn g [] [])),(7,.t (i64 ((s.map En.t).length:Int))),(8,.t (i64 ((j+1:Nat):Int)))],[]⟩):=fun j x hx=>by
  have hj:j < s.length:=(List.getElem?_eq_some_iff.1 hx).1
  rw[aem,decide_eq_true (by rw[hln]; omega)]
  simp only[cond_true,aA (aC hx)]
  rw[show ∀ K:T→aj (Ex×St),oN env (aK env M) (.fn g [] []) [En.t x] K=(ak env M g [En.t x]).bind K from fun K=>by simp[oN,hm,aK]]
  rw[hq x (List.mem_of_getElem? hx)]
  simp only[aj.bind_ok,jV,wrap_succ (show j≤big by omega)]
 have:=fH (B:=aH env M 229 0 2) (S:=fun i=>⟨slots 19 [(0,.t (.sl 6 (s.map En.t))),(1,.t (.fn g [] [])),(7,.t (i64 ((s.map En.t).length:Int))),(8,.t (i64 (i:Int)))],[]⟩) (R:=fun i=>⟨slots 19 [(4,.t (i64 (i:Int)))],[]⟩) (X:=⟨slots 19 [],[]⟩) (id:=0)
  (fun i=>match s[i]? with|some x=>q x|none=>false) s.length 0 M (by omega) (fun j _ hj hp=>by
   obtain⟨x,hx,_⟩:=hget j (by omega)
   simp only[hx] at hp
   rw[hstep j x hx,hp]; rfl) (fun j _ hj hp=>by
   obtain⟨x,hx,_⟩:=hget j (by omega)
   simp only[hx] at hp
   rw[hstep j x hx,hp]; rfl) (by rw[aem,decide_eq_false (by rw[hln]; omega)]; rfl)
 refine⟨dI (fun i=>match s[i]? with|some x=>q x|none=>false) 0 s.length,?_,acS fun i x hx=>by simp only[hx]⟩
 rw[show(i64 (0:Int))=i64 ((0:Nat):Int) from rfl]
 rw[this]
 cases dI (fun i=>match s[i]? with|some x=>q x|none=>false) 0 s.length with
 |none=>simp only[aj.bind_ok,TN,rV]
 |some j=>simp only[aj.bind_ok,ZY,rV]
theorem aib {M:Nat} {e:En} (h:e.ok) (hM:big+5≤M):ak env (M+1) 211 [e.t]= .ok (.bool (O5 e)):=by
 obtain⟨m,rfl⟩:∃ m,M=m+1:=⟨M - 1,by omega⟩
 have hw:=gQ h.wf
 have h1:=yD (M:=m) h.x (by omega)
 have h2:=QW (M:=m) (by omega) h.p
 simp only[En.t,Px.t,Pa.t] at hw h1 h2 ⊢
 rw[arT,hw]
 simp only[cond_true,List.drop,List.take]
 rw[h1,h2]
 simp only[aj.bind_ok,jV,O5]
 cases dA e.x<;>rfl
theorem aic {M:Nat} {l:List En} (hM:big+8≤M) (hl:l.length≤big) (hs:∀ e∈l,e.ok):ak env (M+1) 212 [.sl 6 (l.map En.t),.fn 211 [] []]= .ok (.bool (l.any O5)):=by
 obtain⟨m,rfl⟩:∃ m,M=m+1:=⟨M - 1,by omega⟩
 obtain⟨m',rfl⟩:∃ m',m=m'+1:=⟨m - 1,by omega⟩
 obtain⟨k,h1,h2⟩:=ail (M:=m'+1) (g:=211) (q:=O5) (by omega) hl (fun e he=>(hs e he).wf) rfl (fun e he=>aib (hs e he) (by omega))
 rw[arU,dN (xE hl fun e he=>(hs e he).wf) (Jb 211)]
 simp only[cond_true]
 rw[h1]
 simp only[aj.bind_ok,bW,wP,h2]
theorem afa {M:Nat} {s:List Int} (hM:big+1≤M) (hl:s.length≤big) (hs:∀ i∈s,aT i=true):ak env (M+1) 110 [.sl 1 (ints s)]= .ok (i64 (match dI (nzI s) 0 s.length with|some j=>s.getD j 0|none=>0)):=by
 have hln:(ints s).length=s.length:=by simp[ints]
 rw[aqL,gQ (show(T.sl 1 (ints s)).wf=true from xE hl fun i hi=>bg (hs i hi))]
 simp only[cond_true,bC]
 have hstep:∀ (j:Nat) x,s[j]? =some x→aH env M 110 0 3 ⟨slots 18 [(3,.t (i64 0)),(6,.t (.sl 1 (ints s))),(7,.t (i64 ((ints s).length:Int))),(8,.t (i64 (j:Int)))],[]⟩=
  bif x !=0 then .ok (.ret,⟨slots 18 [(2,.t (i64 x))],[]⟩) else .ok (.norm,⟨slots 18 [(3,.t (i64 0)),(6,.t (.sl 1 (ints s))),(7,.t (i64 ((ints s).length:Int))),(8,.t (i64 ((j+1:Nat):Int)))],[]⟩):=fun j x hx=>by
  have hj:j < s.length:=(List.getElem?_eq_some_iff.1 hx).1
  rw[ad6,decide_eq_true (by rw[hln]; omega)]
  simp only[cond_true,aA (jm hx),bW,wrap_succ (show j≤big by omega)]
 have:=fH (B:=aH env M 110 0 3) (S:=fun i=>⟨slots 18 [(3,.t (i64 0)),(6,.t (.sl 1 (ints s))),(7,.t (i64 ((ints s).length:Int))),(8,.t (i64 (i:Int)))],[]⟩) (R:=fun i=>⟨slots 18 [(2,.t (i64 (s.getD i 0)))],[]⟩) (X:=⟨slots 18 [(3,.t (i64 0))],[]⟩) (id:=0)
  (nzI s) s.length 0 M (by omega) (fun j _ hj hp=>by
   have hx:s[j]? =some s[j]:=List.getElem?_eq_getElem (by omega)
   simp only[nzI,hx] at hp
   rw[hstep j _ hx,hp]
   simp only[cond_true,List.getD_eq_getElem?_getD,hx,Option.getD_some]) (fun j _ hj hp=>by
   have hx:s[j]? =some s[j]:=List.getElem?_eq_getElem (by omega)
   simp only[nzI,hx] at hp
   rw[hstep j _ hx,hp]; rfl) (by rw[ad6,decide_eq_false (by rw[hln]; omega)]; rfl)
 have e0:∀ (l:List (Nat×PV)),(8,PV.t (i64 (0:Int)))::l=(8,PV.t (i64 ((0:Nat):Int)))::l:=fun l=>rfl
 rw[e0,this]
 cases dI (nzI s) 0 s.length with
 |none=>simp only[aj.bind_ok,Tc]
 |some j=>simp only[aj.bind_ok,ZJ]
theorem ahy {M:Nat} {u v:Int} (hu:aT u=true) (hv:aT v=true) (hM:big+1≤M):ak env (M+1) 110 [.sl 1 [i64 u,i64 v]]= .ok (i64 (orP u v)):=by
 have h:=afa (M:=M) (s:=[u,v]) hM (by simp[aQ]) (by simpa using⟨hu,hv⟩)
 rw[show(T.sl 1 [i64 u,i64 v])= .sl 1 (ints [u,v]) from rfl,h]
 congr 2
 unfold orP
 cases h0:(u !=0) with
 |true=>simp[dI,nzI,h0]
 |false=>
  cases h1:(v !=0) with
  |true=>simp[dI,nzI,h0,h1]
  |false=>
   have:v=0:=by simpa using h1
   simp[dI,nzI,h0,h1,this]
theorem Pq {M:Nat} {x y:Px} (hx:x.ok) (hy:y.ok) (hM:big+2≤M):ak env (M+1) 80 [x.t,y.t]= .ok (i64 (kC x y)):=by
 obtain⟨m,rfl⟩:∃ m,M=m+1:=⟨M - 1,by omega⟩
 have hw:=dN hx.wf hy.wf
 simp only[Px.t] at hw ⊢
 rw[q80,hw,yE (by omega) hx.a hy.a,yE (by omega) hx.n hy.n]
 simp only[cond_true,aj.bind_ok]
 rw[ahy (QL _ _) (QL _ _) (by omega)]
 rfl
theorem aif {M:Nat} {e e':En} (h:e.ok) (h':e'.ok) (hM:big+3≤M):ak env (M+1) 214 [e.t,e'.t]= .ok (i64 (kC e.x e'.x)):=by
 obtain⟨m,rfl⟩:∃ m,M=m+1:=⟨M - 1,by omega⟩
 have hw:=dN h.wf h'.wf
 have h1:=Pq (M:=m) h.x h'.x (by omega)
 simp only[En.t,Px.t] at hw h1 ⊢
 rw[arW,hw]
 simp only[cond_true,List.drop,List.take]
 rw[h1]
 rfl
theorem ah4 {M:Nat} {e:En} {x:Px} (h:e.ok) (h':x.ok) (hM:big+3≤M):ak env (M+1) 198 [e.t,x.t]= .ok (i64 (kC e.x x)):=by
 obtain⟨m,rfl⟩:∃ m,M=m+1:=⟨M - 1,by omega⟩
 have hw:=dN h.wf h'.wf
 have h1:=Pq (M:=m) h.x h' (by omega)
 simp only[En.t,Px.t] at hw h1 ⊢
 rw[arL,hw]
 simp only[cond_true,List.drop,List.take]
 rw[h1]
 rfl
theorem aie {M:Nat} {l:List En} (hM:big+8≤M) (hl:l.length≤big) (hs:∀ e∈l,e.ok):ak env (M+1) 213 [.sl 6 (l.map En.t),.fn 214 [] []]= .ok (.bool (uO l)):=by
 obtain⟨m,rfl⟩:∃ m,M=m+1:=⟨M - 1,by omega⟩
 rw[arV,dN (xE hl fun e he=>(hs e he).wf) (Jb 214)]
 simp only[cond_true,bC]
 have hln:(l.map En.t).length=l.length:=by simp
 have hstep:∀ (j:Nat),1≤j→j < l.length→aH env (m+1) 213 0 2 ⟨slots 24 [(0,.t (.sl 6 (l.map En.t))),(1,.t (.fn 214 [] [])),(5,.t (i64 (j:Int)))],[]⟩=
  bif Og l j then .ok (.ret,⟨slots 24 [(4,.t (.bool false))],[]⟩) else .ok (.norm,⟨slots 24 [(0,.t (.sl 6 (l.map En.t))),(1,.t (.fn 214 [] [])),(5,.t (i64 ((j+1:Nat):Int)))],[]⟩):=fun j h1 hj=>by
  have g1:l[j - 1]? =some l[j - 1]:=List.getElem?_eq_getElem (by omega)
  have g2:l[j]? =some l[j]:=List.getElem?_eq_getElem hj
  rw[ael,decide_eq_true (by rw[hln]; omega)]
  have hw:IntKind.i64.wrap ((j:Int) - 1)=((j - 1:Nat):Int):=by rw[wrap64 (by have:=aQ; omega)]; omega
  simp only[cond_true,hw,aA (aC g1),aA (aC g2)]
  rw[Au rfl (aif (hs _ (List.getElem_mem _)) (hs _ (List.getElem_mem _)) (by omega))]
  simp only[bW,wrap_succ (show j≤big by omega),Og,g1,g2]
 have h3:aH env (m+1) 213 0 2 ⟨slots 24 [(0,.t (.sl 6 (l.map En.t))),(1,.t (.fn 214 [] [])),(5,.t (i64 ((1+(l.length - 1):Nat):Int)))],[]⟩= .ok (.exit 0,⟨slots 24 [],[]⟩):=by
  rw[ael,decide_eq_false (by rw[hln]; omega)]; rfl
 have:=fH (B:=aH env (m+1) 213 0 2) (S:=fun i=>⟨slots 24 [(0,.t (.sl 6 (l.map En.t))),(1,.t (.fn 214 [] [])),(5,.t (i64 (i:Int)))],[]⟩) (R:=fun i=>⟨slots 24 [(4,.t (.bool false))],[]⟩) (X:=⟨slots 24 [],[]⟩) (id:=0)
  (Og l) (l.length - 1) 1 (m+1) (by omega) (fun j a b hp=>by rw[hstep j a (by omega),hp]; rfl) (fun j a b hp=>by rw[hstep j a (by omega),hp]; rfl) h3
 rw[show(i64 (1:Int))=i64 ((1:Nat):Int) from rfl,this]
 unfold uO
 cases dI (Og l) 1 (l.length - 1) with
 |none=>simp only[aj.bind_ok,TM,Option.isNone]
 |some j=>simp only[aj.bind_ok,ZX,Option.isNone]
theorem ah2 {M:Nat} {l:List En} (hM:big+12≤M) (hl:l.length≤big) (hs:∀ e∈l,e.ok):ak env (M+1) 196 [.sl 6 (l.map En.t)]= .ok (.bool (sS l)):=by
 obtain⟨m,rfl⟩:∃ m,M=m+1:=⟨M - 1,by omega⟩
 rw[arJ,gQ (xE hl fun e he=>(hs e he).wf),aic (by omega) hl hs,aie (by omega) hl hs]
 simp only[cond_true,aj.bind_ok,jV,sS]
 cases l.any O5<;>rfl
theorem ahX {M:Nat} {l:List En} (hM:big+14≤M) (hl:l.length≤big) (hs:∀ e∈l,e.ok):ak env (M+1) 168 [.sl 6 (l.map En.t)]= .ok (.sl 6 ((known l).map En.t)):=by
 obtain⟨m,rfl⟩:∃ m,M=m+1:=⟨M - 1,by omega⟩
 rw[arw,gQ (xE hl fun e he=>(hs e he).wf),ah2 (by omega) hl hs]
 simp only[cond_true,aj.bind_ok,jV,known]
 cases sS l<;>rfl
def S75 (l:List En) (x:Px) (i j:Nat):St:=⟨slots 49 [(0,.t (.sl 6 (l.map En.t))),(2,.t (.fn 198 [] [])),(4,.ptr 0 0),(8,.t (i64 ((l.map En.t).length:Int))),(9,.t (i64 (i:Int))),(10,.t (i64 (j:Int)))],[.box 25 2 (.t (.agg [i64 x.a,i64 x.n]))]⟩
def X75 (l:List En) (x:Px) (i:Nat):St:=⟨slots 49 [(0,.t (.sl 6 (l.map En.t))),(2,.t (.fn 198 [] [])),(4,.ptr 0 0),(8,.t (i64 ((l.map En.t).length:Int))),(9,.t (i64 (i:Int)))],[.box 25 2 (.t (.agg [i64 x.a,i64 x.n]))]⟩
theorem OM {m:Nat} {l:List En} {x:Px} {i j:Nat} (h:j≤i):aH env m 197 0 3 (S75 l x i j)= .ok (.exit 0,X75 l x i):=by
 unfold S75 X75
 rw[aeh,decide_eq_false (by omega)]
 simp only[cond_false]
theorem abr {m:Nat} {l:List En} {x:Px} {i j:Nat} (h1:i < j) (h2:j≤l.length) (hl:l.length≤big) (h76:∀ i,(hi:i < l.length)→ak env m 198 [En.t l[i],.agg [i64 x.a,i64 x.n]]= .ok (i64 (kC l[i].x x))):
 aH env m 197 0 3 (S75 l x i j)= .ok (.norm,bif XZ l x ((i+j) / 2) then S75 l x ((i+j) / 2+1) j else S75 l x i ((i+j) / 2)):=by
 have g:l[(i+j) / 2]? =some l[(i+j) / 2]:=List.getElem?_eq_getElem (by omega)
 unfold S75
 rw[aeh,decide_eq_true (by omega)]
 simp only[cond_true,agr (show i≤big by omega) (show j≤big by omega),aA (aC g)]
 rw[Au rfl (h76 _ (by omega))]
 simp only[bW,wrap_succ (show(i+j) / 2≤big by omega),XZ,g]
 cases decide (kC l[(i+j) / 2].x x < 0)<;>simp only[cond_true,cond_false]
theorem aoG (N:Nat) (l:List En) (x:Px) (hw:T.wfs [.sl 6 (l.map En.t),.agg [i64 x.a,i64 x.n],.fn 198 [] []]=true):ak env (N+1) 197 [.sl 6 (l.map En.t),.agg [i64 x.a,i64 x.n],.fn 198 [] []]=bC env N 197 3 (S75 l x 0 l.length):=by
 rw[arK,hw]
 simp only[cond_true,S75,List.length_map]
 rfl
theorem aoP (N:Nat) (l:List En) (x:Px) (i:Nat) (h76:∀ i,(hi:i < l.length)→ak env N 198 [En.t l[i],.agg [i64 x.a,i64 x.n]]= .ok (i64 (kC l[i].x x))):
 aS env N 197 0 3 (aY env 197) (.exit 0) (X75 l x i)= .ok (.au [i64 (i:Int),.bool (match l[i]? with|some e=>kC e.x x==0|none=>false)]):=by
 unfold X75
 rw[TG]
 rcases Nat.lt_or_ge i l.length with h|h
 · have g:l[i]? =some l[i]:=List.getElem?_eq_getElem h
   rw[decide_eq_true (by rw[List.length_map]; omega)]
   simp only[cond_true]
   rw[aA (aC g),Au rfl (h76 _ h)]
   simp only[bW,g]
 · have g:l[i]? =none:=List.getElem?_eq_none h
   rw[decide_eq_false (by rw[List.length_map]; omega)]
   simp only[cond_false,g]
theorem ah3 {M:Nat} {l:List En} {x:Px} (hM:big+5≤M) (hl:l.length≤big) (hs:∀ e∈l,e.ok) (hx:x.ok):
 ak env (M+1) 197 [.sl 6 (l.map En.t),x.t,.fn 198 [] []]= .ok (.au [i64 (fM l x:Int),.bool (mg l x)]):=by
 obtain⟨m,rfl⟩:∃ m,M=m+1:=⟨M - 1,by omega⟩
 have hw:=BP (xE (k:=6) hl fun e he=>(hs e he).wf) hx.wf (Jb 198)
 have h76:∀ i,(hi:i < l.length)→ak env (m+1) 198 [En.t l[i],.agg [i64 x.a,i64 x.n]]= .ok (i64 (kC l[i].x x)):=fun i hi=>ah4 (hs _ (List.getElem_mem _)) hx (by omega)
 have main:∀ (k i j n:Nat),j - i≤k→k < n→j≤l.length→bH (aH env (m+1) 197 0 3) n (S75 l x i j)= .ok (.exit 0,X75 l x (RJ (XZ l x) k i j)):=by
  intro k
  induction k with
  |zero=>
   intro i j n h1 h2 h3
   obtain⟨n,rfl⟩:∃ n',n=n'+1:=⟨n - 1,by omega⟩
   exact eH (OM (by omega))
  |succ k ih=>
   intro i j n h1 h2 h3
   obtain⟨n,rfl⟩:∃ n',n=n'+1:=⟨n - 1,by omega⟩
   rcases Nat.lt_or_ge i j with h4|h4
   · rw[aW (abr h4 h3 hl h76)]
     unfold RJ
     rw[decide_eq_true h4,cond_true]
     cases XZ l x ((i+j) / 2) with
     |true=>simp only[cond_true]; exact ih _ _ _ (by omega) (by omega) h3
     |false=>simp only[cond_false]; exact ih _ _ _ (by omega) (by omega) (by omega)
   · rw[eH (OM h4)]
     unfold RJ
     rw[decide_eq_false (by omega),cond_false]
 have e:=aoG (m+1) l x hw
 rw[show x.t= .agg [i64 x.a,i64 x.n] from rfl,e]
 unfold bC
 rw[main l.length 0 l.length (m+1) (by omega) (by omega) (Nat.le_refl _)]
 rw[aj.bind_ok,aoP (m+1) l x _ h76]
 rfl
theorem ahY {M:Nat} {l:List En} {x:Px} (hM:big+7≤M) (hl:l.length≤big) (hs:∀ e∈l,e.ok) (hx:x.ok):
 ak env (M+1) 169 [.sl 6 (l.map En.t),x.t]= .ok (.au [i64 (fM l x:Int),.bool (mg l x)]):=by
 obtain⟨m,rfl⟩:∃ m,M=m+1:=⟨M - 1,by omega⟩
 have hw:=dN (xE (k:=6) hl fun e he=>(hs e he).wf) hx.wf
 have h:=ah3 (M:=m) (by omega) hl hs hx
 simp only[Px.t] at hw h ⊢
 rw[arx,hw,h]
 rfl
theorem ahH {M:Nat} {l:List En} {x:Px} (hM:big+16≤M) (hl:l.length≤big) (hs:∀ e∈l,e.ok) (hx:x.ok):
 ak env (M+1) 135 [.sl 6 (l.map En.t),x.t]= .ok (.au [((qo l x).getD Pa.none).t,.bool (qo l x).isSome]):=by
 obtain⟨m,rfl⟩:∃ m,M=m+1:=⟨M - 1,by omega⟩
 have hw:=dN (xE (k:=6) hl fun e he=>(hs e he).wf) hx.wf
 have h43:=ahX (M:=m) (l:=l) (by omega) hl hs
 have hkl:=GR l
 have h44:=ahY (M:=m) (l:=known l) (x:=x) (by omega) (by omega) (fun e he=>hs e (lX he)) hx
 simp only[Px.t] at hw h44 ⊢
 rw[aqZ,hw,h43]
 simp only[cond_true,aj.bind_ok]
 rw[h44]
 simp only[aj.bind_ok,aG,List.getElem?_cons_zero,List.getElem?_cons_succ,jV]
 cases ht:mg (known l) x with
 |false=>
  have:qo l x=none:=get_none.2 (BG (vW l) ht)
  rw[this]
  rfl
 |true=>
  have hlt:=Hq ht
  obtain⟨p,hp⟩:=uo ht
  have hg:(known l)[fM (known l) x]? =some ⟨x,p⟩:=by
   rw[hp]
   rw[List.getElem?_append_right (by rw[List.length_take,←hp]; omega)]
   rw[List.length_take,←hp,Nat.min_eq_left (by omega),Nat.sub_self]
   rfl
  have hgs:qo l x=some p:=pq.2 (List.mem_of_getElem? hg)
  rw[hgs]
  generalize fM (known l) x=k at hg
  simp only[Bool.not_true,cond_false,pJ,qW,if_true,aA (aC hg)]
  rfl
end
end Go.aP
