/- The texts of a proof, one behind the other: an interpreter and its soundness, what the functions of the program answer, and plain laws on that. -/
import Derived.Test.YtjlpnhpfbgbkhaaGreatX1
import Derived.Test.YtjlpnhpfbgbkhaaGreatX6
import Derived.Test.YtjlpnhpfbgbkhaaGreatK10
import Derived.Test.YtjlpnhpfbgbkhaaGreatX2
set_option linter.unusedVariables false
set_option linter.unusedSimpArgs false
set_option linter.unnecessarySimpa false
set_option linter.unusedSectionVars false
set_option maxRecDepth 100000
namespace Go.aT
section
open Go.RowKit Go.Proofs
variable [Lv]
theorem q37 (N:Nat) (L:List (List Ch)) (i:Int):ak env (N+1) 37 [.sl 1 (aK L),i64 i]=W [.sl 1 (aK L),i64 i] (bif decide (i≥(↑(aK L).length:Int)) then ah.ok (T.sl 8 []) else bK (aK L) i fun e=>ah.ok e):=by kernel_rfl
theorem q39 (N:Nat) (L:List (List Ch)) (i:Int):ak env (N+1) 39 [.sl 1 (aK L),i64 i]=W [.sl 1 (aK L),i64 i] (bif decide (i < (↑(aK L).length:Int)) then bK (aK L) i fun e=>ah.ok e else ah.ok (T.sl 8 [])):=by kernel_rfl
theorem q29 (N:Nat) (n:Int):ak env (N+1) 29 [i64 n]=W [i64 n] (rI (IntKind.i64.wrap (IntKind.i64.wrap (IntKind.i64.wrap (IntKind.i64.wrap (2*dh true [dh false [8] n] 0)*dh true [dh false [8] n] 0)+IntKind.i64.wrap (4*dh true [dh false [8] n] 0))+10))):=by kernel_rfl
theorem q36 (N:Nat) (n:Int):ak env (N+1) 36 [i64 n]=W [i64 n] (rI (IntKind.i64.wrap (IntKind.i64.wrap (IntKind.i64.wrap (IntKind.i64.wrap (2*dh false [8] (dh true [0] n))*dh false [8] (dh true [0] n))+IntKind.i64.wrap (4*dh false [8] (dh true [0] n)))+10))):=by kernel_rfl
theorem q17 (N:Nat) (t:List Cf):ak env (N+1) 17 [.sl 6 (t.map Cf.t)]=W [.sl 6 (t.map Cf.t)] (cl N 42 [T.sl 6 (List.map Cf.t t),T.fn 43 [] []] fun x=>ah.ok x):=by kernel_rfl
theorem q19 (N:Nat) (t:List Cf) (L:List (List Ch)):ak env (N+1) 19 [.sl 6 (t.map Cf.t),.sl 1 (aK L)]=W [.sl 6 (t.map Cf.t),.sl 1 (aK L)] (cl N 42 [T.sl 6 (List.map Cf.t t),T.fn 45 [] [(T.sl 6 (List.map Cf.t t)).ref,(T.sl 1 (aK L)).ref]] fun x=>ah.ok x):=by kernel_rfl
theorem q21 (N:Nat) (t:List Cf) (L:List (List Ch)):ak env (N+1) 21 [.sl 6 (t.map Cf.t),.sl 1 (aK L)]=W [.sl 6 (t.map Cf.t),.sl 1 (aK L)] (bif decide ((↑(List.map Cf.t t).length:Int)≤8) then cl N 19 [T.sl 6 (List.map Cf.t t),T.sl 1 (aK L)] fun x=>cl N 48 [x,T.sl 1 (aK L),T.fn 49 [] []] fun x=>ah.ok x else rB false):=by kernel_rfl
theorem q43 (N:Nat) (i k:Int):ak env (N+1) 43 [i64 i,i64 k]=W [i64 i,i64 k] (ah.ok (T.sl 6 [])):=by kernel_rfl
theorem q45 (N:Nat) (t:List Cf) (L:List (List Ch)) (i k:Int):ak env (N+1) 45 [i64 i,i64 k,.ref (.sl 6 (t.map Cf.t)),.ref (.sl 1 (aK L))]=W [i64 i,i64 k,.ref (.sl 6 (t.map Cf.t)),.ref (.sl 1 (aK L))] (cl N 23 [T.sl 6 (List.map Cf.t t),i64 i,i64 k] fun x=>aG x 0 fun y=>aG x 1 fun y_1=>aG x 2 fun nO=>bT nO fun b=>bif !b then ah.ok (T.sl 6 []) else o9 y fun i=>bK (List.map Cf.t t) i fun e=>cl N 37 [T.sl 1 (aK L),y] fun x=>cl N 46 [e,y_1,x] fun x=>ah.ok x):=by kernel_rfl
def acu (g:T) (t:List Cf) (ys:List T) (i:Int):St:=⟨slots 45 [(1,.t g),(5,.own 0),(13,.t (.sl 6 (t.map Cf.t))),(14,.t (i64 (t.map Cf.t).length)),(15,.t (i64 i))],[.row 40 1 ys]⟩
def agN (g:T) (t:List Cf) (ys:List T) (i:Int) (c:Cf) (zs:List T) (n k:Int):St:=⟨slots 45 [(1,.t g),(5,.own 0),(6,.t (i64 i)),(7,.ptr 1 0),(8,.own 2),(13,.t (.sl 6 (t.map Cf.t))),(14,.t (i64 (t.map Cf.t).length)),(15,.t (i64 i)),(25,.t (i64 n)),(26,.t (i64 k))],[.row 40 1 ys,.box 56 6 (.t c.t),.row 75 1 zs]⟩
theorem q42 (N:Nat) (t:List Cf) (g:T):ak env (N+1) 42 [.sl 6 (t.map Cf.t),g]=W [.sl 6 (t.map Cf.t),g] (bif decide ((↑(List.map Cf.t t).length:Int) > 8) then ah.ok (T.sl 1 []) else bC env N 42 5 (acu g t [] 0)):=by kernel_rfl
theorem ajI (N:Nat) (g:T) (t:List Cf) (ys:List T) (i:Int):aF env N 42 0 5 (acu g t ys i)=bif decide (i < (↑(List.map Cf.t t).length:Int)) then bK (List.map Cf.t t) i fun e=>chk (e.cells.length==6&& !e.aY) (iO (e.ay 5 1 false) fun n=>chk (decide (0≤n)&&decide (n≤n)&&decide (n.toNat*24≤140737488355328)) (qE env N 42 5 9 {tmps:=slots 45 [(1,.t g),(5,.own 0),(6,.t (i64 i)),(7,.ptr 1 0),(8,.own 2),(13,.t (.sl 6 (List.map Cf.t t))),(14,.t (i64 (↑(List.map Cf.t t).length:Int))),(15,.t (i64 i)),(25,.t (i64 (↑(List.replicate n.toNat (T.sl 6 [])).length:Int))),(26,.t (i64 0))],heap:=[aj.row 40 1 ys,.box 56 6 (.t e),.row 75 1 (List.replicate n.toNat (T.sl 6 []))]})) else ah.ok (Ex.exit 0,{tmps:=slots 45 [(5,.own 0)],heap:=[aj.row 40 1 ys]}):=by kernel_rfl
theorem Z8 (N:Nat) (g:T) (t:List Cf) (ys:List T) (i:Int) (c:Cf) (zs:List T) (n k:Int):pq env N 42 0 5 9 (agN g t ys i c zs n k)=bif decide (k < n) then oJ env (aJ env N) g [i64 i,i64 k] fun r=>chk (decide (0≤k)&&decide (k < (↑zs.length:Int))) (chk (r.cells.length==1&& !r.aY) (chk (!r.isAgg) (ah.ok (Ex.norm,agN g t ys i c (zs.set k.toNat r) n (IntKind.i64.wrap (k+1)))))) else ah.ok (Ex.exit 2,{tmps:=slots 45 [(1,.t g),(5,.own 0),(7,.ptr 1 0),(8,.own 2),(13,.t (.sl 6 (List.map Cf.t t))),(14,.t (i64 (↑(List.map Cf.t t).length:Int))),(15,.t (i64 i))],heap:=[aj.row 40 1 ys,.box 56 6 (.t c.t),.row 75 1 zs]}):=by kernel_rfl
theorem Oe (N:Nat) (g:T) (t:List Cf) (ys:List T) (i:Int) (c:Cf) (zs:List T):qF env N 42 0 5 9 (.exit 2) (⟨slots 45 [(1,.t g),(5,.own 0),(7,.ptr 1 0),(8,.own 2),(13,.t (.sl 6 (t.map Cf.t))),(14,.t (i64 (t.map Cf.t).length)),(15,.t (i64 i))],[.row 40 1 ys,.box 56 6 (.t c.t),.row 75 1 zs]⟩)=cl N 76 [c.t,T.sl 1 zs] fun x=>bW (T.mF 1) [x] (chk (decide ((ys.length+1)*24≤140737488355328)) (ah.ok (Ex.norm,acu g t (ys++ [x]) (IntKind.i64.wrap (i+1))))):=by kernel_rfl
theorem WM (N:Nat) (ys:List T):aP env N 42 0 5 (aW env 42) (.exit 0) (⟨slots 45 [(5,.own 0)],[.row 40 1 ys]⟩)=ah.ok (T.sl 1 ys):=by kernel_rfl
def Gw (c:Cf) (k:Int) (l:List Ch) (ys:List En) (i:Int):St:=⟨slots 59 [(1,.t (i64 k)),(2,.t (.sl 8 (l.map Ch.t))),(3,.ptr 0 0),(7,.own 1),(12,.t (.sl 8 (l.map Ch.t))),(13,.t (i64 (l.map Ch.t).length)),(14,.t (i64 i))],[.box 56 6 (.t c.t),.row 104 6 (ys.map En.t)]⟩
theorem q46 (N:Nat) (c:Cf) (k:Int) (l:List Ch):ak env (N+1) 46 [c.t,i64 k,.sl 8 (l.map Ch.t)]=W [c.t,i64 k,.sl 8 (l.map Ch.t)] (bC env N 46 3 {tmps:=slots 59 [(1,.t (i64 k)),(2,.t (.sl 8 (List.map Ch.t l))),(3,.ptr 0 0),(7,.own 1),(12,.t (.sl 8 (List.map Ch.t l))),(13,.t (i64 (↑(List.map Ch.t l).length:Int))),(14,.t (i64 0))],heap:=[aj.box 56 6 (.t c.t),.row 104 6 []]}):=by kernel_rfl
theorem ajL (N:Nat) (c:Cf) (k:Int) (l:List Ch) (ys:List En) (i:Int):aF env N 46 0 3 (Gw c k l ys i)=bif decide (i < (↑(List.map Ch.t l).length:Int)) then bK (List.map Ch.t l) i fun e=>chk (e.cells.length==8&& !e.aY) (iw N 70 [e.ay 0 2 true] fun b=>bif !b then ah.ok (Ex.ret,{tmps:=slots 59 [(6,.own 0)],heap:=[aj.row 104 6 []]}) else bif decide (i > 0) then bK (List.map Ch.t l) (IntKind.i64.wrap (i - 1)) fun e_1=>DI N 80 [e_1.ay 0 2 true,e.ay 0 2 true] fun a=>bif decide (a≥0) then ah.ok (Ex.ret,{tmps:=slots 59 [(6,.own 0)],heap:=[aj.row 104 6 []]}) else cl N 81 [c.t,i64 k,e.ay 0 2 true,e.ay 2 6 true] fun x=>aG x 0 fun y=>aG x 1 fun y_1=>chk (y.cells.length==4&& !y.aY) (bT y_1 fun v=>bif v then chk ((e.ay 0 2 true).cells.length==2&& !(e.ay 0 2 true).aY) (chk (y.cells.length==4&& !y.aY) (bW (T.mF 6) [T.agg [(e.ay 0 2 true).cell 0,(e.ay 0 2 true).cell 1,y.cell 0,y.cell 1,y.cell 2,y.cell 3]] (chk (decide (((List.map En.t ys).length+1)*64≤140737488355328)) (ah.ok (Ex.norm,{tmps:=slots 59 [(1,.t (i64 k)),(2,.t (.sl 8 (List.map Ch.t l))),(3,.ptr 0 0),(7,.own 1),(12,.t (.sl 8 (List.map Ch.t l))),(13,.t (i64 (↑(List.map Ch.t l).length:Int))),(14,.t (i64 (IntKind.i64.wrap (i+1))))],heap:=[aj.box 56 6 (.t c.t),.row 104 6 (List.map En.t ys++ [T.agg [(e.ay 0 2 true).cell 0,(e.ay 0 2 true).cell 1,y.cell 0,y.cell 1,y.cell 2,y.cell 3]])]}))))) else ah.ok (Ex.norm,Gw c k l ys (IntKind.i64.wrap (i+1)))) else cl N 81 [c.t,i64 k,e.ay 0 2 true,e.ay 2 6 true] fun x=>aG x 0 fun y=>aG x 1 fun y_1=>chk (y.cells.length==4&& !y.aY) (bT y_1 fun v=>bif v then chk ((e.ay 0 2 true).cells.length==2&& !(e.ay 0 2 true).aY) (chk (y.cells.length==4&& !y.aY) (bW (T.mF 6) [T.agg [(e.ay 0 2 true).cell 0,(e.ay 0 2 true).cell 1,y.cell 0,y.cell 1,y.cell 2,y.cell 3]] (chk (decide (((List.map En.t ys).length+1)*64≤140737488355328)) (ah.ok (Ex.norm,{tmps:=slots 59 [(1,.t (i64 k)),(2,.t (.sl 8 (List.map Ch.t l))),(3,.ptr 0 0),(7,.own 1),(12,.t (.sl 8 (List.map Ch.t l))),(13,.t (i64 (↑(List.map Ch.t l).length:Int))),(14,.t (i64 (IntKind.i64.wrap (i+1))))],heap:=[aj.box 56 6 (.t c.t),.row 104 6 (List.map En.t ys++ [T.agg [(e.ay 0 2 true).cell 0,(e.ay 0 2 true).cell 1,y.cell 0,y.cell 1,y.cell 2,y.cell 3]])]}))))) else ah.ok (Ex.norm,Gw c k l ys (IntKind.i64.wrap (i+1))))) else ah.ok (Ex.exit 0,{tmps:=slots 59 [(7,.own 0)],heap:=[aj.row 104 6 (List.map En.t ys)]}):=by kernel_rfl
theorem WR (N:Nat) (ys:List T):aP env N 46 0 3 (aW env 46) (.exit 0) (⟨slots 59 [(7,.own 0)],[.row 104 6 ys]⟩)=ah.ok (T.sl 6 ys):=by kernel_rfl
def agO (L M:List (List Ch)) (g:T) (i:Int):St:=⟨slots 32 [(1,.t (.sl 1 (aK M))),(2,.t g),(15,.t (.sl 1 (aK L))),(16,.t (i64 (aK L).length)),(17,.t (i64 i))],[]⟩
theorem q48 (N:Nat) (L M:List (List Ch)) (g:T):ak env (N+1) 48 [.sl 1 (aK L),.sl 1 (aK M),g]=W [.sl 1 (aK L),.sl 1 (aK M),g] (bif (↑(aK L).length:Int) !=(↑(aK M).length:Int) then rB false else bC env N 48 4 (agO L M g 0)):=by kernel_rfl
theorem ajN (N:Nat) (L M:List (List Ch)) (g:T) (i:Int):aF env N 48 0 4 (agO L M g i)=bif decide (i < (↑(aK L).length:Int)) then bK (aK L) i fun e=>bK (aK M) i fun e_1=>oJ env (aJ env N) g [e,e_1] fun r=>bT r fun b=>bif !b then ah.ok (Ex.ret,{tmps:=slots 32 [(6,.t (.bool false))],heap:=[]}) else ah.ok (Ex.norm,agO L M g (IntKind.i64.wrap (i+1))) else ah.ok (Ex.exit 0,{tmps:=slots 32 [],heap:=[]}):=by kernel_rfl
theorem ac6 (N:Nat) (b:Bool):aP env N 48 0 4 (aW env 48) (.ret) (⟨slots 32 [(6,.t (.bool b))],[]⟩)=rB b:=by kernel_rfl
theorem WT (N:Nat):aP env N 48 0 4 (aW env 48) (.exit 0) (⟨slots 32 [],[]⟩)=rB true:=by kernel_rfl
def Yq (t:List Cf) (L:List (List Ch)) (i:Int) (x:Px) (ys:List Int):St:=⟨slots 69 [(0,.t (.sl 6 (t.map Cf.t))),(1,.t (.sl 1 (aK L))),(2,.t (i64 i)),(7,.ptr 0 0),(10,.own 1)],[.box 25 2 (.t x.t),.row 3 1 (ints ys)]⟩
theorem q13 (N:Nat) (t:List Cf) (L:List (List Ch)) (i:Int) (x:Px):ak env (N+1) 13 [.sl 6 (t.map Cf.t),.sl 1 (aK L),i64 i,x.t]=W [.sl 6 (t.map Cf.t),.sl 1 (aK L),i64 i,x.t] (bif decide (i < 0) then ah.ok (T.au [T.sl 1 [],T.bool false]) else bif decide (i≥(↑(List.map Cf.t t).length:Int)) then ah.ok (T.au [T.sl 1 [],T.bool false]) else bif decide ((↑(List.map Cf.t t).length:Int) > 8) then ah.ok (T.au [T.sl 1 [],T.bool false]) else bW (T.mF 1) [i64 i] (bC env N 13 4 {tmps:=slots 69 [(0,.t (.sl 6 (List.map Cf.t t))),(1,.t (.sl 1 (aK L))),(2,.t (i64 i)),(7,.ptr 0 0),(10,.own 1)],heap:=[aj.box 25 2 (.t x.t),.row 3 1 [i64 i]]})):=by kernel_rfl
theorem aoM (N:Nat) (t:List Cf) (L:List (List Ch)) (i:Int) (x:Px) (ys:List Int):aF env N 13 0 4 (Yq t L i x ys)=cl N 37 [T.sl 1 (aK L),i64 i] fun x_1=>cl N 26 [x_1,x.t] fun x_2=>aG x_2 0 fun y=>aG x_2 1 fun y_1=>chk (y.cells.length==6&& !y.aY) (bT y_1 fun b=>bif !b then ah.ok (Ex.ret,{tmps:=slots 69 [(8,.own 0),(9,.t y_1)],heap:=[aj.row 3 1 (ints ys)]}) else iT IntKind.i64 (y.ay 5 1 false) fun a=>bif decide (a < 0) then ah.ok (Ex.ret,{tmps:=slots 69 [(8,.own 0),(9,.t y_1)],heap:=[aj.row 3 1 (ints ys)]}) else cl N 23 [T.sl 6 (List.map Cf.t t),i64 i,y.ay 5 1 false] fun x_3=>aG x_3 0 fun y=>aG x_3 1 fun nO=>aG x_3 2 fun xu=>bT xu fun b=>bif !b then ah.ok (Ex.ret,{tmps:=slots 69 [(8,.own 0),(9,.t (.bool false))],heap:=[aj.row 3 1 (ints ys)]}) else bif (↑(ints ys).length:Int)==8 then ah.ok (Ex.ret,{tmps:=slots 69 [(8,.own 0),(9,.t (.bool false))],heap:=[aj.row 3 1 (ints ys)]}) else bW (T.mF 1) [y] (chk (decide (((ints ys).length+1)*8≤140737488355328)) (ah.ok (Ex.norm,{tmps:=slots 69 [(0,.t (.sl 6 (List.map Cf.t t))),(1,.t (.sl 1 (aK L))),(2,.t y),(7,.ptr 0 0),(10,.own 1)],heap:=[aj.box 25 2 (.t x.t),.row 3 1 (ints ys++ [y])]})))):=by kernel_rfl
theorem acU (N:Nat) (ys:List T) (b:Bool):aP env N 13 0 4 (aW env 13) (.ret) (⟨slots 69 [(8,.own 0),(9,.t (.bool b))],[.row 3 1 ys]⟩)=ah.ok (T.au [T.sl 1 ys,T.bool b]):=by kernel_rfl
def agP (L:List (List Ch)) (i:Int):St:=⟨slots 19 [(0,.t (.sl 1 (aK L))),(3,.t (i64 i))],[]⟩
theorem q10 (N:Nat) (L:List (List Ch)):ak env (N+1) 10 [.sl 1 (aK L)]=W [.sl 1 (aK L)] (bC env N 10 2 (agP L 0)):=by kernel_rfl
theorem ajA (N:Nat) (L:List (List Ch)) (i:Int):aF env N 10 0 2 (agP L i)=bif decide (i < (↑(aK L).length:Int)) then bK (aK L) i fun e=>iw N 34 [e] fun b=>bif !b then ah.ok (Ex.ret,{tmps:=slots 19 [(2,.t (.bool false))],heap:=[]}) else ah.ok (Ex.norm,agP L (IntKind.i64.wrap (i+1))) else ah.ok (Ex.exit 0,{tmps:=slots 19 [(0,.t (.sl 1 (aK L)))],heap:=[]}):=by kernel_rfl
theorem acT (N:Nat) (b:Bool):aP env N 10 0 2 (aW env 10) (.ret) (⟨slots 19 [(2,.t (.bool b))],[]⟩)=rB b:=by kernel_rfl
theorem Wx (N:Nat) (L:List (List Ch)):aP env N 10 0 2 (aW env 10) (.exit 0) (⟨slots 19 [(0,.t (.sl 1 (aK L)))],[]⟩)=rB (decide ((↑(aK L).length:Int)≤10)):=by kernel_rfl
def agQ (t:List Cf) (i:Int):St:=⟨slots 19 [(0,.t (.sl 6 (t.map Cf.t))),(3,.t (i64 i))],[]⟩
theorem q9 (N:Nat) (t:List Cf):ak env (N+1) 9 [.sl 6 (t.map Cf.t)]=W [.sl 6 (t.map Cf.t)] (bC env N 9 2 (agQ t 0)):=by kernel_rfl
theorem anK (N:Nat) (t:List Cf) (i:Int):aF env N 9 0 2 (agQ t i)=bif decide (i < (↑(List.map Cf.t t).length:Int)) then bK (List.map Cf.t t) i fun e=>iw N 33 [e] fun b=>bif !b then ah.ok (Ex.ret,{tmps:=slots 19 [(2,.t (.bool false))],heap:=[]}) else ah.ok (Ex.norm,agQ t (IntKind.i64.wrap (i+1))) else ah.ok (Ex.exit 0,{tmps:=slots 19 [(0,.t (.sl 6 (List.map Cf.t t)))],heap:=[]}):=by kernel_rfl
theorem agA (N:Nat) (b:Bool):aP env N 9 0 2 (aW env 9) (.ret) (⟨slots 19 [(2,.t (.bool b))],[]⟩)=rB b:=by kernel_rfl
theorem ZR (N:Nat) (t:List Cf):aP env N 9 0 2 (aW env 9) (.exit 0) (⟨slots 19 [(0,.t (.sl 6 (t.map Cf.t)))],[]⟩)=rB (decide ((↑(List.map Cf.t t).length:Int)≤10)):=by kernel_rfl
def agS (L M:List (List Ch)) (i:Int):St:=⟨slots 27 [(0,.t (.sl 1 (aK L))),(1,.t (.sl 1 (aK M))),(5,.t (i64 i))],[]⟩
theorem q15 (N:Nat) (L M:List (List Ch)):ak env (N+1) 15 [.sl 1 (aK L),.sl 1 (aK M)]=W [.sl 1 (aK L),.sl 1 (aK M)] (bif (↑(aK L).length:Int) !=(↑(aK M).length:Int) then rB false else bC env N 15 4 (agS L M 0)):=by kernel_rfl
theorem ajB (N:Nat) (L M:List (List Ch)) (i:Int):aF env N 15 0 4 (agS L M i)=bif decide (i < (↑(aK L).length:Int)) then bK (aK L) i fun e=>bK (aK M) i fun e_1=>iw N 41 [e,e_1] fun b=>bif !b then ah.ok (Ex.ret,{tmps:=slots 27 [(4,.t (.bool false))],heap:=[]}) else ah.ok (Ex.norm,agS L M (IntKind.i64.wrap (i+1))) else ah.ok (Ex.exit 0,{tmps:=slots 27 [],heap:=[]}):=by kernel_rfl
theorem acW (N:Nat) (b:Bool):aP env N 15 0 4 (aW env 15) (.ret) (⟨slots 27 [(4,.t (.bool b))],[]⟩)=rB b:=by kernel_rfl
theorem WA (N:Nat):aP env N 15 0 4 (aW env 15) (.exit 0) (⟨slots 27 [],[]⟩)=rB true:=by kernel_rfl
def agR (l:List Px) (x:Px) (i:Int):St:=⟨slots 18 [(0,.t (.sl 2 (l.map Px.t))),(3,.ptr 0 0),(5,.t (i64 i))],[.box 25 2 (.t x.t)]⟩
end
section
open Go.RowKit Go.Proofs
variable [Lv]
def hSt (t:List Cf):List aj:=[.box 22 1 (.t (.sl 6 (t.map Cf.t))),.box 71 1 (.fn 35 [] [.ptr 0 0,.ptr 1 0])]
def acd (t:List Cf) (L:List (List Ch)) (n:Int) (a:T) (b:Bool):Pin:=⟨35,[.t (.sl 1 (aK L)),.t (i64 n),.ptr 0 0,.ptr 1 0],hSt t,.au [.t a,.t (.bool b)],hSt t⟩
theorem arl (N:Nat) (t:List Cf) (L M:List (List Ch)) (n:Int) (a:T) (b:Bool) {β:Type} (K:PV→List aj→ah β):fU env (bI env N [acd t M (IntKind.i64.wrap (n - 1)) a b]) N 35 [.t (.sl 1 (aK L)),.t (i64 n),.ptr 0 0,.ptr 1 0] [.box 22 1 (.t (.sl 6 (t.map Cf.t))),.box 71 1 (.fn 35 [] [.ptr 0 0,.ptr 1 0])] K=cl N 21 [T.sl 6 (List.map Cf.t t),T.sl 1 (aK L)] fun x=>bT x fun b_1=>bif b_1 then K (PV.au [PV.t (.sl 1 (aK L)),.t x]) [aj.box 22 1 (.t (.sl 6 (List.map Cf.t t))),.box 71 1 (.fn 35 [] [PV.ptr 0 0,.ptr 1 0])] else bif n==0 then K (PV.au [PV.t (.sl 1 (aK L)),.t x]) [aj.box 22 1 (.t (.sl 6 (List.map Cf.t t))),.box 71 1 (.fn 35 [] [PV.ptr 0 0,.ptr 1 0])] else cl N 19 [T.sl 6 (List.map Cf.t t),T.sl 1 (aK L)] fun x=>iU ([PV.t x,.t (i64 (IntKind.i64.wrap (n - 1))),.ptr 0 0,.ptr 1 0]= [PV.t (.sl 1 (aK M)),.t (i64 (IntKind.i64.wrap (n - 1))),.ptr 0 0,.ptr 1 0]∧ [aj.box 22 1 (.t (.sl 6 (List.map Cf.t t))),.box 71 1 (.fn 35 [] [PV.ptr 0 0,.ptr 1 0])]= [aj.box 22 1 (.t (.sl 6 (List.map Cf.t t))),.box 71 1 (.fn 35 [] [PV.ptr 0 0,.ptr 1 0])]) (K (PV.au [PV.t a,.t (.bool b)]) [aj.box 22 1 (.t (.sl 6 (List.map Cf.t t))),.box 71 1 (.fn 35 [] [PV.ptr 0 0,.ptr 1 0])]):=by kernel_rfl
theorem arn (N:Nat) (t:List Cf) (L:List (List Ch)) (n:Int) (a:T) (b:Bool):fU env (bI env N [acd t L n a b]) N 11 [.t (.sl 6 (t.map Cf.t))] [] (aW env 11)=cl N 17 [T.sl 6 (List.map Cf.t t)] fun x=>cl N 29 [i64 (↑(List.map Cf.t t).length:Int)] fun x_1=>iU ([PV.t x,.t x_1,.ptr 0 0,.ptr 1 0]= [PV.t (.sl 1 (aK L)),.t (i64 n),.ptr 0 0,.ptr 1 0]∧ [aj.box 22 1 (.t (.sl 6 (List.map Cf.t t))),.box 71 1 (.fn 35 [] [PV.ptr 0 0,.ptr 1 0])]= [aj.box 22 1 (.t (.sl 6 (List.map Cf.t t))),.box 71 1 (.fn 35 [] [PV.ptr 0 0,.ptr 1 0])]) (ah.ok (T.au [a,T.bool b])):=by kernel_rfl
theorem ac5 (N:Nat) (ys:List T):aP env N 46 0 3 (aW env 46) (.ret) (⟨slots 59 [(6,.own 0)],[.row 104 6 ys]⟩)=ah.ok (T.sl 6 ys):=by kernel_rfl
theorem aqA (N:Nat) (Kc:St→ah T):Nk env N 8 0 5 (oq env 8 []) Kc=bW (T.mF 2) [T.agg [i64 167772160,i64 8]] (bW (T.mF 3) [T.agg [i64 0,i64 1,i64 3],T.agg [i64 2,i64 1,i64 3]] (cl N 32 [i64 3,T.sl 2 [T.agg [i64 167772160,i64 8]],T.sl 3 [T.agg [i64 0,i64 1,i64 3],T.agg [i64 2,i64 1,i64 3]]] fun x=>cl N 11 [x] fun x_1=>aG x_1 0 fun y=>aG x_1 1 fun y_1=>cl N 13 [x,y,i64 2,T.agg [i64 167772160,i64 8]] fun x_2=>aG x_2 0 fun nO=>aG x_2 1 fun xu=>Kc {tmps:=[PV.t (.bool false),.ptr 0 0,.t x,.t y,.t y_1,.t nO,.t xu,.t (.agg [i64 167772160,i64 8]),.t (.agg [i64 167772160,i64 8]),.own 1,.t (.agg [i64 0,i64 1,i64 3]),.t (.agg [i64 2,i64 1,i64 3]),.own 2,.t x,.t x_1,.t x,.t x_1,.t y,.t y_1,.t x_2,.t x,.t y,.t (.agg [i64 167772160,i64 8]),.t x_2,.t nO,.t xu,.au [],.au [],.au [],.au [],.au [],.au [],.au [],.au [],.au [],.au [],.au [],.au [],.au [],.au [],.au [],.au [],.au [],.au [],.au [],.au [],.au [],.au [],.au [],.au [],.au [],.au [],.au [],.au [],.au [],.au [],.au [],.au [],.au [],.au [],.au [],.au [],.au [],.au [],.au [],.au [],.au [],.au [],.au [],.au [],.au [],.au [],.au [],.au [],.au [],.au [],.au [],.au [],.au [],.au [],.au [],.au [],.au [],.au [],.au [],.au [],.au [],.au [],.au [],.au [],.au [],.au [],.au [],.au [],.au []],heap:=[aj.box 25 2 (.t (.agg [i64 167772160,i64 8])),.jT 25 2 [T.agg [i64 167772160,i64 8]],.jT 67 3 [T.agg [i64 0,i64 1,i64 3],T.agg [i64 2,i64 1,i64 3]]]})):=by kernel_rfl
theorem ae3 (N:Nat) (t:List Cf) (L:List (List Ch)) (n:Int) {β:Type} (K:PV→List aj→ah β):fU env (bI env N []) N 35 [.t (.sl 1 (aK L)),.t (i64 n),.ptr 0 0,.ptr 1 0] [.box 22 1 (.t (.sl 6 (t.map Cf.t))),.box 71 1 (.fn 35 [] [.ptr 0 0,.ptr 1 0])] K=cl N 21 [T.sl 6 (List.map Cf.t t),T.sl 1 (aK L)] fun x=>bT x fun b=>bif b then K (PV.au [PV.t (.sl 1 (aK L)),.t x]) [aj.box 22 1 (.t (.sl 6 (List.map Cf.t t))),.box 71 1 (.fn 35 [] [PV.ptr 0 0,.ptr 1 0])] else bif n==0 then K (PV.au [PV.t (.sl 1 (aK L)),.t x]) [aj.box 22 1 (.t (.sl 6 (List.map Cf.t t))),.box 71 1 (.fn 35 [] [PV.ptr 0 0,.ptr 1 0])] else cl N 19 [T.sl 6 (List.map Cf.t t),T.sl 1 (aK L)] fun x=>ah.stuck:=by kernel_rfl
end
section
open Go.RowKit Go.Proofs
variable [Lv]
abbrev fP (t:List (List En)):List T:=t.map fun l=> .sl 6 (l.map En.t)
def agZ (l:List Ch) (f:T) (i:Int):St:=⟨slots 19 [(0,.t (.sl 8 (l.map Ch.t))),(1,.t f),(7,.t (i64 (l.map Ch.t).length)),(8,.t (i64 i))],[]⟩
def agU (l m:List Ch) (f:T) (i:Int):St:=⟨slots 32 [(1,.t (.sl 8 (m.map Ch.t))),(2,.t f),(15,.t (.sl 8 (l.map Ch.t))),(16,.t (i64 (l.map Ch.t).length)),(17,.t (i64 i))],[]⟩
def sMn (l:List Rt) (r:Rt) (f:T) (i:Int):St:=⟨slots 33 [(0,.t (.sl 6 (l.map Rt.t))),(1,.t f),(4,.ptr 0 0),(5,.ptr 1 0),(6,.t (i64 i))],[.box 44 6 (.agg [.t (i64 0),.t (i64 0),.own 2,.t (i64 0),.t (i64 0),.t (i64 0)]),.box 44 6 (.t r.t),.row 3 1 []]⟩
def sTh (c:Cf) (t:List (List En)) (x:Px) (r:List Rt) (n i:Int):St:=⟨slots 61 [(1,.t (.sl 1 (fP t))),(3,.ptr 0 0),(5,.ptr 1 0),(7,.own 2),(31,.t (i64 n)),(32,.t (i64 i))],[.box 56 6 (.t c.t),.box 25 2 (.t x.t),.row 44 6 (r.map Rt.t)]⟩
def ak8 (c:Cf) (t:List (List En)) (x:Px) (r:List Rt) (i:Int):St:=⟨slots 76 [(1,.t (.sl 1 (fP t))),(3,.ptr 0 0),(5,.ptr 1 0),(7,.own 2),(8,.t (i64 i))],[.box 56 6 (.t c.t),.box 25 2 (.t x.t),.row 44 6 (r.map Rt.t)]⟩
def acI (c:Cf) (t:List (List En)) (x:Px) (r:List Rt) (i:Int):St:=⟨slots 76 [(1,.t (.sl 1 (fP t))),(3,.ptr 0 0),(5,.ptr 1 0),(7,.own 2),(9,.t (i64 i))],[.box 56 6 (.t c.t),.box 25 2 (.t x.t),.row 44 6 (r.map Rt.t)]⟩
def sFC (l:List Ch) (i:Int):St:=⟨slots 22 [(0,.t (.sl 8 (l.map Ch.t))),(3,.t (i64 i))],[]⟩
def sFw (t:List (List En)) (i:Int):St:=⟨slots 19 [(0,.t (.sl 1 (fP t))),(3,.t (i64 i))],[]⟩
def sGt (l:List Ch) (x:Px) (i:Int):St:=⟨slots 26 [(0,.t (.sl 8 (l.map Ch.t))),(3,.ptr 0 0),(4,.ptr 1 0),(6,.t (i64 i))],[.box 25 2 (.t x.t),.box 44 6 (.agg [.t (i64 0),.t (i64 0),.own 2,.t (i64 0),.t (i64 0),.t (i64 0)]),.row 3 1 []]⟩
def sSr (l m:List Rt) (i:Int):St:=⟨slots 27 [(0,.t (.sl 6 (l.map Rt.t))),(1,.t (.sl 6 (m.map Rt.t))),(5,.t (i64 i))],[]⟩
def sSm (l m:List Ch) (i:Int):St:=⟨slots 42 [(0,.t (.sl 8 (l.map Ch.t))),(1,.t (.sl 8 (m.map Ch.t))),(5,.t (i64 i))],[]⟩
def sPt (l:List Px) (x:Px) (r:List Px) (d:Bool) (i:Int):St:=⟨slots 50 [(0,.t (.sl 2 (l.map Px.t))),(3,.ptr 0 0),(5,.own 1),(6,.t (.bool d)),(7,.t (i64 i))],[.box 25 2 (.t x.t),.row 25 2 (r.map Px.t)]⟩
def sBs (l:List Rt) (r:Rt) (i:Int):St:=⟨slots 31 [(0,.t (.sl 6 (l.map Rt.t))),(2,.ptr 0 0),(4,.ptr 1 0),(5,.t (i64 i))],[.box 44 6 (.agg [.t (i64 0),.t (i64 0),.own 2,.t (i64 0),.t (i64 0),.t (i64 0)]),.box 44 6 (.t r.t),.row 3 1 []]⟩
def sG8 (l:List En) (x:Px) (i:Int):St:=⟨slots 29 [(3,.ptr 0 0),(4,.ptr 1 0),(6,.t (.sl 6 (l.map En.t))),(7,.t (i64 i))],[.box 25 2 (.t x.t),.box 42 4 (.agg [.t (i64 0),.own 2,.t (i64 0),.t (i64 0)]),.row 3 1 []]⟩
def sS8 (l:List En) (i:Int):St:=⟨slots 45 [(0,.t (.sl 6 (l.map En.t))),(3,.t (i64 i))],[]⟩
def aoo (a b:Rt) (l:List Int) (i:Int):St:=⟨slots 99 [(2,.ptr 0 0),(3,.ptr 1 0),(5,.own 2),(6,.t (i64 i))],[.box 44 6 (.t a.t),.box 44 6 (.t b.t),.row 3 1 (ints l)]⟩
def ak3 (l:List Int) (i:Int):St:=⟨slots 99 [(5,.own 0),(7,.t (i64 i))],[.row 3 1 (ints l)]⟩
def sL1 (c:Cf) (t:List (List En)) (l:List Px) (i:Int):St:=⟨slots 87 [(1,.t (.sl 1 (fP t))),(2,.ptr 0 0),(5,.t (.sl 2 (l.map Px.t))),(6,.t (i64 i))],[.box 56 6 (.t c.t)]⟩
def sL2 (c:Cf) (t:List (List En)) (l:List Px) (i:Int):St:=⟨slots 87 [(1,.t (.sl 1 (fP t))),(2,.ptr 0 0),(5,.t (.sl 2 (l.map Px.t))),(7,.t (i64 i))],[.box 56 6 (.t c.t)]⟩
def sL3 (c:Cf) (t:List (List En)) (l:List Px) (i j:Int):St:=⟨slots 87 [(1,.t (.sl 1 (fP t))),(2,.ptr 0 0),(5,.t (.sl 2 (l.map Px.t))),(7,.t (i64 i)),(8,.t (i64 j))],[.box 56 6 (.t c.t)]⟩
def sL4 (c:Cf) (t:List (List En)) (l:List Px) (r:List Ch) (i:Int):St:=⟨slots 87 [(1,.t (.sl 1 (fP t))),(2,.ptr 0 0),(5,.t (.sl 2 (l.map Px.t))),(9,.own 1),(10,.t (i64 i))],[.box 56 6 (.t c.t),.row 46 8 (r.map Ch.t)]⟩
theorem q61 (N:Nat) (l:List Ch) (f:T):ak env (N+1) 61 [.sl 8 (l.map Ch.t),f]=W [.sl 8 (l.map Ch.t),f] (bC env N 61 2 (agZ l f 0)):=by kernel_rfl
theorem aoP (N:Nat) (l:List Ch) (f:T) (i:Int):aF env N 61 0 2 (agZ l f i)=bif decide (i < (↑(List.map Ch.t l).length:Int)) then bK (List.map Ch.t l) i fun e=>oJ env (aJ env N) f [e] fun r=>bT r fun v=>bif v then ah.ok (Ex.ret,{tmps:=slots 19 [(4,.t (i64 i))],heap:=[]}) else ah.ok (Ex.norm,agZ l f (IntKind.i64.wrap (i+1))) else ah.ok (Ex.exit 0,{tmps:=slots 19 [],heap:=[]}):=by kernel_rfl
theorem ada (N:Nat) (i:Int):aP env N 61 0 2 (aW env 61) (.ret) (⟨slots 19 [(4,.t (i64 i))],[]⟩)=rI i:=by kernel_rfl
theorem WY (N:Nat):aP env N 61 0 2 (aW env 61) (.exit 0) (⟨slots 19 [],[]⟩)=rI (-1):=by kernel_rfl
theorem q62 (N:Nat) (c:Ch) (x:Px):ak env (N+1) 62 [c.t,.ref x.t]=W [c.t,.ref x.t] (rB (c.x.a==x.a&&(c.x.n==x.n&&true))):=by kernel_rfl
theorem q26 (N:Nat) (l:List Ch) (x:Px):ak env (N+1) 26 [.sl 8 (l.map Ch.t),x.t]=W [.sl 8 (l.map Ch.t),x.t] (cl N 61 [T.sl 8 (List.map Ch.t l),T.fn 62 [] [x.t.ref]] fun x=>iT IntKind.i64 x fun a=>bif decide (a < 0) then ah.ok (T.au [T.agg [i64 0,i64 0,T.sl 1 [],i64 0,i64 0,i64 0],T.bool false]) else o9 x fun i=>bK (List.map Ch.t l) i fun e=>chk ((e.ay 2 6 true).cells.length==6&& !(e.ay 2 6 true).aY) (ah.ok (T.au [e.ay 2 6 true,T.bool true]))):=by kernel_rfl
theorem q49 (N:Nat) (l m:List Ch):ak env (N+1) 49 [.sl 8 (l.map Ch.t),.sl 8 (m.map Ch.t)]=W [.sl 8 (l.map Ch.t),.sl 8 (m.map Ch.t)] (cl N 83 [T.sl 8 (List.map Ch.t l),T.sl 8 (List.map Ch.t m),T.fn 84 [] []] fun x=>ah.ok x):=by kernel_rfl
theorem q84 (N:Nat) (a b:Ch):ak env (N+1) 84 [a.t,b.t]=W [a.t,b.t] (bif a.x.a==b.x.a&&(a.x.n==b.x.n&&true) then cl N 27 [a.r.t,b.r.t] fun x=>ah.ok x else rB false):=by kernel_rfl
theorem q83 (N:Nat) (l m:List Ch) (f:T):ak env (N+1) 83 [.sl 8 (l.map Ch.t),.sl 8 (m.map Ch.t),f]=W [.sl 8 (l.map Ch.t),.sl 8 (m.map Ch.t),f] (bif (↑(List.map Ch.t l).length:Int) !=(↑(List.map Ch.t m).length:Int) then rB false else bC env N 83 4 (agU l m f 0)):=by kernel_rfl
theorem ajY (N:Nat) (l m:List Ch) (f:T) (i:Int):aF env N 83 0 4 (agU l m f i)=bif decide (i < (↑(List.map Ch.t l).length:Int)) then bK (List.map Ch.t l) i fun e=>chk (e.cells.length==8&& !e.aY) (bK (List.map Ch.t m) i fun e_1=>chk (e_1.cells.length==8&& !e_1.aY) (oJ env (aJ env N) f [e,e_1] fun r=>bT r fun b=>bif !b then ah.ok (Ex.ret,{tmps:=slots 32 [(6,.t (.bool false))],heap:=[]}) else ah.ok (Ex.norm,agU l m f (IntKind.i64.wrap (i+1))))) else ah.ok (Ex.exit 0,{tmps:=slots 32 [],heap:=[]}):=by kernel_rfl
theorem adf (N:Nat) (b:Bool):aP env N 83 0 4 (aW env 83) (.ret) (⟨slots 32 [(6,.t (.bool b))],[]⟩)=rB b:=by kernel_rfl
theorem Xe (N:Nat):aP env N 83 0 4 (aW env 83) (.exit 0) (⟨slots 32 [],[]⟩)=rB true:=by kernel_rfl
theorem ars (N:Nat) (a b:Ch):ak env (N+1) 103 [a.t,b.t]=W [a.t,b.t] (cl N 80 [a.x.t,b.x.t] fun x=>ah.ok x):=by kernel_rfl
theorem arp (N:Nat) (l:List Rt):ak env (N+1) 100 [.sl 6 (l.map Rt.t)]=W [.sl 6 (l.map Rt.t)] (bif (↑(List.map Rt.t l).length:Int)==0 then ah.ok (T.au [T.agg [i64 0,i64 0,T.sl 1 [],i64 0,i64 0,i64 0],T.bool false]) else cl N 133 [T.sl 6 (List.map Rt.t l),T.fn 30 [] []] fun x=>chk (x.cells.length==6&& !x.aY) (ah.ok (T.au [x,T.bool true]))):=by kernel_rfl
theorem arO (N:Nat) (l:List Rt) (f:T):ak env (N+1) 133 [.sl 6 (l.map Rt.t),f]=W [.sl 6 (l.map Rt.t),f] (bif decide ((↑(List.map Rt.t l).length:Int) < 1) then ah.stuck else bK (List.map Rt.t l) 0 fun e=>chk (e.cells.length==6&& !e.aY) (bC env N 133 5 {tmps:=slots 33 [(0,.t (.sl 6 (List.map Rt.t l))),(1,.t f),(4,.ptr 0 0),(5,.ptr 1 0),(6,.t (i64 1))],heap:=[aj.box 44 6 (.agg [PV.t (i64 0),.t (i64 0),.own 2,.t (i64 0),.t (i64 0),.t (i64 0)]),.box 44 6 (.t e),.row 3 1 []]})):=by kernel_rfl
theorem aeb (N:Nat) (l:List Rt) (r:Rt) (f:T) (i:Int):aF env N 133 0 5 (sMn l r f i)=bif decide (i < (↑(List.map Rt.t l).length:Int)) then bK (List.map Rt.t l) i fun e=>oJ env (aJ env N) f [e,r.t] fun r_1=>iT IntKind.i64 r_1 fun a=>bif decide (a < 0) then bK (List.map Rt.t l) i fun e=>chk (e.cells.length==6&& !e.aY) (ah.ok (Ex.norm,{tmps:=slots 33 [(0,.t (.sl 6 (List.map Rt.t l))),(1,.t f),(4,.ptr 0 0),(5,.ptr 1 0),(6,.t (i64 (IntKind.i64.wrap (i+1))))],heap:=[aj.box 44 6 (.agg [PV.t (i64 0),.t (i64 0),.own 2,.t (i64 0),.t (i64 0),.t (i64 0)]),.box 44 6 (.t e),.row 3 1 []]})) else ah.ok (Ex.norm,{tmps:=slots 33 [(0,.t (.sl 6 (List.map Rt.t l))),(1,.t f),(4,.ptr 0 0),(5,.ptr 1 0),(6,.t (i64 (IntKind.i64.wrap (i+1))))],heap:=[aj.box 44 6 (.agg [PV.t (i64 0),.t (i64 0),.own 2,.t (i64 0),.t (i64 0),.t (i64 0)]),.box 44 6 (.t r.t),.row 3 1 []]}) else ah.ok (Ex.exit 0,{tmps:=slots 33 [(4,.ptr 0 0),(5,.ptr 1 0)],heap:=[aj.box 44 6 (.agg [PV.t (i64 0),.t (i64 0),.own 2,.t (i64 0),.t (i64 0),.t (i64 0)]),.box 44 6 (.t r.t),.row 3 1 []]}):=by kernel_rfl
theorem SA (N:Nat) (r:Rt):aP env N 133 0 5 (aW env 133) (.exit 0) (⟨slots 33 [(4,.ptr 0 0),(5,.ptr 1 0)],[.box 44 6 (.agg [.t (i64 0),.t (i64 0),.own 2,.t (i64 0),.t (i64 0),.t (i64 0)]),.box 44 6 (.t r.t),.row 3 1 []]⟩)=ah.ok r.t:=by kernel_rfl
theorem arq (N:Nat) (c:Cf) (t:List (List En)) (x:Px):ak env (N+1) 101 [c.t,.sl 1 (fP t),x.t]=W [c.t,.sl 1 (fP t),x.t] (iw N 52 [c.t] fun b=>bif !b then ah.ok (T.sl 6 []) else iw N 134 [T.sl 2 (List.map Px.t c.w),x.t] fun v=>bif v then cl N 28 [i64 c.d] fun x_1=>bW (T.mF 6) [x_1] (bC env N 101 7 {tmps:=slots 61 [(1,.t (.sl 1 (List.map (fun l=>T.sl 6 (List.map En.t l)) t))),(3,.ptr 0 0),(5,.ptr 1 0),(7,.own 2),(31,.t (i64 (dh false [(↑(List.map Sd.t c.s).length:Int)] (↑(List.map (fun l=>T.sl 6 (List.map En.t l)) t).length:Int)))),(32,.t (i64 0))],heap:=[aj.box 56 6 (.t c.t),.box 25 2 (.t x.t),.row 44 6 [x_1]]}) else bC env N 101 7 {tmps:=slots 61 [(1,.t (.sl 1 (List.map (fun l=>T.sl 6 (List.map En.t l)) t))),(3,.ptr 0 0),(5,.ptr 1 0),(7,.own 2),(31,.t (i64 (dh false [(↑(List.map Sd.t c.s).length:Int)] (↑(List.map (fun l=>T.sl 6 (List.map En.t l)) t).length:Int)))),(32,.t (i64 0))],heap:=[aj.box 56 6 (.t c.t),.box 25 2 (.t x.t),.row 44 6 []]}):=by kernel_rfl
theorem ad3 (N:Nat) (c:Cf) (t:List (List En)) (x:Px) (r:List Rt) (n i:Int):aF env N 101 0 7 (sTh c t x r n i)=bif decide (i < n) then bK (List.map (fun l=>T.sl 6 (List.map En.t l)) t) i fun e=>cl N 135 [e,x.t] fun x_1=>aG x_1 0 fun y=>aG x_1 1 fun y_1=>chk (y.cells.length==4&& !y.aY) (bT y_1 fun b=>bif !b then ah.ok (Ex.norm,sTh c t x r n (IntKind.i64.wrap (i+1))) else cl N 136 [c.t,i64 i,x.t,y] fun x_2=>aG x_2 0 fun y=>aG x_2 1 fun nO=>chk (y.cells.length==6&& !y.aY) (bT nO fun v=>bif v then bW (T.mF 6) [y] (chk (decide (((List.map Rt.t r).length+1)*64≤140737488355328)) (ah.ok (Ex.norm,{tmps:=slots 61 [(1,.t (.sl 1 (List.map (fun l=>T.sl 6 (List.map En.t l)) t))),(3,.ptr 0 0),(5,.ptr 1 0),(7,.own 2),(31,.t (i64 n)),(32,.t (i64 (IntKind.i64.wrap (i+1))))],heap:=[aj.box 56 6 (.t c.t),.box 25 2 (.t x.t),.row 44 6 (List.map Rt.t r++ [y])]}))) else ah.ok (Ex.norm,sTh c t x r n (IntKind.i64.wrap (i+1))))) else ah.ok (Ex.exit 0,{tmps:=slots 61 [(7,.own 0)],heap:=[aj.row 44 6 (List.map Rt.t r)]}):=by kernel_rfl
theorem RZ (N:Nat) (r:List Rt):aP env N 101 0 7 (aW env 101) (.exit 0) (⟨slots 61 [(7,.own 0)],[.row 44 6 (r.map Rt.t)]⟩)=ah.ok (T.sl 6 (List.map Rt.t r)):=by kernel_rfl
theorem q79 (N:Nat) (c:Cf) (t:List (List En)) (x:Px):ak env (N+1) 79 [c.t,.sl 1 (fP t),x.t]=W [c.t,.sl 1 (fP t),x.t] (iw N 106 [c.t] fun b=>bif !b then ah.ok (T.sl 6 []) else bC env N 79 5 {tmps:=slots 76 [(1,.t (.sl 1 (List.map (fun l=>T.sl 6 (List.map En.t l)) t))),(3,.ptr 0 0),(5,.ptr 1 0),(7,.own 2),(8,.t (i64 0))],heap:=[aj.box 56 6 (.t c.t),.box 25 2 (.t x.t),.row 44 6 []]}):=by kernel_rfl
theorem ajW (N:Nat) (c:Cf) (t:List (List En)) (x:Px) (r:List Rt) (i:Int):aF env N 79 0 5 (ak8 c t x r i)=bif decide (i < (↑(List.map Px.t c.w).length:Int)) then bK (List.map Px.t c.w) i fun e=>match T.eX [0,0] e.cells [i64 x.a,i64 x.n] with|some b=>bif b then cl N 107 [i64 c.d] fun x_1=>bW (T.mF 6) [x_1] (chk (decide (((List.map Rt.t r).length+1)*64≤140737488355328)) (ah.ok (Ex.norm,{tmps:=slots 76 [(1,.t (.sl 1 (List.map (fun l=>T.sl 6 (List.map En.t l)) t))),(3,.ptr 0 0),(5,.ptr 1 0),(7,.own 2),(8,.t (i64 (IntKind.i64.wrap (i+1))))],heap:=[aj.box 56 6 (.t c.t),.box 25 2 (.t x.t),.row 44 6 (List.map Rt.t r++ [x_1])]}))) else ah.ok (Ex.norm,ak8 c t x r (IntKind.i64.wrap (i+1)))|none=>ah.stuck else ah.ok (Ex.exit 0,{tmps:=slots 76 [(1,.t (.sl 1 (List.map (fun l=>T.sl 6 (List.map En.t l)) t))),(3,.ptr 0 0),(5,.ptr 1 0),(7,.own 2)],heap:=[aj.box 56 6 (.t c.t),.box 25 2 (.t x.t),.row 44 6 (List.map Rt.t r)]}):=by kernel_rfl
theorem Xc (N:Nat) (c:Cf) (t:List (List En)) (x:Px) (r:List Rt):aP env N 79 0 5 (aW env 79) (.exit 0) (⟨slots 76 [(1,.t (.sl 1 (fP t))),(3,.ptr 0 0),(5,.ptr 1 0),(7,.own 2)],[.box 56 6 (.t c.t),.box 25 2 (.t x.t),.row 44 6 (r.map Rt.t)]⟩)=bC env N 79 10 (acI c t x r 0):=by kernel_rfl
theorem aes (N:Nat) (c:Cf) (t:List (List En)) (x:Px) (r:List Rt) (i:Int):aF env N 79 0 10 (acI c t x r i)=bif decide (i < (↑(List.map Sd.t c.s).length:Int)) then bif decide (i < (↑(List.map (fun l=>T.sl 6 (List.map En.t l)) t).length:Int)) then bK (List.map (fun l=>T.sl 6 (List.map En.t l)) t) i fun e=>cl N 108 [e,x.t] fun x_1=>aG x_1 0 fun y=>aG x_1 1 fun y_1=>chk (y.cells.length==4&& !y.aY) (cl N 109 [c.t,i64 i,x.t,y] fun x_2=>aG x_2 0 fun y=>aG x_2 1 fun nO=>chk (y.cells.length==6&& !y.aY) (bT y_1 fun b=>bif b then bT nO fun v=>bif v then bW (T.mF 6) [y] (chk (decide (((List.map Rt.t r).length+1)*64≤140737488355328)) (ah.ok (Ex.norm,{tmps:=slots 76 [(1,.t (.sl 1 (List.map (fun l=>T.sl 6 (List.map En.t l)) t))),(3,.ptr 0 0),(5,.ptr 1 0),(7,.own 2),(9,.t (i64 (IntKind.i64.wrap (i+1))))],heap:=[aj.box 56 6 (.t c.t),.box 25 2 (.t x.t),.row 44 6 (List.map Rt.t r++ [y])]}))) else ah.ok (Ex.norm,acI c t x r (IntKind.i64.wrap (i+1))) else ah.ok (Ex.norm,acI c t x r (IntKind.i64.wrap (i+1))))) else ah.ok (Ex.exit 2,{tmps:=slots 76 [(7,.own 0)],heap:=[aj.row 44 6 (List.map Rt.t r)]}) else ah.ok (Ex.exit 2,{tmps:=slots 76 [(7,.own 0)],heap:=[aj.row 44 6 (List.map Rt.t r)]}):=by kernel_rfl
theorem Tn (N:Nat) (r:List Rt):aP env N 79 0 10 (aW env 79) (.exit 2) (⟨slots 76 [(7,.own 0)],[.row 44 6 (r.map Rt.t)]⟩)=ah.ok (T.sl 6 (List.map Rt.t r)):=by kernel_rfl
theorem q34 (N:Nat) (l:List Ch):ak env (N+1) 34 [.sl 8 (l.map Ch.t)]=W [.sl 8 (l.map Ch.t)] (bC env N 34 2 (sFC l 0)):=by kernel_rfl
theorem ajF (N:Nat) (l:List Ch) (i:Int):aF env N 34 0 2 (sFC l i)=bif decide (i < (↑(List.map Ch.t l).length:Int)) then bK (List.map Ch.t l) i fun e=>iO (e.ay 4 1 false) fun n=>bif decide (n > 100) then ah.ok (Ex.ret,{tmps:=slots 22 [(2,.t (.bool false))],heap:=[]}) else ah.ok (Ex.norm,sFC l (IntKind.i64.wrap (i+1))) else ah.ok (Ex.exit 0,{tmps:=slots 22 [(0,.t (.sl 8 (List.map Ch.t l)))],heap:=[]}):=by kernel_rfl
theorem ac2 (N:Nat) (b:Bool):aP env N 34 0 2 (aW env 34) (.ret) (⟨slots 22 [(2,.t (.bool b))],[]⟩)=rB b:=by kernel_rfl
theorem WI (N:Nat) (l:List Ch):aP env N 34 0 2 (aW env 34) (.exit 0) (⟨slots 22 [(0,.t (.sl 8 (l.map Ch.t)))],[]⟩)=rB (decide ((↑(List.map Ch.t l).length:Int)≤60)):=by kernel_rfl
theorem q38 (N:Nat) (l:List Ch) (x:Px):ak env (N+1) 38 [.sl 8 (l.map Ch.t),x.t]=W [.sl 8 (l.map Ch.t),x.t] (bC env N 38 2 {tmps:=slots 26 [(0,.t (.sl 8 (List.map Ch.t l))),(3,.ptr 0 0),(4,.ptr 1 0),(6,.t (i64 0))],heap:=[aj.box 25 2 (.t x.t),.box 44 6 (.agg [PV.t (i64 0),.t (i64 0),.own 2,.t (i64 0),.t (i64 0),.t (i64 0)]),.row 3 1 []]}):=by kernel_rfl
theorem ajG (N:Nat) (l:List Ch) (x:Px) (i:Int):aF env N 38 0 2 (sGt l x i)=bif decide (i < (↑(List.map Ch.t l).length:Int)) then bK (List.map Ch.t l) i fun e=>match T.eX [0,0] (e.ay 0 2 true).cells [i64 x.a,i64 x.n] with|some b=>bif b then bK (List.map Ch.t l) i fun e=>chk ((e.ay 2 6 true).cells.length==6&& !(e.ay 2 6 true).aY) (ah.ok (Ex.ret,{tmps:=slots 26 [(4,.ptr 0 0),(5,.t (.bool true))],heap:=[aj.box 44 6 (.t (e.ay 2 6 true))]})) else ah.ok (Ex.norm,{tmps:=slots 26 [(0,.t (.sl 8 (List.map Ch.t l))),(3,.ptr 0 0),(4,.ptr 1 0),(6,.t (i64 (IntKind.i64.wrap (i+1))))],heap:=[aj.box 25 2 (.t x.t),.box 44 6 (.agg [PV.t (i64 0),.t (i64 0),.own 2,.t (i64 0),.t (i64 0),.t (i64 0)]),.row 3 1 []]})|none=>ah.stuck else ah.ok (Ex.exit 0,{tmps:=slots 26 [(4,.ptr 0 0)],heap:=[aj.box 44 6 (.agg [PV.t (i64 0),.t (i64 0),.own 1,.t (i64 0),.t (i64 0),.t (i64 0)]),.row 3 1 []]}):=by kernel_rfl
theorem ac3 (N:Nat) (r:Rt) (b:Bool):aP env N 38 0 2 (aW env 38) (.ret) (⟨slots 26 [(4,.ptr 0 0),(5,.t (.bool b))],[.box 44 6 (.t r.t)]⟩)=ah.ok (T.au [r.t,T.bool b]):=by kernel_rfl
theorem WJ (N:Nat):aP env N 38 0 2 (aW env 38) (.exit 0) (⟨slots 26 [(4,.ptr 0 0)],[.box 44 6 (.agg [.t (i64 0),.t (i64 0),.own 1,.t (i64 0),.t (i64 0),.t (i64 0)]),.row 3 1 []]⟩)=ah.ok (T.au [T.agg [i64 0,i64 0,T.sl 1 [],i64 0,i64 0,i64 0],T.bool false]):=by kernel_rfl
theorem q41 (N:Nat) (l m:List Ch):ak env (N+1) 41 [.sl 8 (l.map Ch.t),.sl 8 (m.map Ch.t)]=W [.sl 8 (l.map Ch.t),.sl 8 (m.map Ch.t)] (bif (↑(List.map Ch.t l).length:Int) !=(↑(List.map Ch.t m).length:Int) then rB false else bC env N 41 4 (sSm l m 0)):=by kernel_rfl
theorem ajH (N:Nat) (l m:List Ch) (i:Int):aF env N 41 0 4 (sSm l m i)=bif decide (i < (↑(List.map Ch.t l).length:Int)) then bK (List.map Ch.t l) i fun e=>bK (List.map Ch.t m) i fun e_1=>match T.eX [0,0] (e.ay 0 2 true).cells (e_1.ay 0 2 true).cells with|some b=>bif !b then ah.ok (Ex.ret,{tmps:=slots 42 [(4,.t (.bool false))],heap:=[]}) else bK (List.map Ch.t l) i fun e=>bK (List.map Ch.t m) i fun e_2=>iw N 75 [e.ay 2 6 true,e_2.ay 2 6 true] fun b=>bif !b then ah.ok (Ex.ret,{tmps:=slots 42 [(4,.t (.bool false))],heap:=[]}) else ah.ok (Ex.norm,sSm l m (IntKind.i64.wrap (i+1)))|none=>ah.stuck else ah.ok (Ex.exit 0,{tmps:=slots 42 [],heap:=[]}):=by kernel_rfl
theorem ac4 (N:Nat) (b:Bool):aP env N 41 0 4 (aW env 41) (.ret) (⟨slots 42 [(4,.t (.bool b))],[]⟩)=rB b:=by kernel_rfl
theorem WL (N:Nat):aP env N 41 0 4 (aW env 41) (.exit 0) (⟨slots 42 [],[]⟩)=rB true:=by kernel_rfl
theorem q77 (N:Nat) (l:List Px) (x:Px):ak env (N+1) 77 [.sl 2 (l.map Px.t),x.t]=W [.sl 2 (l.map Px.t),x.t] (bC env N 77 4 {tmps:=slots 50 [(0,.t (.sl 2 (List.map Px.t l))),(3,.ptr 0 0),(5,.own 1),(6,.t (.bool false)),(7,.t (i64 0))],heap:=[aj.box 25 2 (.t x.t),.row 25 2 []]}):=by kernel_rfl
theorem ajU (N:Nat) (l:List Px) (x:Px) (r:List Px) (d:Bool) (i:Int):aF env N 77 0 4 (sPt l x r d i)=bif decide (i < (↑(List.map Px.t l).length:Int)) then bK (List.map Px.t l) i fun e=>cl N 104 [x.t,e] fun x_1=>iT IntKind.i64 x_1 fun a=>bif decide (a < 0) then bif !d then bW (T.mF 2) [x.t] (chk (decide (((List.map Px.t r).length+1)*16≤140737488355328)) (bif d then bK (List.map Px.t l) i fun e=>bW (T.mF 2) [e] (chk (decide (((List.map Px.t r++ [x.t]).length+1)*16≤140737488355328)) (ah.ok (Ex.norm,{tmps:=slots 50 [(0,.t (.sl 2 (List.map Px.t l))),(3,.ptr 0 0),(5,.own 1),(6,.t (.bool true)),(7,.t (i64 (IntKind.i64.wrap (i+1))))],heap:=[aj.box 25 2 (.t x.t),.row 25 2 (List.map Px.t r++ [x.t]++ [e])]}))) else iT IntKind.i64 x_1 fun a=>bK (List.map Px.t l) i fun e=>bW (T.mF 2) [e] (chk (decide (((List.map Px.t r++ [x.t]).length+1)*16≤140737488355328)) (ah.ok (Ex.norm,{tmps:=slots 50 [(0,.t (.sl 2 (List.map Px.t l))),(3,.ptr 0 0),(5,.own 1),(6,.t (.bool (decide (a≤0)))),(7,.t (i64 (IntKind.i64.wrap (i+1))))],heap:=[aj.box 25 2 (.t x.t),.row 25 2 (List.map Px.t r++ [x.t]++ [e])]}))))) else bif d then bK (List.map Px.t l) i fun e=>bW (T.mF 2) [e] (chk (decide (((List.map Px.t r).length+1)*16≤140737488355328)) (ah.ok (Ex.norm,{tmps:=slots 50 [(0,.t (.sl 2 (List.map Px.t l))),(3,.ptr 0 0),(5,.own 1),(6,.t (.bool true)),(7,.t (i64 (IntKind.i64.wrap (i+1))))],heap:=[aj.box 25 2 (.t x.t),.row 25 2 (List.map Px.t r++ [e])]}))) else iT IntKind.i64 x_1 fun a=>bK (List.map Px.t l) i fun e=>bW (T.mF 2) [e] (chk (decide (((List.map Px.t r).length+1)*16≤140737488355328)) (ah.ok (Ex.norm,{tmps:=slots 50 [(0,.t (.sl 2 (List.map Px.t l))),(3,.ptr 0 0),(5,.own 1),(6,.t (.bool (decide (a≤0)))),(7,.t (i64 (IntKind.i64.wrap (i+1))))],heap:=[aj.box 25 2 (.t x.t),.row 25 2 (List.map Px.t r++ [e])]}))) else bif d then bK (List.map Px.t l) i fun e=>bW (T.mF 2) [e] (chk (decide (((List.map Px.t r).length+1)*16≤140737488355328)) (ah.ok (Ex.norm,{tmps:=slots 50 [(0,.t (.sl 2 (List.map Px.t l))),(3,.ptr 0 0),(5,.own 1),(6,.t (.bool true)),(7,.t (i64 (IntKind.i64.wrap (i+1))))],heap:=[aj.box 25 2 (.t x.t),.row 25 2 (List.map Px.t r++ [e])]}))) else iT IntKind.i64 x_1 fun a=>bK (List.map Px.t l) i fun e=>bW (T.mF 2) [e] (chk (decide (((List.map Px.t r).length+1)*16≤140737488355328)) (ah.ok (Ex.norm,{tmps:=slots 50 [(0,.t (.sl 2 (List.map Px.t l))),(3,.ptr 0 0),(5,.own 1),(6,.t (.bool (decide (a≤0)))),(7,.t (i64 (IntKind.i64.wrap (i+1))))],heap:=[aj.box 25 2 (.t x.t),.row 25 2 (List.map Px.t r++ [e])]}))) else ah.ok (Ex.exit 0,{tmps:=slots 50 [(3,.ptr 0 0),(5,.own 1),(6,.t (.bool d))],heap:=[aj.box 25 2 (.t x.t),.row 25 2 (List.map Px.t r)]}):=by kernel_rfl
theorem Xa (N:Nat) (x:Px) (r:List Px) (d:Bool):aP env N 77 0 4 (aW env 77) (.exit 0) (⟨slots 50 [(3,.ptr 0 0),(5,.own 1),(6,.t (.bool d))],[.box 25 2 (.t x.t),.row 25 2 (r.map Px.t)]⟩)=bif !d then bW (T.mF 2) [x.t] (chk (decide (((List.map Px.t r).length+1)*16≤140737488355328)) (ah.ok (T.sl 2 (List.map Px.t r++ [x.t])))) else ah.ok (T.sl 2 (List.map Px.t r)):=by kernel_rfl
theorem q78 (N:Nat) (l:List Rt):ak env (N+1) 78 [.sl 6 (l.map Rt.t)]=W [.sl 6 (l.map Rt.t)] (bif (↑(List.map Rt.t l).length:Int)==0 then ah.ok (T.au [T.agg [i64 0,i64 0,T.sl 1 [],i64 0,i64 0,i64 0],T.bool false]) else bK (List.map Rt.t l) 0 fun e=>chk (e.cells.length==6&& !e.aY) (bC env N 78 5 {tmps:=slots 31 [(0,.t (.sl 6 (List.map Rt.t l))),(2,.ptr 0 0),(4,.ptr 1 0),(5,.t (i64 1))],heap:=[aj.box 44 6 (.agg [PV.t (i64 0),.t (i64 0),.own 2,.t (i64 0),.t (i64 0),.t (i64 0)]),.box 44 6 (.t e),.row 3 1 []]})):=by kernel_rfl
theorem ajV (N:Nat) (l:List Rt) (r:Rt) (i:Int):aF env N 78 0 5 (sBs l r i)=bif decide (i < (↑(List.map Rt.t l).length:Int)) then bK (List.map Rt.t l) i fun e=>DI N 105 [e,r.t] fun a=>bif decide (a < 0) then bK (List.map Rt.t l) i fun e=>chk (e.cells.length==6&& !e.aY) (ah.ok (Ex.norm,{tmps:=slots 31 [(0,.t (.sl 6 (List.map Rt.t l))),(2,.ptr 0 0),(4,.ptr 1 0),(5,.t (i64 (IntKind.i64.wrap (i+1))))],heap:=[aj.box 44 6 (.agg [PV.t (i64 0),.t (i64 0),.own 2,.t (i64 0),.t (i64 0),.t (i64 0)]),.box 44 6 (.t e),.row 3 1 []]})) else ah.ok (Ex.norm,{tmps:=slots 31 [(0,.t (.sl 6 (List.map Rt.t l))),(2,.ptr 0 0),(4,.ptr 1 0),(5,.t (i64 (IntKind.i64.wrap (i+1))))],heap:=[aj.box 44 6 (.agg [PV.t (i64 0),.t (i64 0),.own 2,.t (i64 0),.t (i64 0),.t (i64 0)]),.box 44 6 (.t r.t),.row 3 1 []]}) else ah.ok (Ex.exit 0,{tmps:=slots 31 [(2,.ptr 0 0),(4,.ptr 1 0)],heap:=[aj.box 44 6 (.agg [PV.t (i64 0),.t (i64 0),.own 2,.t (i64 0),.t (i64 0),.t (i64 0)]),.box 44 6 (.t r.t),.row 3 1 []]}):=by kernel_rfl
theorem Xb (N:Nat) (r:Rt):aP env N 78 0 5 (aW env 78) (.exit 0) (⟨slots 31 [(2,.ptr 0 0),(4,.ptr 1 0)],[.box 44 6 (.agg [.t (i64 0),.t (i64 0),.own 2,.t (i64 0),.t (i64 0),.t (i64 0)]),.box 44 6 (.t r.t),.row 3 1 []]⟩)=ah.ok (T.au [r.t,T.bool true]):=by kernel_rfl
theorem arR (N:Nat) (a b:Int):ak env (N+1) 139 [i64 a,i64 b]=W [i64 a,i64 b] (bif decide (a < b) then rI (-1) else bif decide (a > b) then rI 1 else rI 0):=by kernel_rfl
theorem arx (N:Nat) (a:Int):ak env (N+1) 107 [i64 a]=W [i64 a] (ah.ok (T.agg [i64 400,i64 0,T.sl 1 [],i64 a,i64 0,i64 (-1)])):=by kernel_rfl
theorem arv (N:Nat) (a b:Rt):ak env (N+1) 105 [a.t,b.t]=W [a.t,b.t] (cl N 139 [i64 b.n,i64 a.n] fun x=>cl N 139 [i64 (↑(ints a.p.s).length:Int),i64 (↑(ints b.p.s).length:Int)] fun x_1=>cl N 139 [i64 a.p.o,i64 b.p.o] fun x_2=>bW (T.mF 1) [x,x_1,x_2] (bC env N 105 3 {tmps:=slots 99 [(2,.ptr 0 0),(3,.ptr 1 0),(5,.own 2),(6,.t (i64 0))],heap:=[aj.box 44 6 (.t a.t),.box 44 6 (.t b.t),.row 3 1 [x,x_1,x_2]]})):=by kernel_rfl
theorem ad4 (N:Nat) (a b:Rt) (l:List Int) (i:Int):aF env N 105 0 3 (aoo a b l i)=bif decide (i < (↑(ints a.p.s).length:Int)) then bif decide (i < (↑(ints b.p.s).length:Int)) then bK (ints a.p.s) i fun e=>bK (ints b.p.s) i fun e_1=>cl N 139 [e,e_1] fun x=>bW (T.mF 1) [x] (chk (decide (((ints l).length+1)*8≤140737488355328)) (ah.ok (Ex.norm,{tmps:=slots 99 [(2,.ptr 0 0),(3,.ptr 1 0),(5,.own 2),(6,.t (i64 (IntKind.i64.wrap (i+1))))],heap:=[aj.box 44 6 (.t a.t),.box 44 6 (.t b.t),.row 3 1 (ints l++ [x])]}))) else ah.ok (Ex.exit 0,{tmps:=slots 99 [(2,.ptr 0 0),(3,.ptr 1 0),(5,.own 2)],heap:=[aj.box 44 6 (.t a.t),.box 44 6 (.t b.t),.row 3 1 (ints l)]}) else ah.ok (Ex.exit 0,{tmps:=slots 99 [(2,.ptr 0 0),(3,.ptr 1 0),(5,.own 2)],heap:=[aj.box 44 6 (.t a.t),.box 44 6 (.t b.t),.row 3 1 (ints l)]}):=by kernel_rfl
theorem Si (N:Nat) (a b:Rt) (l:List Int):aP env N 105 0 3 (aW env 105) (.exit 0) (⟨slots 99 [(2,.ptr 0 0),(3,.ptr 1 0),(5,.own 2)],[.box 44 6 (.t a.t),.box 44 6 (.t b.t),.row 3 1 (ints l)]⟩)=cl N 139 [i64 a.p.h,i64 b.p.h] fun x=>cl N 139 [i64 a.p.c,i64 b.p.c] fun x_1=>cl N 139 [i64 a.f,i64 b.f] fun x_2=>bW (T.mF 1) [x,x_1,x_2] (chk (decide (((ints l).length+3)*8≤140737488355328)) (bC env N 105 8 {tmps:=slots 99 [(5,.own 0),(7,.t (i64 0))],heap:=[aj.row 3 1 (ints l++ [x,x_1,x_2])]})):=by kernel_rfl
theorem ad5 (N:Nat) (l:List Int) (i:Int):aF env N 105 0 8 (ak3 l i)=bif decide (i < (↑(ints l).length:Int)) then chk (decide (0≤i)&&decide (i < (↑(ints l).length:Int))) (iT IntKind.i64 ((ints l).getD i.toNat T.dS) fun a=>bif a !=0 then chk (decide (0≤i)&&decide (i < (↑(ints l).length:Int))) (ah.ok (Ex.ret,{tmps:=slots 99 [(4,.t ((ints l).getD i.toNat T.dS))],heap:=[]})) else ah.ok (Ex.norm,ak3 l (IntKind.i64.wrap (i+1)))) else ah.ok (Ex.exit 2,{tmps:=slots 99 [],heap:=[]}):=by kernel_rfl
theorem Zw (N:Nat) (i:Int):aP env N 105 0 8 (aW env 105) (.ret) (⟨slots 99 [(4,.t (i64 i))],[]⟩)=rI i:=by kernel_rfl
theorem Sj (N:Nat):aP env N 105 0 8 (aW env 105) (.exit 2) (⟨slots 99 [],[]⟩)=rI 0:=by kernel_rfl
theorem aru (N:Nat) (x y:Px):ak env (N+1) 104 [x.t,y.t]=W [x.t,y.t] (bif decide (x.a < y.a) then rI (-1) else bif x.a==y.a then bif decide (x.n < y.n) then rI (-1) else bif x.a==y.a&&(x.n==y.n&&true) then rI 0 else rI 1 else bif x.a==y.a&&(x.n==y.n&&true) then rI 0 else rI 1):=by kernel_rfl
theorem arz (N:Nat) (l:List En) (x:Px):ak env (N+1) 108 [.sl 6 (l.map En.t),x.t]=W [.sl 6 (l.map En.t),x.t] (cl N 143 [T.sl 6 (List.map En.t l)] fun x_1=>bC env N 108 3 {tmps:=slots 29 [(3,.ptr 0 0),(4,.ptr 1 0),(6,.t x_1),(7,.t (i64 0))],heap:=[aj.box 25 2 (.t x.t),.box 42 4 (.agg [PV.t (i64 0),.own 2,.t (i64 0),.t (i64 0)]),.row 3 1 []]}):=by kernel_rfl
theorem ad6 (N:Nat) (l:List En) (x:Px) (i:Int):aF env N 108 0 3 (sG8 l x i)=bif decide (i < (↑(List.map En.t l).length:Int)) then bK (List.map En.t l) i fun e=>match T.eX [0,0] (e.ay 0 2 true).cells [i64 x.a,i64 x.n] with|some b=>bif b then bK (List.map En.t l) i fun e=>chk ((e.ay 2 4 true).cells.length==4&& !(e.ay 2 4 true).aY) (ah.ok (Ex.ret,{tmps:=slots 29 [(4,.ptr 0 0),(5,.t (.bool true))],heap:=[aj.box 42 4 (.t (e.ay 2 4 true))]})) else ah.ok (Ex.norm,{tmps:=slots 29 [(3,.ptr 0 0),(4,.ptr 1 0),(6,.t (.sl 6 (List.map En.t l))),(7,.t (i64 (IntKind.i64.wrap (i+1))))],heap:=[aj.box 25 2 (.t x.t),.box 42 4 (.agg [PV.t (i64 0),.own 2,.t (i64 0),.t (i64 0)]),.row 3 1 []]})|none=>ah.stuck else ah.ok (Ex.exit 0,{tmps:=slots 29 [(4,.ptr 0 0)],heap:=[aj.box 42 4 (.agg [PV.t (i64 0),.own 1,.t (i64 0),.t (i64 0)]),.row 3 1 []]}):=by kernel_rfl
theorem Zx (N:Nat) (r:Pa) (b:Bool):aP env N 108 0 3 (aW env 108) (.ret) (⟨slots 29 [(4,.ptr 0 0),(5,.t (.bool b))],[.box 42 4 (.t r.t)]⟩)=ah.ok (T.au [r.t,T.bool b]):=by kernel_rfl
theorem Sl (N:Nat):aP env N 108 0 3 (aW env 108) (.exit 0) (⟨slots 29 [(4,.ptr 0 0)],[.box 42 4 (.agg [.t (i64 0),.own 1,.t (i64 0),.t (i64 0)]),.row 3 1 []]⟩)=ah.ok (T.au [T.agg [i64 0,T.sl 1 [],i64 0,i64 0],T.bool false]):=by kernel_rfl
theorem arV (N:Nat) (l:List En):ak env (N+1) 143 [.sl 6 (l.map En.t)]=W [.sl 6 (l.map En.t)] (iw N 188 [T.sl 6 (List.map En.t l)] fun b=>bif !b then ah.ok (T.sl 6 []) else ah.ok (T.sl 6 (List.map En.t l))):=by kernel_rfl
theorem asr (N:Nat) (l:List En):ak env (N+1) 188 [.sl 6 (l.map En.t)]=W [.sl 6 (l.map En.t)] (bC env N 188 2 (sS8 l 0)):=by kernel_rfl
theorem aei (N:Nat) (l:List En) (i:Int):aF env N 188 0 2 (sS8 l i)=bif decide (i < (↑(List.map En.t l).length:Int)) then bK (List.map En.t l) i fun e=>iw N 145 [e.ay 0 2 true] fun b=>bif !b then ah.ok (Ex.ret,{tmps:=slots 45 [(2,.t (.bool false))],heap:=[]}) else bK (List.map En.t l) i fun e=>iw N 146 [e.ay 2 4 true] fun b=>bif !b then ah.ok (Ex.ret,{tmps:=slots 45 [(2,.t (.bool false))],heap:=[]}) else bif decide (i > 0) then bK (List.map En.t l) (IntKind.i64.wrap (i - 1)) fun e=>bK (List.map En.t l) i fun e_1=>DI N 104 [e.ay 0 2 true,e_1.ay 0 2 true] fun a=>bif decide (a≥0) then ah.ok (Ex.ret,{tmps:=slots 45 [(2,.t (.bool false))],heap:=[]}) else ah.ok (Ex.norm,sS8 l (IntKind.i64.wrap (i+1))) else ah.ok (Ex.norm,sS8 l (IntKind.i64.wrap (i+1))) else ah.ok (Ex.exit 0,{tmps:=slots 45 [],heap:=[]}):=by kernel_rfl
theorem ZJ (N:Nat) (b:Bool):aP env N 188 0 2 (aW env 188) (.ret) (⟨slots 45 [(2,.t (.bool b))],[]⟩)=rB b:=by kernel_rfl
theorem SV (N:Nat):aP env N 188 0 2 (aW env 188) (.exit 0) (⟨slots 45 [],[]⟩)=rB true:=by kernel_rfl
theorem q44 (N:Nat) (c:Cf) (t:List (List En)):ak env (N+1) 44 [c.t,.sl 1 (fP t)]=W [c.t,.sl 1 (fP t)] (bC env N 44 3 {tmps:=slots 87 [(1,.t (.sl 1 (List.map (fun l=>T.sl 6 (List.map En.t l)) t))),(2,.ptr 0 0),(5,.own 1),(6,.t (i64 0))],heap:=[aj.box 56 6 (.t c.t),.row 25 2 []]}):=by kernel_rfl
theorem ajJ (N:Nat) (c:Cf) (t:List (List En)) (l:List Px) (i:Int):aF env N 44 0 3 (sL1 c t l i)=bif decide (i < (↑(List.map Px.t c.w).length:Int)) then bK (List.map Px.t c.w) i fun e=>cl N 77 [T.sl 2 (List.map Px.t l),e] fun x=>ah.ok (Ex.norm,{tmps:=slots 87 [(1,.t (.sl 1 (List.map (fun l=>T.sl 6 (List.map En.t l)) t))),(2,.ptr 0 0),(5,.t x),(6,.t (i64 (IntKind.i64.wrap (i+1))))],heap:=[aj.box 56 6 (.t c.t)]}) else ah.ok (Ex.exit 0,{tmps:=slots 87 [(1,.t (.sl 1 (List.map (fun l=>T.sl 6 (List.map En.t l)) t))),(2,.ptr 0 0),(5,.t (.sl 2 (List.map Px.t l)))],heap:=[aj.box 56 6 (.t c.t)]}):=by kernel_rfl
theorem WO (N:Nat) (c:Cf) (t:List (List En)) (l:List Px):aP env N 44 0 3 (aW env 44) (.exit 0) (⟨slots 87 [(1,.t (.sl 1 (fP t))),(2,.ptr 0 0),(5,.t (.sl 2 (l.map Px.t)))],[.box 56 6 (.t c.t)]⟩)=bC env N 44 7 (sL2 c t l 0):=by kernel_rfl
theorem ajK (N:Nat) (c:Cf) (t:List (List En)) (l:List Px) (i:Int):aF env N 44 0 7 (sL2 c t l i)=bif decide (i < (↑(List.map (fun l=>T.sl 6 (List.map En.t l)) t).length:Int)) then bif decide (i < (↑(List.map Sd.t c.s).length:Int)) then qE env N 44 7 10 (sL3 c t l i 0) else ah.ok (Ex.exit 2,{tmps:=slots 87 [(1,.t (.sl 1 (List.map (fun l=>T.sl 6 (List.map En.t l)) t))),(2,.ptr 0 0),(5,.t (.sl 2 (List.map Px.t l)))],heap:=[aj.box 56 6 (.t c.t)]}) else ah.ok (Ex.exit 2,{tmps:=slots 87 [(1,.t (.sl 1 (List.map (fun l=>T.sl 6 (List.map En.t l)) t))),(2,.ptr 0 0),(5,.t (.sl 2 (List.map Px.t l)))],heap:=[aj.box 56 6 (.t c.t)]}):=by kernel_rfl
theorem Ud (N:Nat) (c:Cf) (t:List (List En)) (l:List Px) (i j:Int):pq env N 44 0 7 10 (sL3 c t l i j)=bK (List.map (fun l=>T.sl 6 (List.map En.t l)) t) i fun e=>iO e fun n=>bif decide (j < n) then bK (List.map (fun l=>T.sl 6 (List.map En.t l)) t) i fun e=>qW 6 e fun xs=>bK xs j fun e=>cl N 77 [T.sl 2 (List.map Px.t l),e.ay 0 2 true] fun x=>ah.ok (Ex.norm,{tmps:=slots 87 [(1,.t (.sl 1 (List.map (fun l=>T.sl 6 (List.map En.t l)) t))),(2,.ptr 0 0),(5,.t x),(7,.t (i64 i)),(8,.t (i64 (IntKind.i64.wrap (j+1))))],heap:=[aj.box 56 6 (.t c.t)]}) else ah.ok (Ex.exit 4,sL2 c t l i):=by kernel_rfl
theorem Nq (N:Nat) (c:Cf) (t:List (List En)) (l:List Px) (i:Int):qF env N 44 0 7 10 (.exit 4) (⟨slots 87 [(1,.t (.sl 1 (fP t))),(2,.ptr 0 0),(5,.t (.sl 2 (l.map Px.t))),(7,.t (i64 i))],[.box 56 6 (.t c.t)]⟩)=ah.ok (Ex.norm,sL2 c t l (IntKind.i64.wrap (i+1))):=by kernel_rfl
theorem WQ (N:Nat) (c:Cf) (t:List (List En)) (l:List Px):aP env N 44 0 7 (aW env 44) (.exit 2) (⟨slots 87 [(1,.t (.sl 1 (fP t))),(2,.ptr 0 0),(5,.t (.sl 2 (l.map Px.t)))],[.box 56 6 (.t c.t)]⟩)=bC env N 44 15 {tmps:=slots 87 [(1,.t (.sl 1 (List.map (fun l=>T.sl 6 (List.map En.t l)) t))),(2,.ptr 0 0),(5,.t (.sl 2 (List.map Px.t l))),(9,.own 1),(10,.t (i64 0))],heap:=[aj.box 56 6 (.t c.t),.row 46 8 []]}:=by kernel_rfl
theorem aep (N:Nat) (c:Cf) (t:List (List En)) (l:List Px) (r:List Ch) (i:Int):aF env N 44 0 15 (sL4 c t l r i)=bif decide (i < (↑(List.map Px.t l).length:Int)) then bK (List.map Px.t l) i fun e=>cl N 79 [c.t,T.sl 1 (List.map (fun l=>T.sl 6 (List.map En.t l)) t),e] fun x=>cl N 78 [x] fun x=>aG x 0 fun y=>aG x 1 fun y_1=>chk (y.cells.length==6&& !y.aY) (bT y_1 fun v=>bif v then bK (List.map Px.t l) i fun e=>chk (e.cells.length==2&& !e.aY) (chk (y.cells.length==6&& !y.aY) (bW (T.mF 8) [T.agg [e.cell 0,e.cell 1,y.cell 0,y.cell 1,y.cell 2,y.cell 3,y.cell 4,y.cell 5]] (chk (decide (((List.map Ch.t r).length+1)*80≤140737488355328)) (ah.ok (Ex.norm,{tmps:=slots 87 [(1,.t (.sl 1 (List.map (fun l=>T.sl 6 (List.map En.t l)) t))),(2,.ptr 0 0),(5,.t (.sl 2 (List.map Px.t l))),(9,.own 1),(10,.t (i64 (IntKind.i64.wrap (i+1))))],heap:=[aj.box 56 6 (.t c.t),.row 46 8 (List.map Ch.t r++ [T.agg [e.cell 0,e.cell 1,y.cell 0,y.cell 1,y.cell 2,y.cell 3,y.cell 4,y.cell 5]])]}))))) else ah.ok (Ex.norm,sL4 c t l r (IntKind.i64.wrap (i+1)))) else ah.ok (Ex.exit 6,{tmps:=slots 87 [(9,.own 0)],heap:=[aj.row 46 8 (List.map Ch.t r)]}):=by kernel_rfl
theorem Fz (N:Nat) (r:List Ch):aP env N 44 0 15 (aW env 44) (.exit 6) (⟨slots 87 [(9,.own 0)],[.row 46 8 (r.map Ch.t)]⟩)=ah.ok (T.sl 8 (List.map Ch.t r)):=by kernel_rfl
def YB (l:List Px) (x:Px) (i:Int):St:=⟨slots 19 [(0,.t (.sl 2 (l.map Px.t))),(3,.ptr 0 0),(7,.t (i64 (l.map Px.t).length)),(8,.t (i64 i))],[.box 25 2 (.t x.t)]⟩
theorem arP (N:Nat) (l:List Px) (x:Px):ak env (N+1) 134 [.sl 2 (l.map Px.t),x.t]=W [.sl 2 (l.map Px.t),x.t] (DI N 167 [T.sl 2 (List.map Px.t l),x.t] fun a=>rB (decide (a≥0))):=by kernel_rfl
theorem asi (N:Nat) (l:List Px) (x:Px):ak env (N+1) 167 [.sl 2 (l.map Px.t),x.t]=W [.sl 2 (l.map Px.t),x.t] (bC env N 167 2 (YB l x 0)):=by kernel_rfl
theorem aeg (N:Nat) (l:List Px) (x:Px) (i:Int):aF env N 167 0 2 (YB l x i)=bif decide (i < (↑(List.map Px.t l).length:Int)) then bK (List.map Px.t l) i fun e=>match T.eX [0,0] [i64 x.a,i64 x.n] e.cells with|some b=>bif b then ah.ok (Ex.ret,{tmps:=slots 19 [(4,.t (i64 i))],heap:=[]}) else ah.ok (Ex.norm,YB l x (IntKind.i64.wrap (i+1)))|none=>ah.stuck else ah.ok (Ex.exit 0,{tmps:=slots 19 [],heap:=[]}):=by kernel_rfl
theorem ZH (N:Nat) (i:Int):aP env N 167 0 2 (aW env 167) (.ret) (⟨slots 19 [(4,.t (i64 i))],[]⟩)=rI i:=by kernel_rfl
theorem SQ (N:Nat):aP env N 167 0 2 (aW env 167) (.exit 0) (⟨slots 19 [],[]⟩)=rI (-1):=by kernel_rfl
def aos (c:Cf) (t:List (List En)) (i:Int):St:=⟨slots 87 [(1,.t (.sl 1 (fP t))),(2,.ptr 0 0),(5,.own 1),(6,.t (i64 i))],[.box 56 6 (.t c.t),.row 25 2 []]⟩
def acz (c:Cf) (t:List (List En)) (i:Int):St:=⟨slots 87 [(1,.t (.sl 1 (fP t))),(2,.ptr 0 0),(5,.own 1),(7,.t (i64 i))],[.box 56 6 (.t c.t),.row 25 2 []]⟩
def ak5 (c:Cf) (t:List (List En)) (i j:Int):St:=⟨slots 87 [(1,.t (.sl 1 (fP t))),(2,.ptr 0 0),(5,.own 1),(7,.t (i64 i)),(8,.t (i64 j))],[.box 56 6 (.t c.t),.row 25 2 []]⟩
def ag4 (c:Cf) (t:List (List En)) (i:Int):St:=⟨slots 87 [(1,.t (.sl 1 (fP t))),(2,.ptr 0 0),(5,.own 1),(9,.own 2),(10,.t (i64 i))],[.box 56 6 (.t c.t),.row 25 2 [],.row 46 8 []]⟩
theorem aeu (N:Nat) (c:Cf) (t:List (List En)) (i:Int):aF env N 44 0 3 (aos c t i)=bif decide (i < (↑(List.map Px.t c.w).length:Int)) then bK (List.map Px.t c.w) i fun e=>cl N 77 [T.sl 2 [],e] fun x=>ah.ok (Ex.norm,{tmps:=slots 87 [(1,.t (.sl 1 (List.map (fun l=>T.sl 6 (List.map En.t l)) t))),(2,.ptr 0 0),(5,.t x),(6,.t (i64 (IntKind.i64.wrap (i+1))))],heap:=[aj.box 56 6 (.t c.t)]}) else ah.ok (Ex.exit 0,{tmps:=slots 87 [(1,.t (.sl 1 (List.map (fun l=>T.sl 6 (List.map En.t l)) t))),(2,.ptr 0 0),(5,.own 1)],heap:=[aj.box 56 6 (.t c.t),.row 25 2 []]}):=by kernel_rfl
theorem Tt (N:Nat) (c:Cf) (t:List (List En)):aP env N 44 0 3 (aW env 44) (.exit 0) (⟨slots 87 [(1,.t (.sl 1 (fP t))),(2,.ptr 0 0),(5,.own 1)],[.box 56 6 (.t c.t),.row 25 2 []]⟩)=bC env N 44 7 (acz c t 0):=by kernel_rfl
theorem aev (N:Nat) (c:Cf) (t:List (List En)) (i:Int):aF env N 44 0 7 (acz c t i)=bif decide (i < (↑(List.map (fun l=>T.sl 6 (List.map En.t l)) t).length:Int)) then bif decide (i < (↑(List.map Sd.t c.s).length:Int)) then qE env N 44 7 10 (ak5 c t i 0) else ah.ok (Ex.exit 2,{tmps:=slots 87 [(1,.t (.sl 1 (List.map (fun l=>T.sl 6 (List.map En.t l)) t))),(2,.ptr 0 0),(5,.own 1)],heap:=[aj.box 56 6 (.t c.t),.row 25 2 []]}) else ah.ok (Ex.exit 2,{tmps:=slots 87 [(1,.t (.sl 1 (List.map (fun l=>T.sl 6 (List.map En.t l)) t))),(2,.ptr 0 0),(5,.own 1)],heap:=[aj.box 56 6 (.t c.t),.row 25 2 []]}):=by kernel_rfl
theorem Om (N:Nat) (c:Cf) (t:List (List En)) (i j:Int):pq env N 44 0 7 10 (ak5 c t i j)=bK (List.map (fun l=>T.sl 6 (List.map En.t l)) t) i fun e=>iO e fun n=>bif decide (j < n) then bK (List.map (fun l=>T.sl 6 (List.map En.t l)) t) i fun e=>qW 6 e fun xs=>bK xs j fun e=>cl N 77 [T.sl 2 [],e.ay 0 2 true] fun x=>ah.ok (Ex.norm,{tmps:=slots 87 [(1,.t (.sl 1 (List.map (fun l=>T.sl 6 (List.map En.t l)) t))),(2,.ptr 0 0),(5,.t x),(7,.t (i64 i)),(8,.t (i64 (IntKind.i64.wrap (j+1))))],heap:=[aj.box 56 6 (.t c.t)]}) else ah.ok (Ex.exit 4,acz c t i):=by kernel_rfl
theorem JD (N:Nat) (c:Cf) (t:List (List En)) (i:Int):qF env N 44 0 7 10 (.exit 4) (⟨slots 87 [(1,.t (.sl 1 (fP t))),(2,.ptr 0 0),(5,.own 1),(7,.t (i64 i))],[.box 56 6 (.t c.t),.row 25 2 []]⟩)=ah.ok (Ex.norm,acz c t (IntKind.i64.wrap (i+1))):=by kernel_rfl
theorem Tv (N:Nat) (c:Cf) (t:List (List En)):aP env N 44 0 7 (aW env 44) (.exit 2) (⟨slots 87 [(1,.t (.sl 1 (fP t))),(2,.ptr 0 0),(5,.own 1)],[.box 56 6 (.t c.t),.row 25 2 []]⟩)=bC env N 44 15 (ag4 c t 0):=by kernel_rfl
theorem ahB (N:Nat) (c:Cf) (t:List (List En)) (i:Int):aF env N 44 0 15 (ag4 c t i)=bif decide (i < 0) then chk (decide (0≤i)&&decide (i < 0)) (cl N 79 [c.t,T.sl 1 (List.map (fun l=>T.sl 6 (List.map En.t l)) t),T.dS] fun x=>cl N 78 [x] fun x=>aG x 0 fun y=>aG x 1 fun y_1=>chk (y.cells.length==6&& !y.aY) (bT y_1 fun v=>bif v then chk (decide (0≤i)&&decide (i < 0)) ah.stuck else ah.ok (Ex.norm,ag4 c t (IntKind.i64.wrap (i+1))))) else ah.ok (Ex.exit 6,{tmps:=slots 87 [(9,.own 0)],heap:=[aj.row 46 8 []]}):=by kernel_rfl
end
section
open Go.RowKit Go.Proofs
variable [Lv]
theorem J9 {N:Nat} {F:FuncId} {r id:Nat} {S R:Nat→St} {X:St} (p:Nat→Bool) {k:Nat} (hN:k < N) (hb:∀ j,j < k→aF env N F 0 r (S j)=bif p j then .ok (.ret,R j) else .ok (.norm,S (j+1)))
 (he:aF env N F 0 r (S k)= .ok (.exit id,X)):bC env N F r (S 0)=match dF p 0 k with|some j=>aP env N F 0 r (aW env F) .ret (R j)|none=>aP env N F 0 r (aW env F) (.exit id) X:=by
 have h:=fB (B:=aF env N F 0 r) (S:=S) (R:=R) (X:=X) (id:=id) p k 0 N hN (fun j _ hj hp=>by rw[hb j (by omega),hp]; rfl) (fun j _ hj hp=>by rw[hb j (by omega),hp]; rfl) (by rw[Nat.zero_add]; exact he)
 cases hs:dF p 0 k with
 |some j=>rw[hs] at h; exact aQ h
 |none=>rw[hs] at h; exact aQ h
theorem DF {N:Nat} {F:FuncId} {r id:Nat} {S:Nat→St} {R X:St} {α:Type} (q:α→Bool) (l:List α) {a b:ah T} (hN:l.length < N) (hb:∀ j x,l[j]? =some x→aF env N F 0 r (S j)=bif q x then .ok (.ret,R) else .ok (.norm,S (j+1)))
 (he:aF env N F 0 r (S l.length)= .ok (.exit id,X)) (ha:aP env N F 0 r (aW env F) .ret R=a) (hx:aP env N F 0 r (aW env F) (.exit id) X=b):bC env N F r (S 0)=bif l.any q then a else b:=by
 have h:=vH (B:=aF env N F 0 r) (S:=S) (R:=R) (X:=X) (id:=id) q l hN hb he
 cases hs:l.any q with
 |true=>rw[hs] at h; exact(aQ h).trans ha
 |false=>rw[hs] at h; exact(aQ h).trans hx
theorem oV {N:Nat} {F:FuncId} {r id:Nat} {α β:Type} {S:β→Nat→St} {X:β→St} (I:β→Nat→Prop) (f:β→α→β) (l:List α) (b:β) (hN:l.length < N)
 (h:∀ b j x,l[j]? =some x→I b j→aF env N F 0 r (S b j)= .ok (.norm,S (f b x) (j+1))∧I (f b x) (j+1)) (hx:∀ b,I b l.length→aF env N F 0 r (S b l.length)= .ok (.exit id,X b)) (hb:I b 0):
 bC env N F r (S b 0)=aP env N F 0 r (aW env F) (.exit id) (X (l.foldl f b))∧I (l.foldl f b) l.length:=by
 obtain⟨h1,h2⟩:=lT (B:=aF env N F 0 r) (S:=S) (X:=X) (id:=id) I f l b hN h hx hb
 exact⟨aQ h1,h2⟩
def Nv {α β:Type} (q:α→β→Bool) (l:List α) (m:List β):Bool:= !((l.zip m).any fun p=> !q p.1 p.2)
theorem XW {α β:Type} {l:List α} {m:List β} {j:Nat} {p:α×β} (h:(l.zip m)[j]? =some p):l[j]? =some p.1∧m[j]? =some p.2:=by
 rw[List.getElem?_zip_eq_some] at h; exact h
theorem zZ {N:Nat} {F:FuncId} {r id:Nat} {S:Nat→St} {R X:St} {α β:Type} (q:α→β→Bool) {l:List α} {m:List β} (hN:l.length < N) (hlm:l.length=m.length)
 (hb:∀ j x y,l[j]? =some x→m[j]? =some y→aF env N F 0 r (S j)=bif !q x y then .ok (.ret,R) else .ok (.norm,S (j+1)))
 (he:aF env N F 0 r (S l.length)= .ok (.exit id,X)) (ha:aP env N F 0 r (aW env F) .ret R=rB false) (hx:aP env N F 0 r (aW env F) (.exit id) X=rB true):bC env N F r (S 0)=rB (Nv q l m):=by
 have hz:(l.zip m).length=l.length:=by rw[List.length_zip]; omega
 rw[DF (fun p:α×β=> !q p.1 p.2) (l.zip m) (by rw[hz]; exact hN) (fun j p hp=>hb j p.1 p.2 (XW hp).1 (XW hp).2) (by rw[hz]; exact he) ha hx]
 unfold Nv
 cases (l.zip m).any fun p=> !q p.1 p.2<;>rfl
theorem PN {α:Type} {q:α→α→Bool} (hq:∀ a b,q a b=true↔a=b):∀ {l m:List α},l.length=m.length→(Nv q l m=true↔l=m)
 | [],[],_=>by simp[Nv]
 | [],_::_,h=>by simp at h
 |_::_,[],h=>by simp at h
 |a::l,b::m,h=>by
  have ih:=PN hq (l:=l) (m:=m) (by simpa using h)
  unfold Nv at*
  rw[List.zip_cons_cons,List.any_cons,Bool.not_or,Bool.not_not,Bool.and_eq_true,ih,hq]
  simp
theorem Ac {α:Type} {q:α→α→Bool} [DecidableEq α] (hq:∀ a b,q a b=true↔a=b) (l m:List α):(if l.length=m.length then Nv q l m else false)=decide (l=m):=by
 by_cases h:l.length=m.length
 · rw[if_pos h,Bool.eq_iff_iff,PN hq h,decide_eq_true_eq]
 · rw[if_neg h,decide_eq_false (fun e=>h (by rw[e]))]
theorem afn {α:Type} {q:α→Bool} {l:List α} {j:Nat} {y:α} (h:l.findIdx? q=some j) (hy:l[j]? =some y):l.find? q=some y:=by
 induction l generalizing j with
 |nil=>simp at h
 |cons a l ih=>
  rw[List.findIdx?_cons] at h
  rw[List.find?_cons]
  cases hq:q a with
  |true=>rw[hq] at h; simp at h; subst h; simpa using hy
  |false=>
   rw[hq] at h
   simp only[Bool.false_eq_true,if_false,Option.map_eq_some_iff] at h
   obtain⟨k,h1,rfl⟩:=h
   exact ih h1 (by simpa using hy)
theorem abt {α:Type} {q:α→Bool} {l:List α} (h:l.findIdx? q=none):l.find? q=none:=by
 rw[List.findIdx?_eq_none_iff] at h
 rw[List.find?_eq_none]
 intro x hx; rw[h x hx]; simp
end
section
open Go.RowKit Go.Proofs
variable [Lv]
theorem as3 (N:Nat) (xs:List T) (f:T):ak env (N+1) 229 [.sl 6 xs,f]=bif T.wfs [.sl 6 xs,f] then(bC env N 229 2
 {
  tmps:=
   slots 19
    [(0,PV.t (T.sl 6 xs)),(1,PV.t f),(7,PV.t (i64 (↑(List.length xs):Int))),
     (8,PV.t (i64 (0)))],
  heap:=[]}) else .absurd:=by kernel_rfl
theorem asL (N:Nat) (xs:List T) (f:T):ak env (N+1) 212 [.sl 6 xs,f]=bif T.wfs [.sl 6 xs,f] then(ah.bind (ak env N 229 [T.sl 6 xs,f]) fun x=>iT IntKind.i64 x fun a=>ah.ok (T.bool (decide (a≥0)))) else .absurd:=by kernel_rfl
theorem asK (N:Nat) (a n o h c:Int) (s:List T):ak env (N+1) 211 [.agg [i64 a,i64 n,i64 o,.sl 1 s,i64 h,i64 c]]=bif T.wfs [.agg [i64 a,i64 n,i64 o,.sl 1 s,i64 h,i64 c]] then(ah.bind
 (ak env N 70
  [T.agg
   (List.take 2
    (List.drop 0
     [i64 a,i64 n,i64 o,T.sl 1 s,i64 h,
      i64 c]))])
 fun x=>
 bT x fun b=>
  bif
   (!(b)) then
   ah.ok (T.bool true)
  else
   ah.bind
    (ak env N 150
     [T.agg
      (List.take 4
       (List.drop 2
        [i64 a,i64 n,i64 o,T.sl 1 s,i64 h,
         i64 c]))])
    fun x=>
    bT x fun b=>
     ah.ok
      (T.bool
       ((!(b))))) else .absurd:=by kernel_rfl
theorem asM (N:Nat) (xs:List T) (f:T):ak env (N+1) 213 [.sl 6 xs,f]=bif T.wfs [.sl 6 xs,f] then(bC env N 213 2 {tmps:=slots 24 [(0,PV.t (T.sl 6 xs)),(1,PV.t f),(5,PV.t (i64 (1)))],heap:=[]}) else .absurd:=by kernel_rfl
theorem asN (N:Nat) (a n o h c a' n' o' h' c':Int) (s s':List T):ak env (N+1) 214 [.agg [i64 a,i64 n,i64 o,.sl 1 s,i64 h,i64 c],.agg [i64 a',i64 n',i64 o',.sl 1 s',i64 h',i64 c']]=bif T.wfs [.agg [i64 a,i64 n,i64 o,.sl 1 s,i64 h,i64 c],.agg [i64 a',i64 n',i64 o',.sl 1 s',i64 h',i64 c']] then(ah.bind
 (ak env N 80
  [T.agg
   (List.take 2
    (List.drop 0
     [i64 a,i64 n,i64 o,T.sl 1 s,i64 h,
      i64 c])),
   T.agg
    (List.take 2
     (List.drop 0
      [i64 a',i64 n',i64 o',T.sl 1 s',i64 h',
       i64 c']))])
 fun x=>ah.ok x) else .absurd:=by kernel_rfl
theorem asA (N:Nat) (xs:List T):ak env (N+1) 196 [.sl 6 xs]=bif T.wfs [.sl 6 xs] then(ah.bind (ak env N 212 [T.sl 6 xs,T.fn 211 [] []]) fun x=>
 bT x fun b=>
  bif
   (!(b)) then
   ah.bind (ak env N 213 [T.sl 6 xs,T.fn 214 [] []]) fun x=>ah.ok x
  else ah.ok (T.bool false)) else .absurd:=by kernel_rfl
theorem asj (N:Nat) (xs:List T):ak env (N+1) 168 [.sl 6 xs]=bif T.wfs [.sl 6 xs] then(ah.bind (ak env N 196 [T.sl 6 xs]) fun x=>bT x fun v=>bif v then ah.ok (T.sl 6 xs) else ah.ok (T.sl 6 [])) else .absurd:=by kernel_rfl
theorem q80 (N:Nat) (a n a' n':Int):ak env (N+1) 80 [.agg [i64 a,i64 n],.agg [i64 a',i64 n']]=bif T.wfs [.agg [i64 a,i64 n],.agg [i64 a',i64 n']] then(ah.bind (ak env N 96 [i64 a,i64 a']) fun x=>
 ah.bind (ak env N 96 [i64 n,i64 n']) fun x_1=>
  bW (T.mF 1) [x,x_1] (ah.bind (ak env N 110 [T.sl 1 [x,x_1]]) fun x=>chk (T.plain x) (ah.ok x))) else .absurd:=by kernel_rfl
theorem arB (N:Nat) (xs:List T):ak env (N+1) 110 [.sl 1 xs]=bif T.wfs [.sl 1 xs] then(bC env N 110 3
 {
  tmps:=
   slots 18
    [(3,PV.t (i64 (0))),(6,PV.t (T.sl 1 xs)),
     (7,PV.t (i64 (↑(List.length xs):Int))),(8,PV.t (i64 (0)))],
  heap:=[]}) else .absurd:=by kernel_rfl
theorem asB (N:Nat) (xs:List T) (a n:Int) (f:T):ak env (N+1) 197 [.sl 6 xs,.agg [i64 a,i64 n],f]=bif T.wfs [.sl 6 xs,.agg [i64 a,i64 n],f] then(bC env N 197 3
 {
  tmps:=
   slots 49
    [(0,PV.t (T.sl 6 xs)),(2,PV.t f),(4,PV.ptr 0 0),(8,PV.t (i64 (↑(List.length xs):Int))),
     (9,PV.t (i64 (0))),(10,PV.t (i64 (↑(List.length xs):Int)))],
  heap:=[aj.box 25 2 (PV.t (T.agg [i64 a,i64 n]))]}) else .absurd:=by kernel_rfl
theorem asC (N:Nat) (a n o h c:Int) (s:List T) (a' n':Int):ak env (N+1) 198 [.agg [i64 a,i64 n,i64 o,.sl 1 s,i64 h,i64 c],.agg [i64 a',i64 n']]=bif T.wfs [.agg [i64 a,i64 n,i64 o,.sl 1 s,i64 h,i64 c],.agg [i64 a',i64 n']] then(ah.bind
 (ak env N 80
  [T.agg
   (List.take 2
    (List.drop 0
     [i64 a,i64 n,i64 o,T.sl 1 s,i64 h,
      i64 c])),
   T.agg [i64 a',i64 n']])
 fun x=>ah.ok x) else .absurd:=by kernel_rfl
theorem asl (N:Nat) (xs:List T) (a n:Int):ak env (N+1) 169 [.sl 6 xs,.agg [i64 a,i64 n]]=bif T.wfs [.sl 6 xs,.agg [i64 a,i64 n]] then(ah.bind (ak env N 197 [T.sl 6 xs,T.agg [i64 a,i64 n],T.fn 198 [] []]) fun x=>
 aG x 0 fun y=>aG x 1 fun y_1=>ah.ok (T.au [y,y_1])) else .absurd:=by kernel_rfl
theorem arQ (N:Nat) (xs:List T) (a n:Int):ak env (N+1) 135 [.sl 6 xs,.agg [i64 a,i64 n]]=bif T.wfs [.sl 6 xs,.agg [i64 a,i64 n]] then(ah.bind (ak env N 168 [T.sl 6 xs]) fun x=>
 ah.bind (ak env N 169 [x,T.agg [i64 a,i64 n]]) fun x_1=>
  aG x_1 0 fun y=>
   aG x_1 1 fun y_1=>
    bT y_1 fun b=>
     bif
      (!(b)) then
      ah.ok
       (T.au
        [T.agg
         [i64 (0),T.sl 1 [],i64 (0),
          i64 (0)],
         T.bool false])
     else
      o9 y fun i=>
       qW 6 x fun xs=>
        bK xs i fun e=>
         chk
          (match List.length (T.cells (T.ay e 2 4 true))==4 with
          |false=>false
          |true=>true)
          (ah.ok (T.au [T.ay e 2 4 true,T.bool true]))) else .absurd:=by kernel_rfl
theorem aeo (N:Nat) (xs:List T) (f:T) (i:Nat):aF env N 229 0 2 ⟨slots 19 [(0,.t (.sl 6 xs)),(1,.t f),(7,.t (i64 (xs.length:Int))),(8,.t (i64 (i:Int)))],[]⟩=bif decide ((↑i:Int) < (↑(List.length xs):Int)) then
 bK xs (↑i:Int) fun e=>
  oJ env (aJ env N) f [e] fun r=>
   bT r fun v=>
    bif v then ah.ok (Ex.ret,{tmps:=slots 19 [(4,PV.t (i64 (↑i:Int)))],heap:=[]})
    else
     ah.ok
      (Ex.norm,
       {
        tmps:=
         slots 19
          [(0,PV.t (T.sl 6 xs)),(1,PV.t f),(7,PV.t (i64 (↑(List.length xs):Int))),
           (8,PV.t (i64 (IntKind.wrap IntKind.i64 ((↑i:Int)+1))))],
        heap:=[]})
else ah.ok (Ex.exit 0,{tmps:=slots 19 [],heap:=[]}):=by kernel_rfl
theorem Ti (N:Nat):aP env N 229 0 2 (aW env 229) (.exit 0) ⟨slots 19 [],[]⟩=ah.ok (i64 (-1)):=by kernel_rfl
theorem ZO (N:Nat) (k:Int):aP env N 229 0 2 (aW env 229) (.ret) ⟨slots 19 [(4,.t (i64 k))],[]⟩=ah.ok (i64 k):=by kernel_rfl
theorem aen (N:Nat) (xs:List T) (f:T) (i:Nat):aF env N 213 0 2 ⟨slots 24 [(0,.t (.sl 6 xs)),(1,.t f),(5,.t (i64 (i:Int)))],[]⟩=bif decide ((↑i:Int) < (↑(List.length xs):Int)) then
 bK xs (IntKind.wrap IntKind.i64 ((↑i:Int) - 1)) fun e=>
  bK xs (↑i:Int) fun e_1=>
   oJ env (aJ env N) f [e,e_1] fun r=>
    iT IntKind.i64 r fun a=>
     bif decide (a≥0) then ah.ok (Ex.ret,{tmps:=slots 24 [(4,PV.t (T.bool false))],heap:=[]})
     else
      ah.ok
       (Ex.norm,
        {
         tmps:=
          slots 24
           [(0,PV.t (T.sl 6 xs)),(1,PV.t f),
            (5,PV.t (i64 (IntKind.wrap IntKind.i64 ((↑i:Int)+1))))],
         heap:=[]})
else ah.ok (Ex.exit 0,{tmps:=slots 24 [],heap:=[]}):=by kernel_rfl
theorem Tf (N:Nat):aP env N 213 0 2 (aW env 213) (.exit 0) ⟨slots 24 [],[]⟩=ah.ok (T.bool true):=by kernel_rfl
theorem ZN (N:Nat) (b:Bool):aP env N 213 0 2 (aW env 213) (.ret) ⟨slots 24 [(4,.t (.bool b))],[]⟩=ah.ok (T.bool b):=by kernel_rfl
theorem ad7 (N:Nat) (xs:List T) (i:Nat):aF env N 110 0 3 ⟨slots 18 [(3,.t (i64 0)),(6,.t (.sl 1 xs)),(7,.t (i64 (xs.length:Int))),(8,.t (i64 (i:Int)))],[]⟩=bif decide ((↑i:Int) < (↑(List.length xs):Int)) then
 bK xs (↑i:Int) fun e=>
  iT IntKind.i64 e fun a=>
   bif a !=0 then ah.ok (Ex.ret,{tmps:=slots 18 [(2,PV.t e)],heap:=[]})
   else
    ah.ok
     (Ex.norm,
      {
       tmps:=
        slots 18
         [(3,PV.t (i64 (0))),(6,PV.t (T.sl 1 xs)),
          (7,PV.t (i64 (↑(List.length xs):Int))),
          (8,PV.t (i64 (IntKind.wrap IntKind.i64 ((↑i:Int)+1))))],
       heap:=[]})
else ah.ok (Ex.exit 0,{tmps:=slots 18 [(3,PV.t (i64 (0)))],heap:=[]}):=by kernel_rfl
theorem Sm (N:Nat) (k:Int):aP env N 110 0 3 (aW env 110) (.exit 0) ⟨slots 18 [(3,.t (i64 k))],[]⟩=ah.ok (i64 k):=by kernel_rfl
theorem Zy (N:Nat) (k:Int):aP env N 110 0 3 (aW env 110) (.ret) ⟨slots 18 [(2,.t (i64 k))],[]⟩=ah.ok (i64 k):=by kernel_rfl
theorem aej (N:Nat) (xs:List T) (a n:Int) (f:T) (i j:Nat):aF env N 197 0 3 ⟨slots 49 [(0,.t (.sl 6 xs)),(2,.t f),(4,.ptr 0 0),(8,.t (i64 (xs.length:Int))),(9,.t (i64 (i:Int))),(10,.t (i64 (j:Int)))],[.box 25 2 (.t (.agg [i64 a,i64 n]))]⟩=bif decide ((↑i:Int) < (↑j:Int)) then
 bK xs
  (IntKind.wrap IntKind.i64
   (Int.fdiv (IntKind.wrap IntKind.u64 (IntKind.wrap IntKind.i64 ((↑i:Int)+(↑j:Int)))) (2)))
  fun e=>
  oJ env (aJ env N) f [e,T.agg [i64 a,i64 n]] fun r=>
   iT IntKind.i64 r fun a_1=>
    bif decide (a_1 < 0) then
     ah.ok
      (Ex.norm,
       {
        tmps:=
         slots 49
          [(0,PV.t (T.sl 6 xs)),(2,PV.t f),(4,PV.ptr 0 0),
           (8,PV.t (i64 (↑(List.length xs):Int))),
           (9,
            PV.t
             (i64
              (IntKind.wrap IntKind.i64
               (IntKind.wrap IntKind.i64
                (Int.fdiv
                 (IntKind.wrap IntKind.u64 (IntKind.wrap IntKind.i64 ((↑i:Int)+(↑j:Int))))
                 (2))+
                1)))),
           (10,PV.t (i64 (↑j:Int)))],
        heap:=[aj.box 25 2 (PV.t (T.agg [i64 a,i64 n]))]})
    else
     ah.ok
      (Ex.norm,
       {
        tmps:=
         slots 49
          [(0,PV.t (T.sl 6 xs)),(2,PV.t f),(4,PV.ptr 0 0),
           (8,PV.t (i64 (↑(List.length xs):Int))),(9,PV.t (i64 (↑i:Int))),
           (10,
            PV.t
             (i64
              (IntKind.wrap IntKind.i64
               (Int.fdiv (IntKind.wrap IntKind.u64 (IntKind.wrap IntKind.i64 ((↑i:Int)+(↑j:Int))))
                (2)))))],
        heap:=[aj.box 25 2 (PV.t (T.agg [i64 a,i64 n]))]})
else
 ah.ok
  (Ex.exit 0,
   {
    tmps:=
     slots 49
      [(0,PV.t (T.sl 6 xs)),(2,PV.t f),(4,PV.ptr 0 0),
       (8,PV.t (i64 (↑(List.length xs):Int))),(9,PV.t (i64 (↑i:Int)))],
    heap:=[aj.box 25 2 (PV.t (T.agg [i64 a,i64 n]))]}):=by kernel_rfl
theorem SX (N:Nat) (xs:List T) (a n:Int) (f:T) (i:Nat):aP env N 197 0 3 (aW env 197) (.exit 0) ⟨slots 49 [(0,.t (.sl 6 xs)),(2,.t f),(4,.ptr 0 0),(8,.t (i64 (xs.length:Int))),(9,.t (i64 (i:Int)))],[.box 25 2 (.t (.agg [i64 a,i64 n]))]⟩=bif decide ((↑i:Int) < (↑(List.length xs):Int)) then
 bK xs (↑i:Int) fun e=>
  oJ env (aJ env N) f [e,T.agg [i64 a,i64 n]] fun r=>
   iT IntKind.i64 r fun a=>ah.ok (T.au [i64 (↑i:Int),T.bool (a==0)])
else ah.ok (T.au [i64 (↑i:Int),T.bool false]):=by kernel_rfl
end
end Go.aT
