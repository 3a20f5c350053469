/- The texts of a proof, one behind the other: an interpreter and its soundness, what the functions of the program answer, and plain laws on that. -/
import Derived.Test.YtjlpnhpfbgbkhaaGreatX1
import Derived.Test.YtjlpnhpfbgbkhaaGreatK9
set_option linter.unusedVariables false
set_option linter.unusedSimpArgs false
set_option linter.unnecessarySimpa false
set_option linter.unusedSectionVars false
set_option maxRecDepth 100000
namespace Go.aP
section
open Go.RowKit Go.Proofs
variable [Lv]
theorem q89 (N:Nat) (n:Int):ak env (N+1) 89 [i64 n]=W [i64 n] (bif decide (n > 0) then rB (decide (n≤4294967295)) else rB false):=by kernel_rfl
theorem q90 (N:Nat) (n:Int):ak env (N+1) 90 [i64 n]=W [i64 n] (bif n==0 then rB true else bif decide (n≥3) then rB (decide (n≤65535)) else rB false):=by kernel_rfl
theorem aqT (N:Nat) (l:List Ru) (b:Bool):ak env (N+1) 126 [.sl 6 (l.map Ru.t),.bool b]=W [.sl 6 (l.map Ru.t),.bool b] (bif decide ((↑(List.map Ru.t l).length:Int)≤8) then iO N 129 [T.sl 6 (List.map Ru.t l),T.fn 160 [] [(T.bool b).ref]] fun b=>rB !b else rB false):=by kernel_rfl
theorem aro (N:Nat) (r:Ru) (b:Bool):ak env (N+1) 160 [r.t,.ref (.bool b)]=W [r.t,.ref (.bool b)] (iO N 161 [r.t,T.bool b] fun b=>rB !b):=by kernel_rfl
theorem q91 (N:Nat) (s:Sd):ak env (N+1) 91 [s.t]=W [s.t] (iO N 89 [i64 s.a] fun b=>bif b then bif decide (s.r≥1) then bif decide (s.r≤3) then iO N 126 [T.sl 6 (List.map Ru.t s.i),T.bool true] fun b=>bif b then cl N 126 [T.sl 6 (List.map Ru.t s.o),T.bool false] fun x=>aj.ok x else rB false else rB false else rB false else rB false):=by kernel_rfl
def Di (c:Cf) (es:List (T×T×Nat)) (k:Nat) (i:Int):St:=⟨slots 98 [(1,.ptr 0 0),(3,.mp 1),(49,.t (.sl 2 (c.w.map Px.t))),(50,.t (i64 (c.w.map Px.t).length)),(51,.t (i64 i))],[.box 56 6 (.t c.t),.map es k]⟩
def uF (c:Cf) (es:List (T×T×Nat)) (k:Nat) (i:Int):St:=⟨slots 98 [(6,.mp 0),(76,.t (.sl 4 (c.s.map Sd.t))),(77,.t (i64 (c.s.map Sd.t).length)),(78,.t (i64 i))],[.map es k]⟩
theorem q52 (N:Nat) (c:Cf):ak env (N+1) 52 [c.t]=W [c.t] (iO N 89 [i64 c.a] fun b=>bif !b then rB false else iO N 89 [i64 c.d] fun b=>bif !b then rB false else iO N 90 [i64 c.h] fun b=>bif !b then rB false else bif decide (c.k < 1) then rB false else bif decide (c.k > 1000) then rB false else bif decide ((↑(List.map Px.t c.w).length:Int) > 8) then rB false else bif decide ((↑(List.map Sd.t c.s).length:Int) > 8) then rB false else bC env N 52 5 (Di c [] 0 0)):=by kernel_rfl
theorem aju (N:Nat) (c:Cf) (es:List (T×T×Nat)) (k:Nat) (i:Int):aH env N 52 0 5 (Di c es k i)=bif decide (i < (↑(List.map Px.t c.w).length:Int)) then bV (List.map Px.t c.w) i fun e=>chk (e.cells.length==2&& !e.aV) (chk (jv [0,0] e) (eY [0,0] e es (chk (jv [0,0] e) (eY [0,0] e es (chk (decide (k≤140737488355328)) (aO (iP (es++ [(e,i64 0,k)]) (↑k:Int)) fun jO=>match (es++ [(e,i64 0,k)])[jO]? with|some (Oc,fst,b)=>chk (jv [0,0] e) (eY [0,0] e ((es++ [(e,i64 0,k)]).set jO (Oc,i64 1,b)) (iO N 70 [e] fun b_1=>bif !b_1 then aj.ok (Ex.ret,{tmps:=slots 98 [(2,PV.t (T.bool false))],heap:=[]}) else aj.ok (Ex.norm,Di c ((es++ [(e,i64 0,k)]).set jO (Oc,i64 1,b)) (k+1) (IntKind.i64.wrap (i+1)))) fun x v x_1=>iT IntKind.i64 v fun a=>bif decide (a > 1) then aj.ok (Ex.ret,{tmps:=slots 98 [(2,PV.t (T.bool false))],heap:=[]}) else iO N 70 [e] fun b_1=>bif !b_1 then aj.ok (Ex.ret,{tmps:=slots 98 [(2,PV.t (T.bool false))],heap:=[]}) else aj.ok (Ex.norm,Di c ((es++ [(e,i64 0,k)]).set jO (Oc,i64 1,b)) (k+1) (IntKind.i64.wrap (i+1))))|none=>aj.stuck)) fun x v b=>chk (decide (b≤140737488355328)) (aO (iP es (↑b:Int)) fun jO=>match es[jO]? with|some (Oc,fst,b)=>chk (jv [0,0] e) (eY [0,0] e (es.set jO (Oc,i64 1,b)) (iO N 70 [e] fun b_1=>bif !b_1 then aj.ok (Ex.ret,{tmps:=slots 98 [(2,PV.t (T.bool false))],heap:=[]}) else aj.ok (Ex.norm,Di c (es.set jO (Oc,i64 1,b)) k (IntKind.i64.wrap (i+1)))) fun x v x_1=>iT IntKind.i64 v fun a=>bif decide (a > 1) then aj.ok (Ex.ret,{tmps:=slots 98 [(2,PV.t (T.bool false))],heap:=[]}) else iO N 70 [e] fun b_1=>bif !b_1 then aj.ok (Ex.ret,{tmps:=slots 98 [(2,PV.t (T.bool false))],heap:=[]}) else aj.ok (Ex.norm,Di c (es.set jO (Oc,i64 1,b)) k (IntKind.i64.wrap (i+1))))|none=>aj.stuck))) fun x v x_1=>iT IntKind.i64 v fun a=>chk (jv [0,0] e) (eY [0,0] e es (chk (decide (k≤140737488355328)) (aO (iP (es++ [(e,i64 0,k)]) (↑k:Int)) fun jO=>match (es++ [(e,i64 0,k)])[jO]? with|some (Oc,fst,b)=>chk (jv [0,0] e) (eY [0,0] e ((es++ [(e,i64 0,k)]).set jO (Oc,i64 (IntKind.i64.wrap (a+1)),b)) (iO N 70 [e] fun b_1=>bif !b_1 then aj.ok (Ex.ret,{tmps:=slots 98 [(2,PV.t (T.bool false))],heap:=[]}) else aj.ok (Ex.norm,Di c ((es++ [(e,i64 0,k)]).set jO (Oc,i64 (IntKind.i64.wrap (a+1)),b)) (k+1) (IntKind.i64.wrap (i+1)))) fun x v x_2=>iT IntKind.i64 v fun a_1=>bif decide (a_1 > 1) then aj.ok (Ex.ret,{tmps:=slots 98 [(2,PV.t (T.bool false))],heap:=[]}) else iO N 70 [e] fun b_1=>bif !b_1 then aj.ok (Ex.ret,{tmps:=slots 98 [(2,PV.t (T.bool false))],heap:=[]}) else aj.ok (Ex.norm,Di c ((es++ [(e,i64 0,k)]).set jO (Oc,i64 (IntKind.i64.wrap (a+1)),b)) (k+1) (IntKind.i64.wrap (i+1))))|none=>aj.stuck)) fun x v b=>chk (decide (b≤140737488355328)) (aO (iP es (↑b:Int)) fun jO=>match es[jO]? with|some (Oc,fst,b)=>chk (jv [0,0] e) (eY [0,0] e (es.set jO (Oc,i64 (IntKind.i64.wrap (a+1)),b)) (iO N 70 [e] fun b_1=>bif !b_1 then aj.ok (Ex.ret,{tmps:=slots 98 [(2,PV.t (T.bool false))],heap:=[]}) else aj.ok (Ex.norm,Di c (es.set jO (Oc,i64 (IntKind.i64.wrap (a+1)),b)) k (IntKind.i64.wrap (i+1)))) fun x v x_2=>iT IntKind.i64 v fun a_1=>bif decide (a_1 > 1) then aj.ok (Ex.ret,{tmps:=slots 98 [(2,PV.t (T.bool false))],heap:=[]}) else iO N 70 [e] fun b_1=>bif !b_1 then aj.ok (Ex.ret,{tmps:=slots 98 [(2,PV.t (T.bool false))],heap:=[]}) else aj.ok (Ex.norm,Di c (es.set jO (Oc,i64 (IntKind.i64.wrap (a+1)),b)) k (IntKind.i64.wrap (i+1))))|none=>aj.stuck)))) else aj.ok (Ex.exit 0,{tmps:=slots 98 [(1,PV.ptr 0 0)],heap:=[ah.box 56 6 (PV.t c.t)]}):=by kernel_rfl
theorem Xg (N:Nat) (c:Cf):aS env N 52 0 5 (aY env 52) (.exit 0) (⟨slots 98 [(1,.ptr 0 0)],[.box 56 6 (.t c.t)]⟩)=chk (jv [0] (i64 c.a)) (eY [0] (i64 c.a) [] (bC env N 52 13 (uF c [(i64 c.a,i64 1,0)] 1 0)) fun i x b=>bC env N 52 13 (uF c [] 0 0)):=by kernel_rfl
theorem ade (N:Nat):aS env N 52 0 5 (aY env 52) (.ret) (⟨slots 98 [(2,.t (.bool false))],[]⟩)=rB false:=by kernel_rfl
theorem aeo (N:Nat) (c:Cf) (es:List (T×T×Nat)) (k:Nat) (i:Int):aH env N 52 0 13 (uF c es k i)=bif decide (i < (↑(List.map Sd.t c.s).length:Int)) then bV (List.map Sd.t c.s) i fun e=>chk (e.cells.length==4&& !e.aV) (chk (jv [0] (e.ay 0 1 false)) (eY [0] (e.ay 0 1 false) es (chk (jv [0] (e.ay 0 1 false)) (eY [0] (e.ay 0 1 false) es (chk (jv [0] (e.ay 0 1 false)) (eY [0] (e.ay 0 1 false) (es++ [(e.ay 0 1 false,i64 1,k)]) (iO N 91 [e] fun b=>bif !b then aj.ok (Ex.ret,{tmps:=slots 98 [(2,PV.t (T.bool false))],heap:=[]}) else aj.ok (Ex.norm,uF c (es++ [(e.ay 0 1 false,i64 1,k)]) (k+1) (IntKind.i64.wrap (i+1)))) fun x v x_1=>iT IntKind.i64 v fun a=>bif decide (a > 1) then aj.ok (Ex.ret,{tmps:=slots 98 [(2,PV.t (T.bool false))],heap:=[]}) else iO N 91 [e] fun b=>bif !b then aj.ok (Ex.ret,{tmps:=slots 98 [(2,PV.t (T.bool false))],heap:=[]}) else aj.ok (Ex.norm,uF c (es++ [(e.ay 0 1 false,i64 1,k)]) (k+1) (IntKind.i64.wrap (i+1))))) fun jO x b=>chk (jv [0] (e.ay 0 1 false)) (eY [0] (e.ay 0 1 false) (es.set jO (e.ay 0 1 false,i64 1,b)) (iO N 91 [e] fun b_1=>bif !b_1 then aj.ok (Ex.ret,{tmps:=slots 98 [(2,PV.t (T.bool false))],heap:=[]}) else aj.ok (Ex.norm,uF c (es.set jO (e.ay 0 1 false,i64 1,b)) k (IntKind.i64.wrap (i+1)))) fun x v x_1=>iT IntKind.i64 v fun a=>bif decide (a > 1) then aj.ok (Ex.ret,{tmps:=slots 98 [(2,PV.t (T.bool false))],heap:=[]}) else iO N 91 [e] fun b_1=>bif !b_1 then aj.ok (Ex.ret,{tmps:=slots 98 [(2,PV.t (T.bool false))],heap:=[]}) else aj.ok (Ex.norm,uF c (es.set jO (e.ay 0 1 false,i64 1,b)) k (IntKind.i64.wrap (i+1)))))) fun x v x_1=>iT IntKind.i64 v fun a=>chk (jv [0] (e.ay 0 1 false)) (eY [0] (e.ay 0 1 false) es (chk (jv [0] (e.ay 0 1 false)) (eY [0] (e.ay 0 1 false) (es++ [(e.ay 0 1 false,i64 (IntKind.i64.wrap (a+1)),k)]) (iO N 91 [e] fun b=>bif !b then aj.ok (Ex.ret,{tmps:=slots 98 [(2,PV.t (T.bool false))],heap:=[]}) else aj.ok (Ex.norm,uF c (es++ [(e.ay 0 1 false,i64 (IntKind.i64.wrap (a+1)),k)]) (k+1) (IntKind.i64.wrap (i+1)))) fun x v x_2=>iT IntKind.i64 v fun a_1=>bif decide (a_1 > 1) then aj.ok (Ex.ret,{tmps:=slots 98 [(2,PV.t (T.bool false))],heap:=[]}) else iO N 91 [e] fun b=>bif !b then aj.ok (Ex.ret,{tmps:=slots 98 [(2,PV.t (T.bool false))],heap:=[]}) else aj.ok (Ex.norm,uF c (es++ [(e.ay 0 1 false,i64 (IntKind.i64.wrap (a+1)),k)]) (k+1) (IntKind.i64.wrap (i+1))))) fun jO x b=>chk (jv [0] (e.ay 0 1 false)) (eY [0] (e.ay 0 1 false) (es.set jO (e.ay 0 1 false,i64 (IntKind.i64.wrap (a+1)),b)) (iO N 91 [e] fun b_1=>bif !b_1 then aj.ok (Ex.ret,{tmps:=slots 98 [(2,PV.t (T.bool false))],heap:=[]}) else aj.ok (Ex.norm,uF c (es.set jO (e.ay 0 1 false,i64 (IntKind.i64.wrap (a+1)),b)) k (IntKind.i64.wrap (i+1)))) fun x v x_2=>iT IntKind.i64 v fun a_1=>bif decide (a_1 > 1) then aj.ok (Ex.ret,{tmps:=slots 98 [(2,PV.t (T.bool false))],heap:=[]}) else iO N 91 [e] fun b_1=>bif !b_1 then aj.ok (Ex.ret,{tmps:=slots 98 [(2,PV.t (T.bool false))],heap:=[]}) else aj.ok (Ex.norm,uF c (es.set jO (e.ay 0 1 false,i64 (IntKind.i64.wrap (a+1)),b)) k (IntKind.i64.wrap (i+1))))))) else aj.ok (Ex.exit 2,{tmps:=slots 98 [],heap:=[]}):=by kernel_rfl
theorem TQ (N:Nat):aS env N 52 0 13 (aY env 52) (.exit 2) (⟨slots 98 [],[]⟩)=rB true:=by kernel_rfl
theorem Z5 (N:Nat):aS env N 52 0 13 (aY env 52) (.ret) (⟨slots 98 [(2,.t (.bool false))],[]⟩)=rB false:=by kernel_rfl
def YG (c:Cf) (i:Int):St:=⟨slots 39 [(1,.ptr 0 0),(3,.t (i64 i))],[.box 56 6 (.t c.t)]⟩
theorem q33 (N:Nat) (c:Cf):ak env (N+1) 33 [c.t]=W [c.t] (bC env N 33 2 (YG c 0)):=by kernel_rfl
theorem ajk (N:Nat) (c:Cf) (i:Int):aH env N 33 0 2 (YG c i)=bif decide (i < (↑(List.map Sd.t c.s).length:Int)) then bV (List.map Sd.t c.s) i fun e=>gY (e.ay 2 1 false) fun n=>bif decide (n > 20) then aj.ok (Ex.ret,{tmps:=slots 39 [(2,PV.t (T.bool false))],heap:=[]}) else bV (List.map Sd.t c.s) i fun e=>gY (e.ay 3 1 false) fun n=>bif decide (n > 20) then aj.ok (Ex.ret,{tmps:=slots 39 [(2,PV.t (T.bool false))],heap:=[]}) else aj.ok (Ex.norm,YG c (IntKind.i64.wrap (i+1))) else aj.ok (Ex.exit 0,{tmps:=slots 39 [(1,PV.ptr 0 0)],heap:=[ah.box 56 6 (PV.t c.t)]}):=by kernel_rfl
theorem WX (N:Nat) (c:Cf):aS env N 33 0 2 (aY env 33) (.exit 0) (⟨slots 39 [(1,.ptr 0 0)],[.box 56 6 (.t c.t)]⟩)=bif decide ((↑(List.map Px.t c.w).length:Int)≤20) then rB (decide ((↑(List.map Sd.t c.s).length:Int)≤20)) else rB false:=by kernel_rfl
theorem ac6 (N:Nat):aS env N 33 0 2 (aY env 33) (.ret) (⟨slots 39 [(2,.t (.bool false))],[]⟩)=rB false:=by kernel_rfl
end
section
open Go.RowKit Go.Proofs
variable [Lv]
theorem q98 (N:Nat) (a n:Int):ak env (N+1) 98 [i64 a,i64 n]=W [i64 a,i64 n] (chk (decide (0≤IntKind.i64.wrap (32 - dh true [dh false [32] n] 0))) (chk (decide (0≤IntKind.i64.wrap (32 - dh true [dh false [32] n] 0))) (rI (IntKind.i64.wrap ((IntKind.i64.wrap (↑(BitVec.ofInt 64 a&&& BitVec.ofInt 64 4294967295).toNat:Int)).fdiv (2 ^ min (IntKind.i64.wrap (32 - dh true [dh false [32] n] 0)).toNat 64)*2 ^ min (IntKind.i64.wrap (32 - dh true [dh false [32] n] 0)).toNat 64))))):=by kernel_rfl
theorem q70 (N:Nat) (x:Px):ak env (N+1) 70 [x.t]=W [x.t] (bif decide (x.n≥0) then bif decide (x.n≤32) then Gy N 98 [i64 x.a,i64 x.n] fun b=>rB (x.a==b) else rB false else rB false):=by kernel_rfl
theorem ar4 (N:Nat) (x y:Px):ak env (N+1) 222 [x.t,y.t]=W [x.t,y.t] (iO N 70 [x.t] fun b=>bif b then iO N 70 [y.t] fun b=>bif b then bif decide (x.n≤y.n) then Gy N 98 [i64 y.a,i64 x.n] fun a=>rB (a==x.a) else rB false else rB false else rB false):=by kernel_rfl
theorem arZ (N:Nat) (r:Ru) (lo hi:Int):ak env (N+1) 218 [r.t,i64 lo,i64 hi]=W [r.t,i64 lo,i64 hi] (bif r.x.a==0&&(r.x.n==0&&true) then bif decide (r.v≥lo) then rB (decide (r.v≤hi)) else rB false else rB false):=by kernel_rfl
theorem arp (N:Nat) (r:Ru) (b:Bool):ak env (N+1) 161 [r.t,.bool b]=W [r.t,.bool b] (cl N 193 [r.t] fun x=>aG x 0 fun y=>aG x 1 fun y_1=>chk (y.cells.length==2&& !y.aV) (bT y_1 fun b_1=>bif !b_1 then rB false else oN env (aK env N) (y.ay 0 1 false) [r.t] fun r_1=>bT r_1 fun b_2=>bif !b_2 then rB false else bif b then bif r.m==4 then rB false else bif r.a==0 then rB (r.n==0) else bif r.a==1 then bif !b then rB (r.n==0) else rB false else bif r.a==2 then bif b then bif decide (r.n > 0) then rB (decide (r.n < 400)) else rB false else rB false else bif r.a==3 then bif !b then bif decide (r.n > 0) then rB (decide (r.n≤8)) else rB false else rB false else rB false else bif r.a==0 then rB (r.n==0) else bif r.a==1 then bif !b then rB (r.n==0) else rB false else bif r.a==2 then bif b then bif decide (r.n > 0) then rB (decide (r.n < 400)) else rB false else rB false else bif r.a==3 then bif !b then bif decide (r.n > 0) then rB (decide (r.n≤8)) else rB false else rB false else rB false)):=by kernel_rfl
theorem ars (N:Nat) (r:Ru) (c:Int):ak env (N+1) 163 [r.t,i64 c]=W [r.t,i64 c] (bif r.m==0 then rB true else bif r.m==4 then rB (r.v==c) else rB false):=by kernel_rfl
theorem arH (N:Nat) (r:Ru):ak env (N+1) 193 [r.t]=W [r.t] (bif decide (r.m < 0) then aj.ok (T.au [T.agg [T.ng,T.ng],T.bool false]) else bif decide (r.m≥5) then aj.ok (T.au [T.agg [T.ng,T.ng],T.bool false]) else cl N 210 [] fun x=>chk (decide (0≤r.m)&&decide (r.m < 5)) (chk (x.cells.length==10&& !x.aV&&true&&decide (r.m.toNat*2+2≤10)) (chk ((x.ay (r.m.toNat*2) 2 true).cells.length==2&& !(x.ay (r.m.toNat*2) 2 true).aV) (aj.ok (T.au [x.ay (r.m.toNat*2) 2 true,T.bool true]))))):=by kernel_rfl
theorem arS (N:Nat):ak env (N+1) 210 []=W [] (aj.ok (T.agg [T.fn 217 [] [],T.fn 219 [] [],T.fn 220 [] [],T.fn 221 [] [],T.fn 223 [] [],T.fn 224 [] [],T.fn 225 [] [],T.fn 226 [] [],T.fn 227 [] [],T.fn 228 [] []])):=by kernel_rfl
theorem arY (N:Nat) (r:Ru):ak env (N+1) 217 [r.t]=W [r.t] (cl N 218 [r.t,i64 0,i64 0] fun x=>aj.ok x):=by kernel_rfl
theorem ar1 (N:Nat) (r:Ru):ak env (N+1) 220 [r.t]=W [r.t] (iO N 70 [r.x.t] fun b=>bif b then rB (r.v==0) else rB false):=by kernel_rfl
theorem ar5 (N:Nat) (r:Ru):ak env (N+1) 223 [r.t]=W [r.t] (cl N 218 [r.t,i64 1,i64 4294967295] fun x=>aj.ok x):=by kernel_rfl
theorem ar7 (N:Nat) (r:Ru):ak env (N+1) 225 [r.t]=W [r.t] (cl N 218 [r.t,i64 0,i64 32] fun x=>aj.ok x):=by kernel_rfl
theorem ar9 (N:Nat) (r:Ru):ak env (N+1) 227 [r.t]=W [r.t] (cl N 218 [r.t,i64 0,i64 3] fun x=>aj.ok x):=by kernel_rfl
theorem arq (N:Nat) (r:Ru) (c:Int):ak env (N+1) 162 [r.t,.ref (i64 c)]=W [r.t,.ref (i64 c)] (cl N 163 [r.t,i64 c] fun x=>aj.ok x):=by kernel_rfl
theorem aru (N:Nat) (r:Ru) (c:Int):ak env (N+1) 166 [r.t,.ref (i64 c)]=W [r.t,.ref (i64 c)] (bif r.m==4 then rB (r.v !=c) else rB false):=by kernel_rfl
def agR (l:List Ru) (f:T) (i:Int):St:=⟨slots 19 [(0,.t (.sl 6 (l.map Ru.t))),(1,.t f),(7,.t (i64 (l.map Ru.t).length)),(8,.t (i64 i))],[]⟩
theorem ard (N:Nat) (l:List Ru) (f:T):ak env (N+1) 151 [.sl 6 (l.map Ru.t),f]=W [.sl 6 (l.map Ru.t),f] (bC env N 151 2 (agR l f 0)):=by kernel_rfl
theorem akU (N:Nat) (l:List Ru) (f:T) (i:Int):aH env N 151 0 2 (agR l f i)=bif decide (i < (↑(List.map Ru.t l).length:Int)) then bV (List.map Ru.t l) i fun e=>oN env (aK env N) f [e] fun r=>bT r fun v=>bif v then aj.ok (Ex.ret,{tmps:=slots 19 [(4,PV.t (i64 i))],heap:=[]}) else aj.ok (Ex.norm,agR l f (IntKind.i64.wrap (i+1))) else aj.ok (Ex.exit 0,{tmps:=slots 19 [],heap:=[]}):=by kernel_rfl
theorem ZP (N:Nat) (i:Int):aS env N 151 0 2 (aY env 151) (.ret) (⟨slots 19 [(4,.t (i64 i))],[]⟩)=rI i:=by kernel_rfl
theorem TA (N:Nat):aS env N 151 0 2 (aY env 151) (.exit 0) (⟨slots 19 [],[]⟩)=rI (-1):=by kernel_rfl
theorem aqU (N:Nat) (l:List Ru) (f:T):ak env (N+1) 129 [.sl 6 (l.map Ru.t),f]=W [.sl 6 (l.map Ru.t),f] (Gy N 151 [T.sl 6 (List.map Ru.t l),f] fun a=>rB (decide (a≥0))):=by kernel_rfl
theorem anp (N:Nat) (l:List T) (f x:T) {β:Type} (K:PV→List ah→aj β):fQ env (aK env N) N 164 [.own 1,.t f] [.nD 3 1 x,.row 123 6 l] K=cl N 151 [T.sl 6 l,f] fun x_1=>chk x_1.plain (iT IntKind.i64 x_1 fun a=>bif a== -1 then K (PV.own 1) [ah.nD 3 1 x,ah.row 123 6 l] else iT IntKind.i64 x_1 fun a=>uD env (aK env N) N 164 2 5 K {tmps:=slots 42 [(0,PV.own 1),(1,PV.t f),(5,PV.t x_1),(6,PV.t (i64 (IntKind.i64.wrap (a+1))))],heap:=[ah.nD 3 1 x,ah.row 123 6 l]}):=by kernel_rfl
def YF (l:List T) (f x:T) (i j:Int):St:=⟨slots 42 [(0,.own 1),(1,.t f),(5,.t (i64 i)),(6,.t (i64 j))],[.nD 3 1 x,.row 123 6 l]⟩
theorem aaP (N:Nat) (l:List T) (f x:T) (i j:Int):bU env (aK env N) N 164 2 5 (YF l f x i j)=bif decide (j < (↑l.length:Int)) then chk (decide (0≤j)&&decide (j < (↑l.length:Int))) (chk ((l.getD j.toNat T.dR).cells.length==6&& !(l.getD j.toNat T.dR).aV) (oN env (aK env N) f [l.getD j.toNat T.dR] fun r=>bT r fun b=>bif !b then chk (decide (0≤i)&&decide (i < (↑l.length:Int))) (chk ((l.getD j.toNat T.dR).cells.length==6&& !(l.getD j.toNat T.dR).aV) (aj.ok (Ex.norm,YF (l.set i.toNat (l.getD j.toNat T.dR)) f x (IntKind.i64.wrap (i+1)) (IntKind.i64.wrap (j+1))))) else aj.ok (Ex.norm,YF l f x i (IntKind.i64.wrap (j+1))))) else aj.ok (Ex.exit 0,{tmps:=slots 42 [(0,PV.own 1),(5,PV.t (i64 i))],heap:=[ah.nD 3 1 x,ah.row 123 6 l]}):=by kernel_rfl
theorem Ov (N:Nat) (l:List T) (x:T) (i:Int) {β:Type} (K:PV→List ah→aj β):rF env (aK env N) N 164 2 5 K (.exit 0) (⟨slots 42 [(0,.own 1),(5,.t (i64 i))],[.nD 3 1 x,.row 123 6 l]⟩)=chk (decide (0≤i)&&decide (i≤(↑l.length:Int))) (chk (decide (0+i.toNat≤0+l.length)&&decide (0+l.length≤l.length)) (chk (decide (0≤i)&&decide (i≤(↑(fP l (0+i.toNat) (List.replicate (0+l.length - (0+i.toNat)) (T.agg [i64 0,i64 0,i64 0,i64 0,i64 0,i64 0]))).length:Int))) (K (PV.view 1 6 0 (0+i.toNat)) [ah.nD 3 1 x,ah.row 123 6 (fP l (0+i.toNat) (List.replicate (0+l.length - (0+i.toNat)) (T.agg [i64 0,i64 0,i64 0,i64 0,i64 0,i64 0])))]))):=by kernel_rfl
def Yx (l:List T) (c:Int) (r:PV) (l':List T):Pin:=⟨164,[.own 1,.t (.fn 166 [] [.ref (i64 c)])],[.nD 3 1 (i64 c),.row 123 6 l],r,[.nD 3 1 (i64 c),.row 123 6 l']⟩
theorem aoF (N:Nat) (l xs ys:List T) (c:Int):fQ env (bI env N [Yx xs c (.own 1) ys]) N 130 [.t (.sl 6 l),.t (i64 c)] [] (aY env 130)=cl N 151 [T.sl 6 l,T.fn 162 [] [(i64 c).ref]] fun x=>iT IntKind.i64 x fun a=>bif decide (a≥0) then iT IntKind.i64 x fun a=>chk (decide (0≤IntKind.i64.wrap (a+1))&&decide (IntKind.i64.wrap (a+1)≤(↑l.length:Int))) (cl N 165 [T.sl 6 (List.drop 0 (List.take (IntKind.i64.wrap (a+1)).toNat l))] fun x=>qW 6 x fun Um=>iQ ([PV.own 1,PV.t (T.fn 166 [] [(i64 c).ref])]= [PV.own 1,PV.t (T.fn 166 [] [(i64 c).ref])]∧ [ah.nD 3 1 (i64 c),ah.row 123 6 Um]= [ah.nD 3 1 (i64 c),ah.row 123 6 xs]) (aj.ok (T.sl 6 ys))) else cl N 165 [T.sl 6 l] fun x=>qW 6 x fun Um=>iQ ([PV.own 1,PV.t (T.fn 166 [] [(i64 c).ref])]= [PV.own 1,PV.t (T.fn 166 [] [(i64 c).ref])]∧ [ah.nD 3 1 (i64 c),ah.row 123 6 Um]= [ah.nD 3 1 (i64 c),ah.row 123 6 xs]) (aj.ok (T.sl 6 ys)):=by kernel_rfl
theorem ai3 (N:Nat) (l xs ys:List T) (c:Int) (n:Nat):fQ env (bI env N [Yx xs c (.view 1 6 0 n) ys]) N 130 [.t (.sl 6 l),.t (i64 c)] [] (aY env 130)=cl N 151 [T.sl 6 l,T.fn 162 [] [(i64 c).ref]] fun x=>iT IntKind.i64 x fun a=>bif decide (a≥0) then iT IntKind.i64 x fun a=>chk (decide (0≤IntKind.i64.wrap (a+1))&&decide (IntKind.i64.wrap (a+1)≤(↑l.length:Int))) (cl N 165 [T.sl 6 (List.drop 0 (List.take (IntKind.i64.wrap (a+1)).toNat l))] fun x=>qW 6 x fun Um=>iQ ([PV.own 1,PV.t (T.fn 166 [] [(i64 c).ref])]= [PV.own 1,PV.t (T.fn 166 [] [(i64 c).ref])]∧ [ah.nD 3 1 (i64 c),ah.row 123 6 Um]= [ah.nD 3 1 (i64 c),ah.row 123 6 xs]) (bif decide (n≤ys.length) then aj.ok (T.sl 6 (List.take n ys)) else aO (bif decide (n≤ys.length) then some (T.sl 6 (List.drop 0 (List.take n ys))) else none) fun x=>aj.ok x)) else cl N 165 [T.sl 6 l] fun x=>qW 6 x fun Um=>iQ ([PV.own 1,PV.t (T.fn 166 [] [(i64 c).ref])]= [PV.own 1,PV.t (T.fn 166 [] [(i64 c).ref])]∧ [ah.nD 3 1 (i64 c),ah.row 123 6 Um]= [ah.nD 3 1 (i64 c),ah.row 123 6 xs]) (bif decide (n≤ys.length) then aj.ok (T.sl 6 (List.take n ys)) else aO (bif decide (n≤ys.length) then some (T.sl 6 (List.drop 0 (List.take n ys))) else none) fun x=>aj.ok x):=by kernel_rfl
end
section
open Go.RowKit
def F7 (b:Int):Int:=IntKind.i64.wrap (32 - dh true [dh false [32] b] 0)
def AO (a b:Int):Int:=IntKind.i64.wrap (Int.fdiv (IntKind.i64.wrap ((BitVec.toNat (BitVec.ofInt 64 a&&& BitVec.ofInt 64 4294967295):Nat):Int)) (2 ^ min (Int.toNat (F7 b)) 64)*2 ^ min (Int.toNat (F7 b)) 64)
theorem Qx (b:Int):F7 b=32 - max 0 (min b 32):=by
 unfold F7
 have h:dh true [dh false [32] b] 0=max 0 (min b 32):=by
  simp only[dh,cond_true,cond_false]
  split<;>split<;>omega
 rw[h,wrap64 (by omega)]
def dA (x:Px):Bool:=decide (x.n≥0)&&(decide (x.n≤32)&&(x.a==AO x.a x.n))
def acn (x y:Px):Bool:=dA x&&(dA y&&(decide (x.n≤y.n)&&(AO y.a x.n==x.a)))
def wB (r:Ru) (lo hi:Int):Bool:=(r.x.a==0&&(r.x.n==0&&true))&&(decide (r.v≥lo)&&decide (r.v≤hi))
def jF (r:Ru):Bool:=if r.m=0 then wB r 0 0 else if r.m=1 then dA r.x&&(r.v==0) else if r.m=2 then wB r 1 4294967295 else if r.m=3 then wB r 0 32 else if r.m=4 then wB r 0 3 else false
def Gm (r:Ru) (b:Bool):Bool:=if r.a=0 then r.n==0 else if r.a=1 then !b&&(r.n==0) else if r.a=2 then b&&(decide (r.n > 0)&&decide (r.n < 400)) else if r.a=3 then !b&&(decide (r.n > 0)&&decide (r.n≤8)) else false
def pK (r:Ru) (b:Bool):Bool:=jF r&&(!(b&&(r.m==4))&&Gm r b)
def yN (c:Int) (r:Ru):Bool:=(r.m==0)||((r.m==4)&&(r.v==c))
def l9 (c:Int) (r:Ru):Bool:=(r.m==4)&&(r.v !=c)
def cu (l:List Ru) (c:Int):List Ru:=((match l.findIdx? (yN c) with|some k=>l.take (k+1)|none=>l).filter fun r=> !l9 c r)
def rU (n:Int):Bool:=decide (n > 0)&&decide (n≤4294967295)
def holdB (n:Int):Bool:=(n==0)||(decide (n≥3)&&decide (n≤65535))
def wX (l:List Ru) (b:Bool):Bool:=decide ((l.length:Int)≤8)&& !(l.any fun r=> !pK r b)
def oQ (s:Sd):Bool:=rU s.a&&(decide (s.r≥1)&&(decide (s.r≤3)&&(wX s.i true&&wX s.o false)))
def jh {α κ:Type} [DecidableEq κ] (k:α→κ) (q:α→Bool):List κ→List α→Bool
 |_,[]=>true
 |seen,x::l=> !(seen.contains (k x))&&(q x&&jh k q (seen++ [k x]) l)
def dF (c:Cf):Bool:=rU c.a&&(rU c.d&&(holdB c.h&&(decide (1≤c.k)&&(decide (c.k≤1000)&&(decide (c.w.length≤8)&&(decide (c.s.length≤8)&&
 (jh id dA [] c.w&&jh Sd.a oQ [c.a] c.s)))))))
def NW (c:Cf):Bool:=c.s.all (fun s=>decide (s.i.length≤20)&&decide (s.o.length≤20))&&(decide (c.w.length≤20)&&decide (c.s.length≤20))
def idxOf (c:Cf) (n:Int):Option Nat:=c.s.findIdx? fun s=>s.a==n
def fK (c:Cf) (n:Int):Int:=((idxOf c n).getD 0:Nat)
def xB (b:Bool) (w:Option Ru) (l:List Ru):Option Ru:=l.foldl (fun w r=>if r.a=2 then(match w with|none=>some r|some v=>if decide (r.n < v.n)==b then some r else some v) else w) w
def agx (c:Cf) (k:Int):Option Ru:=c.s.foldl (fun w s=>if s.r=k then xB true w (cu s.i k) else w) none
def CX (c:Cf) (k:Int):Option Int:=if k=0 then some 400 else(agx c k).map (·.n)
def lC (c:Cf) (k:Int):Option Int:=if 0≤k then(match c.s[k.toNat]? with|some s=>(xB false none (cu s.i s.r)).map (·.n)|none=>none) else none
def zU (c:Cf) (k n:Int):Bool:=if 0≤k then(match c.s[k.toNat]? with|some s=>(cu s.o n).any (fun r=>r.a !=0)|none=>false) else false
def tq (a:Cf) (h:Option Int) (k n:Int):Bool:=(CX a n).isSome&&(h.isSome&&(decide (h.getD 0 > (CX a n).getD 0)&&zU a k n))
def uN (a b:Cf):Bool:=dF a&&(dF b&&((idxOf a b.a).isSome&&((idxOf b a.a).isSome&& !([0,1,2,3].any (tq a (lC b (fK b a.a)) (fK a b.a))))))
end
section
open Go.RowKit Go.Proofs
theorem jC (a b:Bool):(bif a then rB b else rB false)=rB (a&&b):=by cases a<;>rfl
theorem Yu (a b:Bool):(bif a then rB true else rB b)=rB (a||b):=by cases a<;>rfl
theorem dL {M:Nat} (h:1≤M):∃ m,M=m+1:=⟨M - 1,by omega⟩
theorem AX (b:Bool):(T.bool b).wf=true:=rfl
theorem lG {x:T} (h:x.wf=true):(T.ref x).wf=true:=by simpa[T.wf] using h
theorem xu {f:FuncId} {xs:List T} (h:T.wfs xs=true):(T.fn f [] xs).wf=true:=by simp[T.wf,T.wfs,h]
variable [Lv]
theorem lS {β:Type} {N:Nat} {g:FuncId} {fs ts cs:List T} {K:T→aj β} (h:env.mode g=0):oN env (aK env N) (.fn g fs cs) ts K=cl N g (fs++ts++cs) K:=by simp[oN,h,cl,aK]
theorem aeH {M:Nat} {a b:Int} (ha:aT a=true) (hb:aT b=true):ak env (M+1) 98 [i64 a,i64 b]= .ok (i64 (AO a b)):=by
 rw[q98,aZ (dN (bg ha) (bg hb))]
 have h:decide (0≤IntKind.i64.wrap (32 - dh true [dh false [32] b] 0))=true:=decide_eq_true (by have:=Qx b; unfold F7 at this; rw[this]; omega)
 simp only[h,chk,cond_true]
 rfl
theorem yD {M:Nat} {x:Px} (h:x.ok) (hM:1≤M):ak env (M+1) 70 [x.t]= .ok (.bool (dA x)):=by
 obtain⟨m,rfl⟩:=dL hM
 rw[q70,aZ (gQ h.wf),nI (aeH h.a h.n)]
 simp only[jC]
 rfl
theorem aik {M:Nat} {x y:Px} (h:x.ok) (h':y.ok) (hM:2≤M):ak env (M+1) 222 [x.t,y.t]= .ok (.bool (acn x y)):=by
 obtain⟨m,rfl⟩:=dL (show 1≤M by omega)
 rw[ar4,aZ (dN h.wf h'.wf),bD (yD h (by omega)),bD (yD h' (by omega)),nI (aeH h'.a h.n)]
 simp only[jC]
 rfl
theorem aij {M:Nat} {r:Ru} {lo hi:Int} (h:r.ok) (hl:aT lo=true) (hh:aT hi=true):ak env (M+1) 218 [r.t,i64 lo,i64 hi]= .ok (.bool (wB r lo hi)):=by
 rw[arZ,aZ (BP h.wf (bg hl) (bg hh))]
 simp only[jC]
 rfl
theorem ahV {M:Nat} {r:Ru} {c:Int} (h:r.ok) (hc:aT c=true):ak env (M+1) 163 [r.t,i64 c]= .ok (.bool (yN c r)):=by
 rw[ars,aZ (dN h.wf (bg hc))]
 simp only[jC,Yu]
 rfl
theorem ahU {M:Nat} {r:Ru} {c:Int} (h:r.ok) (hc:aT c=true) (hM:1≤M):ak env (M+1) 162 [r.t,.ref (i64 c)]= .ok (.bool (yN c r)):=by
 obtain⟨m,rfl⟩:=dL hM
 rw[arq,aZ (dN h.wf (lG (bg hc))),aF (ahV h hc)]
theorem QX {M:Nat} {r:Ru} {c:Int} (h:r.ok) (hc:aT c=true):ak env (M+1) 166 [r.t,.ref (i64 c)]= .ok (.bool (l9 c r)):=by
 rw[aru,aZ (dN h.wf (lG (bg hc)))]
 simp only[jC]
 rfl
def CW (m:Int):T:=if m=0 then .agg [.fn 217 [] [],.fn 219 [] []] else if m=1 then .agg [.fn 220 [] [],.fn 221 [] []] else if m=2 then .agg [.fn 223 [] [],.fn 224 [] []] else if m=3 then .agg [.fn 225 [] [],.fn 226 [] []] else if m=4 then .agg [.fn 227 [] [],.fn 228 [] []] else .agg [.ng,.ng]
def inK (m:Int):Bool:=decide (0≤m)&&decide (m < 5)
theorem DL (m:Int):(inK m=false∧(m < 0∨m≥5)∧m≠0∧m≠1∧m≠2∧m≠3∧m≠4)∨m=0∨m=1∨m=2∨m=3∨m=4:=by
 unfold inK
 by_cases h:0≤m∧m < 5
 · right; omega
 · left
   refine⟨?_,by omega,by omega,by omega,by omega,by omega,by omega⟩
   rcases(show m < 0∨0≤m by omega) with h1|h1
   · rw[decide_eq_false (by omega)]; rfl
   · rw[decide_eq_false (show ¬ m < 5 by omega)]; simp
theorem aaE {M:Nat} {r:Ru} (h:r.ok) (hM:1≤M):ak env (M+1) 193 [r.t]= .ok (.au [CW r.m,.bool (inK r.m)]):=by
 obtain⟨m,rfl⟩:=dL hM
 rw[arH,aZ (gQ h.wf),aF (show ak env (m+1) 210 []=_ from by rw[arS,aZ rfl])]
 rcases DL r.m with ⟨h1,h2,h3,h4,h5,h6,h7⟩|h1|h1|h1|h1|h1
 · rw[h1,CW,if_neg h3,if_neg h4,if_neg h5,if_neg h6,if_neg h7]
   rcases h2 with h2|h2
   · rw[decide_eq_true h2]; rfl
   · rw[decide_eq_true h2]; cases decide (r.m < 0)<;>rfl
 all_goals (rw[h1]; rfl)
theorem aom {p:Prop} [Decidable p] {a b:Bool}:(if p then rB a else rB b)=rB (if p then a else b):=by split<;>rfl
theorem aam {n k:Int} {β:Type} {x y:β}:(bif n==k then x else y)=if n=k then x else y:=by
 by_cases h:n=k
 · rw[if_pos h,beq_iff_eq.2 h]; rfl
 · rw[if_neg h,beq_eq_false_iff_ne.2 h]; rfl
theorem ahT {M:Nat} {r:Ru} {b:Bool} (h:r.ok) (hM:4≤M):ak env (M+1) 161 [r.t,.bool b]= .ok (.bool (pK r b)):=by
 obtain⟨m,rfl⟩:=dL (show 1≤M by omega)
 obtain⟨m,rfl⟩:=dL (show 1≤m by omega)
 rw[arp,aZ (dN h.wf (AX b)),aF (aaE h (by omega))]
 have num:∀ lo hi,aT lo=true→aT hi=true→ak env (m+1) 218 [r.t,i64 lo,i64 hi]= .ok (.bool (wB r lo hi)):=fun lo hi a c=>aij h a c
 have act:∀ (t:aj T) (q:Bool),(bif !q then rB false else t)=rB (q&&(!(b&&(r.m==4))&&Gm r b))↔q=false∨t=rB (!(b&&(r.m==4))&&Gm r b):=fun t q=>by cases q<;>simp
 have rest:∀ q:Bool,(bif !q then rB false else bif b then bif r.m==4 then rB false else bif r.a==0 then rB (r.n==0) else bif r.a==1 then bif !b then rB (r.n==0) else rB false else bif r.a==2 then bif b then bif decide (r.n > 0) then rB (decide (r.n < 400)) else rB false else rB false else bif r.a==3 then bif !b then bif decide (r.n > 0) then rB (decide (r.n≤8)) else rB false else rB false else rB false else bif r.a==0 then rB (r.n==0) else bif r.a==1 then bif !b then rB (r.n==0) else rB false else bif r.a==2 then bif b then bif decide (r.n > 0) then rB (decide (r.n < 400)) else rB false else rB false else bif r.a==3 then bif !b then bif decide (r.n > 0) then rB (decide (r.n≤8)) else rB false else rB false else rB false)=rB (q&&(!(b&&(r.m==4))&&Gm r b)):=fun q=>by
  cases q with
  |false=>rfl
  |true=>
   simp only[Bool.not_true,cond_false,jC,aam,aom,Bool.true_and]
   unfold Gm
   cases b with
   |true=>
    simp only[cond_true,Bool.true_and,Bool.not_true,Bool.false_and]
    by_cases h4:r.m=4
    · simp[h4]
    · simp[h4]
   |false=>simp only[cond_false,Bool.false_and,Bool.not_false,Bool.true_and]
 rcases DL r.m with ⟨h1,h2,h3,h4,h5,h6,h7⟩|h1|h1|h1|h1|h1
 · have:pK r b=false:=by unfold pK jF; rw[if_neg h3,if_neg h4,if_neg h5,if_neg h6,if_neg h7]; rfl
   rw[this,h1,CW,if_neg h3,if_neg h4,if_neg h5,if_neg h6,if_neg h7]
   rfl
 · have hm:jF r=wB r 0 0:=by unfold jF; rw[if_pos h1]
   have hk:ak env (m+1+1) 217 [r.t]= .ok (.bool (wB r 0 0)):=by rw[arY,aZ (gQ h.wf),aF (num _ _ (by decide) (by decide))]
   have e:∀ K:T→aj T,oN env (aK env (m+1+1)) (T.ay (CW 0) 0 1 false) [r.t] K=K (.bool (wB r 0 0)):=fun K=>(lS (g:=217) (fs:=[]) (cs:=[]) rfl).trans (aF hk)
   have hr:=rest (jF r)
   rw[hm] at hr
   show _=rB (jF r&&_)
   rw[hm,←hr]
   rw[h1]
   exact e _
 · have hm:jF r=(dA r.x&&(r.v==0)):=by unfold jF; rw[if_neg (by omega),if_pos h1]
   have hk:ak env (m+1+1) 220 [r.t]= .ok (.bool (dA r.x&&(r.v==0))):=by rw[ar1,aZ (gQ h.wf),bD (yD h.x (by omega)),jC]
   have e:∀ K:T→aj T,oN env (aK env (m+1+1)) (T.ay (CW 1) 0 1 false) [r.t] K=K (.bool (dA r.x&&(r.v==0))):=fun K=>(lS (g:=220) (fs:=[]) (cs:=[]) rfl).trans (aF hk)
   have hr:=rest (jF r)
   rw[hm] at hr
   show _=rB (jF r&&_)
   rw[hm,←hr]
   rw[h1]
   exact e _
 · have hm:jF r=wB r 1 4294967295:=by unfold jF; rw[if_neg (by omega),if_neg (by omega),if_pos h1]
   have hk:ak env (m+1+1) 223 [r.t]= .ok (.bool (wB r 1 4294967295)):=by rw[ar5,aZ (gQ h.wf),aF (num _ _ (by decide) (by decide))]
   have e:∀ K:T→aj T,oN env (aK env (m+1+1)) (T.ay (CW 2) 0 1 false) [r.t] K=K (.bool (wB r 1 4294967295)):=fun K=>(lS (g:=223) (fs:=[]) (cs:=[]) rfl).trans (aF hk)
   have hr:=rest (jF r)
   rw[hm] at hr
   show _=rB (jF r&&_)
   rw[hm,←hr]
   rw[h1]
   exact e _
 · have hm:jF r=wB r 0 32:=by unfold jF; rw[if_neg (by omega),if_neg (by omega),if_neg (by omega),if_pos h1]
   have hk:ak env (m+1+1) 225 [r.t]= .ok (.bool (wB r 0 32)):=by rw[ar7,aZ (gQ h.wf),aF (num _ _ (by decide) (by decide))]
   have e:∀ K:T→aj T,oN env (aK env (m+1+1)) (T.ay (CW 3) 0 1 false) [r.t] K=K (.bool (wB r 0 32)):=fun K=>(lS (g:=225) (fs:=[]) (cs:=[]) rfl).trans (aF hk)
   have hr:=rest (jF r)
   rw[hm] at hr
   show _=rB (jF r&&_)
   rw[hm,←hr]
   rw[h1]
   exact e _
 · have hm:jF r=wB r 0 3:=by unfold jF; rw[if_neg (by omega),if_neg (by omega),if_neg (by omega),if_neg (by omega),if_pos h1]
   have hk:ak env (m+1+1) 227 [r.t]= .ok (.bool (wB r 0 3)):=by rw[ar9,aZ (gQ h.wf),aF (num _ _ (by decide) (by decide))]
   have e:∀ K:T→aj T,oN env (aK env (m+1+1)) (T.ay (CW 4) 0 1 false) [r.t] K=K (.bool (wB r 0 3)):=fun K=>(lS (g:=227) (fs:=[]) (cs:=[]) rfl).trans (aF hk)
   have hr:=rest (jF r)
   rw[hm] at hr
   show _=rB (jF r&&_)
   rw[hm,←hr]
   rw[h1]
   exact e _
theorem Ko {N:Nat} {F:FuncId} {α:Type} {S R:Int→St} {X:St} {l:List α} (q:α→Bool) (hN:l.length+1≤N)
 (step:∀ j x,l[j]? =some x→aH env N F 0 2 (S (j:Nat))=bif q x then .ok (.ret,R (j:Nat)) else .ok (.norm,S ((j+1:Nat):Int))) (hend:aH env N F 0 2 (S (l.length:Nat))= .ok (.exit 0,X))
 (hr:∀ i:Int,aS env N F 0 2 (aY env F) .ret (R i)=rI i) (hx:aS env N F 0 2 (aY env F) (.exit 0) X=rI (-1)):bC env N F 2 (S 0)=rI (rV (l.findIdx? q)):=by
 have main:∀ (r p:List α) (n:Nat),l=p++r→r.length < n→(bH (aH env N F 0 2) n (S (p.length:Nat))).bind (fun x=>aS env N F 0 2 (aY env F) x.1 x.2)=rI (rV ((r.findIdx? q).map (· +p.length))):=by
  intro r
  induction r with
  |nil=>
   intro p n hp hn
   obtain⟨n,rfl⟩:=dL (show 1≤n by omega)
   have:p.length=l.length:=by rw[hp]; simp
   rw[this,eH hend]
   simp only[aj.bind_ok]
   exact hx
  |cons x r ih=>
   intro p n hp hn
   obtain⟨n,rfl⟩:=dL (show 1≤n by omega)
   have hs:=step p.length x (by rw[hp]; simp)
   rw[List.findIdx?_cons]
   cases hq:q x with
   |true=>
    rw[hq,cond_true] at hs
    rw[eF hs]
    simp only[aj.bind_ok,hr,if_true,Option.map_some,rV,Nat.zero_add]
   |false=>
    rw[hq,cond_false] at hs
    have:=ih (p++ [x]) n (by rw[hp]; simp) (by simp at hn; omega)
    rw[List.length_append] at this
    rw[aW hs]
    refine Eq.trans this ?_
    have e:Option.map (fun y=>y+(p.length+ [x].length)) (r.findIdx? q)=Option.map (fun y=>y+p.length) (if false=true then some 0 else Option.map (fun i=>i+1) (r.findIdx? q)):=by
     cases r.findIdx? q with
     |none=>rfl
     |some k=>simp; omega
    rw[e]
 have:=main l [] N rfl (by omega)
 simp only[List.length_nil,Nat.add_zero] at this
 have e:(l.findIdx? q).map (fun x=>x)=l.findIdx? q:=by cases l.findIdx? q<;>rfl
 rw[e] at this
 exact this
theorem Ec {N:Nat} {F:FuncId} {α:Type} (f:α→T) {S R:Int→St} {X:St} {g:T} {l:List α} (q:α→Bool) (hN:l.length+1≤N) (hl:l.length≤big)
 (hb:∀ i:Int,aH env N F 0 2 (S i)=bif decide (i < ((l.map f).length:Int)) then bV (l.map f) i fun e=>oN env (aK env N) g [e] fun r=>bT r fun v=>bif v then aj.ok (Ex.ret,R i) else aj.ok (Ex.norm,S (IntKind.i64.wrap (i+1))) else aj.ok (Ex.exit 0,X))
 (hr:∀ i:Int,aS env N F 0 2 (aY env F) .ret (R i)=rI i) (hx:aS env N F 0 2 (aY env F) (.exit 0) X=rI (-1))
 (hg:∀ x∈l,∀ K:T→aj (Ex×St),oN env (aK env N) g [f x] K=K (.bool (q x))):bC env N F 2 (S 0)=rI (rV (l.findIdx? q)):=by
 have hln:(l.map f).length=l.length:=by simp
 have step:∀ j x,l[j]? =some x→aH env N F 0 2 (S (j:Nat))=bif q x then .ok (.ret,R (j:Nat)) else .ok (.norm,S ((j+1:Nat):Int)):=fun j x hx=>by
  have hj:j < l.length:=(List.getElem?_eq_some_iff.1 hx).1
  rw[hb,decide_eq_true (by rw[hln]; omega)]
  simp only[cond_true,aA (aC hx)]
  rw[hg x (List.mem_of_getElem? hx)]
  simp only[bT,wrap_succ (show j≤big by omega)]
 have hend:aH env N F 0 2 (S (l.length:Nat))= .ok (.exit 0,X):=by rw[hb,decide_eq_false (by rw[hln]; omega)]; rfl
 exact Ko q hN step hend hr hx
theorem wP (k:Option Nat):decide (rV k≥0)=k.isSome:=by
 cases k with
 |none=>decide
 |some i=>exact decide_eq_true (by simp[rV])
theorem qI {α:Type} (q:α→Bool):∀ l:List α,(l.findIdx? q).isSome=l.any q
 | []=>rfl
 |x::l=>by
  rw[List.findIdx?_cons,List.any_cons]
  cases q x with
  |true=>rfl
  |false=>simp[qI q l]
theorem Ea {M:Nat} {l:List Ru} {g:FuncId} {cs:List T} {q:Ru→Bool} (hM:big+1≤M) (hl:bZ Ru.ok l) (hw:T.wfs cs=true) (hm:env.mode g=0) (hq:∀ r∈l,ak env M g (r.t::cs)= .ok (.bool (q r))):
 ak env (M+1) 151 [.sl 6 (l.map Ru.t),.fn g [] cs]= .ok (i64 (rV (l.findIdx? q))):=by
 rw[ard,aZ (dN (dG (fun _ h=>Ru.ok.wf h) hl) (xu hw))]
 exact Ec Ru.t (S:=agR l _) q (by have:=hl.1; omega) hl.1 (akU M l _) (ZP M) (TA M) fun x hx K=>(lS hm).trans (aF (hq x hx))
theorem aax {M:Nat} {l:List Ru} {g:FuncId} {cs:List T} {q:Ru→Bool} (hM:big+1≤M) (hl:bZ Ru.ok l) (hw:T.wfs cs=true) (hm:env.mode g=0) (hq:∀ r∈l,ak env M g (r.t::cs)= .ok (.bool (q r))):
 ak env (M+1+1) 129 [.sl 6 (l.map Ru.t),.fn g [] cs]= .ok (.bool (l.any q)):=by
 rw[aqU,aZ (dN (dG (fun _ h=>Ru.ok.wf h) hl) (xu hw)),nI (Ea (by omega) hl hw hm hq),wP,qI]
end
section
open Go.RowKit Go.Proofs
structure Bd {α:Type} (f:α→T) (q:α→Bool) (l:List α) (L:List T) (i j:Nat):Prop where
 len:L.length=l.length
 le:i≤j
 tk:L.take i=((l.take j).filter fun x=> !q x).map f
 dp:L.drop j=(l.drop j).map f
theorem Bd.get {α:Type} {f:α→T} {q:α→Bool} {l:List α} {L:List T} {i j:Nat} (h:Bd f q l L i j) {x:α} (hx:l[j]? =some x):L[j]? =some (f x):=by
 have:=congrArg (fun l=>l[0]?) h.dp
 simp only[List.getElem?_drop,List.getElem?_map,Nat.add_zero] at this
 rw[this,hx]; rfl
theorem take_succ' {α:Type} {l:List α} {j:Nat} {x:α} (hx:l[j]? =some x):l.take (j+1)=l.take j++ [x]:=by
 rw[List.take_add_one,hx]; rfl
theorem Bd.skip {α:Type} {f:α→T} {q:α→Bool} {l:List α} {L:List T} {i j:Nat} (h:Bd f q l L i j) {x:α} (hx:l[j]? =some x) (hq:q x=true):Bd f q l L i (j+1):=by
 refine⟨h.len,by have:=h.le; omega,?_,?_⟩
 · rw[h.tk,take_succ' hx,List.filter_append]
   simp[hq]
 · have:=congrArg (List.drop 1) h.dp
   simpa[List.drop_drop,List.map_drop] using this
theorem Bd.keep {α:Type} {f:α→T} {q:α→Bool} {l:List α} {L:List T} {i j:Nat} (h:Bd f q l L i j) {x:α} (hx:l[j]? =some x) (hq:q x=false):Bd f q l (L.set i (f x)) (i+1) (j+1):=by
 have hj:j < l.length:=(List.getElem?_eq_some_iff.1 hx).1
 have hi:i < L.length:=by have:=h.le; rw[h.len]; omega
 refine⟨by simp[h.len],by have:=h.le; omega,?_,?_⟩
 · rw[take_succ' (show(L.set i (f x))[i]? =some (f x) from by rw[List.getElem?_set_self hi]),List.take_set_of_le (Nat.le_refl i),h.tk,take_succ' hx,List.filter_append]
   simp[hq]
 · rw[List.drop_set_of_lt (by have:=h.le; omega)]
   have:=congrArg (List.drop 1) h.dp
   simpa[List.drop_drop,List.map_drop] using this
theorem QD {α:Type} (q:α→Bool):∀ {l:List α} {k:Nat},l.findIdx? q=some k→(l.take k).filter (fun x=> !q x)=l.take k∧∃ x,l[k]? =some x∧q x=true
 | [],k,h=>by simp at h
 |x::l,k,h=>by
  rw[List.findIdx?_cons] at h
  cases hq:q x with
  |true=>
   rw[hq,if_pos rfl] at h
   injection h with h
   subst h
   exact⟨rfl,x,rfl,hq⟩
  |false=>
   rw[hq,if_neg (by simp)] at h
   rw[Option.map_eq_some_iff] at h
   obtain⟨k,h,rfl⟩:=h
   obtain⟨a,y,b,c⟩:=QD q h
   exact⟨by simp[hq,a],y,by simpa using b,c⟩
theorem ab8 {α:Type} (q:α→Bool) {l:List α} (h:l.findIdx? q=none):l.filter (fun x=> !q x)=l:=by
 rw[List.filter_eq_self]
 intro x hx
 have:=List.findIdx?_eq_none_iff.1 h x hx
 simp[this]
variable [Lv]
theorem abC {M:Nat} {l:List Ru} {c:Int} (hM:big+2≤M) (hl:bZ Ru.ok l) (hc:aT c=true) (h:l.findIdx? (l9 c)=none):iY env (M+1) (Yx (l.map Ru.t) c (.own 1) (l.map Ru.t)):=by
 intro β K
 show fQ env (aK env M) M _ _ _ K=_
 obtain⟨m,rfl⟩:=dL (show 1≤M by omega)
 refine(anp (m+1) (l.map Ru.t) _ _ K).trans ?_
 rw[aF (Ea (q:=l9 c) (by omega) hl (gQ (lG (bg hc))) rfl fun r hr=>by obtain⟨m,rfl⟩:=dL (show 1≤m by omega); exact QX (hl.2 r hr) hc),h]
 rfl
theorem abD {M:Nat} {l:List Ru} {c:Int} {k:Nat} (hM:big+2≤M) (hl:bZ Ru.ok l) (hc:aT c=true) (h:l.findIdx? (l9 c)=some k):
 ∃ n ys,ys.take n=(l.filter fun r=> !l9 c r).map Ru.t∧n≤ys.length∧iY env (M+1) (Yx (l.map Ru.t) c (.view 1 6 0 n) ys):=by
 obtain⟨m,rfl⟩:=dL (show 1≤M by omega)
 obtain⟨hk1,x0,hx0,hq0⟩:=QD _ h
 have hk:k < l.length:=(List.getElem?_eq_some_iff.1 hx0).1
 have hp:∀ r∈l,∀ K:T→aj (Ex×St),oN env (aK env (m+1)) (.fn 166 [] [.ref (i64 c)]) [r.t] K=K (.bool (l9 c r)):=fun r hr K=>(lS rfl).trans (aF (QX (hl.2 r hr) hc))
 have start:Bd Ru.t (l9 c) l (l.map Ru.t) k (k+1):=by
  have:Bd Ru.t (l9 c) l (l.map Ru.t) k k:=⟨by simp,Nat.le_refl _,by rw[hk1,List.map_take],by rw[List.map_drop]⟩
  exact this.skip hx0 hq0
 have step:∀ (L:List T) (i j:Nat),Bd Ru.t (l9 c) l L i j→j < l.length→∃ L' i',bU env (aK env (m+1)) (m+1) 164 2 5 (YF L (.fn 166 [] [.ref (i64 c)]) (i64 c) i j)= .ok (.norm,YF L' (.fn 166 [] [.ref (i64 c)]) (i64 c) (i':Nat) ((j+1:Nat):Int))∧Bd Ru.t (l9 c) l L' i' (j+1):=by
  intro L i j I hj
  have hx:l[j]? =some l[j]:=List.getElem?_eq_getElem hj
  have hL:=I.get hx
  have hjL:j < L.length:=by rw[I.len]; exact hj
  have hle:=I.le
  have hb:=hl.1
  have hget:L.getD j T.dR=l[j].t:=by rw[List.getD_eq_getElem?_getD,hL]; rfl
  rw[aaP,decide_eq_true (show(j:Int) < (L.length:Int) by omega),decide_eq_true (show(0:Int)≤(j:Int) by omega),decide_eq_true (show(0:Int)≤(i:Int) by omega),decide_eq_true (show(i:Int) < (L.length:Int) by omega)]
  simp only[Int.toNat_natCast,hget,cond_true,Bool.and_self,chk]
  rw[hp _ (List.getElem_mem _)]
  cases hq:l9 c l[j] with
  |true=>exact⟨L,i,by simp only[bT,Bool.not_true,cond_false,wrap_succ (show j≤big by omega)]; rfl,I.skip hx hq⟩
  |false=>exact⟨_,i+1,by simp only[bT,Bool.not_false,cond_true,wrap_succ (show j≤big by omega),wrap_succ (show i≤big by omega)]; rfl,I.keep hx hq⟩
 have loop:∀ (d:Nat) (L:List T) (i j n:Nat),Bd Ru.t (l9 c) l L i j→j+d=l.length→d < n→∃ L' i',bH (bU env (aK env (m+1)) (m+1) 164 2 5) n (YF L (.fn 166 [] [.ref (i64 c)]) (i64 c) i j)= .ok (.exit 0,⟨slots 42 [(0,.own 1),(5,.t (i64 (i':Nat)))],[.nD 3 1 (i64 c),.row 123 6 L']⟩)∧Bd Ru.t (l9 c) l L' i' l.length:=by
  intro d
  induction d with
  |zero=>
   intro L i j n I hj hn
   obtain⟨n,rfl⟩:=dL (show 1≤n by omega)
   obtain rfl:j=l.length:=by omega
   exact⟨L,i,eH (by rw[aaP,decide_eq_false (by rw[I.len]; omega)]; rfl),I⟩
  |succ d ih=>
   intro L i j n I hj hn
   obtain⟨n,rfl⟩:=dL (show 1≤n by omega)
   obtain⟨L',i',e,I'⟩:=step L i j I (by omega)
   obtain⟨L2,i2,e2,I2⟩:=ih L' i' (j+1) n I' (by omega) (by omega)
   exact⟨L2,i2,by rw[aW e]; exact e2,I2⟩
 have hb:=hl.1
 obtain⟨L',i',e,I'⟩:=loop (l.length - (k+1)) _ _ _ (m+1) start (by omega) (by omega)
 have htk:=I'.tk
 rw[List.take_of_length_le (Nat.le_refl _)] at htk
 have hle:=I'.le
 have hlen:=I'.len
 refine⟨i',fP L' i' (List.replicate (L'.length - i') (.agg [i64 0,i64 0,i64 0,i64 0,i64 0,i64 0])),?_,?_,fun β K=>?_⟩
 · rw[←htk,fP,List.append_assoc,List.take_append_of_le_length (by simp; omega),List.take_take,Nat.min_self]
 · simp[fP]; omega
 · show fQ env (aK env (m+1)) (m+1) _ _ _ K=_
   refine(anp (m+1) (l.map Ru.t) _ _ K).trans ?_
   rw[aF (Ea (q:=l9 c) (by omega) hl (gQ (lG (bg hc))) rfl fun r hr=>by obtain⟨m,rfl⟩:=dL (show 1≤m by omega); exact QX (hl.2 r hr) hc),h]
   have e1:((k:Int)== -1)=false:=beq_eq_false_iff_ne.2 (by omega)
   simp only[rV,T.plain,T.scalar,chk,cond_true,bW,e1,cond_false,wrap_succ (show k≤big by omega)]
   refine(jA (K:=K) e).trans ?_
   rw[Ov]
   simp only[Int.toNat_natCast,Nat.zero_add]
   have hsl:(fP L' i' (List.replicate (L'.length - i') (T.agg [i64 0,i64 0,i64 0,i64 0,i64 0,i64 0]))).length=L'.length:=by simp[fP]; omega
   rw[decide_eq_true (show(0:Int)≤(i':Int) by omega),decide_eq_true (show(i':Int)≤(L'.length:Int) by omega),decide_eq_true (show i'≤L'.length by omega),decide_eq_true (Nat.le_refl L'.length),hsl,decide_eq_true (show(i':Int)≤(L'.length:Int) by omega)]
   rfl
theorem UH {M:Nat} {l:List Ru} (hl:bZ Ru.ok l) (hb:l.length*48≤big):ak env (M+1) 165 [.sl 6 (l.map Ru.t)]= .ok (.sl 6 (l.map Ru.t)):=by
 have e:ak env (M+1) 165 [.sl 6 (l.map Ru.t)]=W [.sl 6 (l.map Ru.t)] (BZ 6 48 [.sl 6 (l.map Ru.t)]):=by kernel_rfl
 rw[e,aZ (gQ (dG (fun _ h=>Ru.ok.wf h) hl))]
 simp only[BZ,List.length_map,decide_eq_true hb]
 rfl
theorem KA {α:Type} {p:α→Prop} {l:List α} (h:bZ p l) (n:Nat):bZ p (l.take n):=⟨by have:=h.1; simp; omega,fun x hx=>h.2 x (List.mem_of_mem_take hx)⟩
theorem Zj {α:Type} {p:α→Prop} {l:List α} (h:bZ p l) (q:α→Bool):bZ p (l.filter q):=⟨Nat.le_trans (List.length_filter_le _ _) h.1,fun x hx=>h.2 x (List.mem_filter.1 hx).1⟩
theorem QT {M:Nat} {l:List Ru} {c:Int} (hM:big+4≤M) (hl:bZ Ru.ok l) (hb:l.length*48≤big) (hc:aT c=true):ak env (M+1) 130 [.sl 6 (l.map Ru.t),i64 c]= .ok (.sl 6 ((cu l c).map Ru.t)):=by
 obtain⟨m,rfl⟩:=dL (show 1≤M by omega)
 have hw:T.wfs [.sl 6 (l.map Ru.t),i64 c]=true:=dN (dG (fun _ h=>Ru.ok.wf h) hl) (bg hc)
 have hidx:=Ea (M:=m) (g:=162) (q:=yN c) (by omega) hl (gQ (lG (bg hc))) rfl fun r hr=>by obtain⟨m,rfl⟩:=dL (show 1≤m by omega); exact ahU (hl.2 r hr) hc (by omega)
 obtain⟨l',hl',ho',hb',hcl⟩:∃ l':List Ru,cu l c=l'.filter (fun r=> !l9 c r)∧bZ Ru.ok l'∧l'.length*48≤big∧∀ (ps:List Pin) (R:List T→aj T),
  (cl (m+1) 151 [T.sl 6 (l.map Ru.t),T.fn 162 [] [(i64 c).ref]] fun x=>iT IntKind.i64 x fun a=>bif decide (a≥0) then iT IntKind.i64 x fun a=>chk (decide (0≤IntKind.i64.wrap (a+1))&&decide (IntKind.i64.wrap (a+1)≤(↑(l.map Ru.t).length:Int))) (cl (m+1) 165 [T.sl 6 (List.drop 0 (List.take (IntKind.i64.wrap (a+1)).toNat (l.map Ru.t)))] fun x=>qW 6 x R) else cl (m+1) 165 [T.sl 6 (l.map Ru.t)] fun x=>qW 6 x R)=R (l'.map Ru.t):=by
  cases hk:l.findIdx? (yN c) with
  |none=>
   refine⟨l,by rw[cu,hk],hl,hb,fun _ R=>?_⟩
   rw[aF hidx,hk]
   simp only[bW,rV]
   rw[show decide ((-1:Int)≥0)=false from rfl,cond_false,aF (UH hl hb)]
   simp only[qW,if_true]
  |some k=>
   have hlt:k < l.length:=(List.findIdx?_eq_some_iff_getElem.1 hk).1
   have h1:=hl.1
   refine⟨l.take (k+1),by rw[cu,hk],KA hl _,by simp; omega,fun _ R=>?_⟩
   rw[aF hidx,hk]
   simp only[bW,rV,wrap_succ (show k≤big by omega)]
   rw[decide_eq_true (show(k:Int)≥0 by omega),decide_eq_true (show(0:Int)≤((k+1:Nat):Int) by omega),decide_eq_true (show((k+1:Nat):Int)≤(↑(l.map Ru.t).length:Int) by simp; omega)]
   simp only[cond_true,Bool.and_self,chk,List.drop_zero,Int.toNat_natCast,←List.map_take]
   rw[aF (UH (KA hl _) (by simp; omega))]
   simp only[qW,if_true]
 rw[hl']
 cases hk:l'.findIdx? (l9 c) with
 |none=>
  have hp:=abC (M:=m) (by omega) ho' hc hk
  refine lT (ps:=[Yx (l'.map Ru.t) c (.own 1) (l'.map Ru.t)]) ⟨hp,trivial⟩ hw rfl ?_
  refine(aoF (m+1) (l.map Ru.t) _ _ c).trans ?_
  rw[hcl [],bG,ab8 _ hk]
 |some k=>
  obtain⟨n,ys,h1,h2,hp⟩:=abD (M:=m) (by omega) ho' hc hk
  refine lT (ps:=[Yx (l'.map Ru.t) c (.view 1 6 0 n) ys]) ⟨hp,trivial⟩ hw rfl ?_
  refine(ai3 (m+1) (l.map Ru.t) _ _ c n).trans ?_
  rw[hcl [],bG,decide_eq_true h2,cond_true,h1]
end
section
open Go.RowKit Go.Proofs
section
variable {β:Type} {l:List Nat} {k:T} {es:List (T×T×Nat)} {Kn:aj β} {K:Nat→T→Nat→aj β}
theorem Bq (h:jg l k es 0=some none):eY l k es Kn K=Kn:=by rw[eY,h]
theorem ql {i b:Nat} {v:T} (h:jg l k es 0=some (some (i,v,b))):eY l k es Kn K=K i v b:=by rw[eY,h]
end
def iF (ks:List T):List (T×T×Nat):=ks.zipIdx.map fun p=>(p.1,i64 1,p.2)
theorem qx (ks:List T):(iF ks).length=ks.length:=by simp[iF]
theorem BH {ks:List T} {i:Nat} (h:i < ks.length):(iF ks)[i]? =some (ks[i],i64 1,i):=by simp[iF,h]
theorem DU (ks:List T) (k:T):iF (ks++ [k])=iF ks++ [(k,i64 1,ks.length)]:=by simp[iF,List.zipIdx_append]
theorem J7 {l:List Nat} {k:T}:∀ {es:List (T×T×Nat)} {j:Nat},(∀ e∈es,T.dZ l (k.flat l) (e.1.flat l)=some false)→jg l k es j=some none
 | [],_,_=>rfl
 |e::es,j,h=>by
  unfold jg
  rw[h e List.mem_cons_self]
  exact J7 fun e he=>h e (List.mem_cons_of_mem _ he)
theorem Gz {l:List Nat} {k:T}:∀ {es:List (T×T×Nat)} {j:Nat},(∀ e∈es,∃ b,T.dZ l (k.flat l) (e.1.flat l)=some b)→(∃ e∈es,T.dZ l (k.flat l) (e.1.flat l)=some true)→
 ∃ i e,es[i]? =some e∧T.dZ l (k.flat l) (e.1.flat l)=some true∧jg l k es j=some (some (j+i,e.2.1,e.2.2))∧∀ (x:T) (b:Nat),jg l k (es.set i (e.1,x,b)) j=some (some (j+i,x,b))
 | [],j,_,h=>by obtain⟨e,he,_⟩:=h; cases he
 |e::es,j,h1,h=>by
  obtain⟨b,hb⟩:=h1 e List.mem_cons_self
  cases b with
  |true=>
   refine⟨0,e,rfl,hb,by unfold jg; rw[hb]; rfl,fun x b=>?_⟩
   rw[List.set_cons_zero]
   unfold jg
   simp only[hb]
   rfl
  |false=>
   obtain⟨i,e',h2,h2',h3,h4⟩:=Gz (l:=l) (k:=k) (es:=es) (j:=j+1) (fun e he=>h1 e (List.mem_cons_of_mem _ he)) (by
    obtain⟨e',he',ht⟩:=h
    rcases List.mem_cons.1 he' with rfl|he'
    · rw[hb] at ht; cases ht
    · exact⟨e',he',ht⟩)
   refine⟨i+1,e',by simpa using h2,h2',?_,fun x b=>?_⟩
   · unfold jg; simp only[hb]; rw[h3,show j+1+i=j+(i+1) by omega]
   · rw[List.set_cons_succ]; unfold jg; simp only[hb]; rw[h4,show j+1+i=j+(i+1) by omega]
theorem WO {es:List (T×T×Nat)} {k x:T} (h:∀ e∈es,e.2.2 < es.length):iP (es++ [(k,x,es.length)]) (es.length:Int)=some es.length:=by
 unfold iP
 rw[List.findIdx?_append]
 have:es.findIdx? (fun e=>(e.2.2:Int)==(es.length:Int))=none:=by
  rw[List.findIdx?_eq_none_iff]
  intro e he
  have:=h e he
  rw[beq_eq_false_iff_ne]; omega
 rw[this]
 simp
theorem WM {ks:List T} {i:Nat} (h:i < ks.length):iP (iF ks) (i:Int)=some i:=by
 unfold iP
 rw[List.findIdx?_eq_some_iff_getElem]
 refine⟨by rw[qx]; exact h,by simp[iF],fun j hj=>?_⟩
 simp[iF]
 omega
theorem afJ {ks:List T}:∀ e∈iF ks,e.2.2 < (iF ks).length:=fun e he=>by
 obtain⟨i,hi,rfl⟩:=List.getElem_of_mem he
 rw[qx] at hi ⊢
 simp[iF]; exact hi
theorem Rf (x:Px):jv [0,0] x.t=true:=rfl
theorem afu (n:Int):jv [0] (i64 n)=true:=rfl
theorem Pg (x y:Px):T.dZ [0,0] (x.t.flat [0,0]) (y.t.flat [0,0])=some (decide (x=y)):=by
 have:T.dZ [0,0] (x.t.flat [0,0]) (y.t.flat [0,0])=some ((x.a==y.a)&&((x.n==y.n)&&true)):=rfl
 rw[this]
 congr 1
 rw[Bool.eq_iff_iff]
 cases x; cases y
 simp
theorem D9 (x y:Int):T.dZ [0] ((i64 x).flat [0]) ((i64 y).flat [0])=some (decide (x=y)):=by
 have:T.dZ [0] ((i64 x).flat [0]) ((i64 y).flat [0])=some ((x==y)&&true):=rfl
 rw[this]
 congr 1
 rw[Bool.eq_iff_iff]
 simp
theorem aan:(140737488355328:Nat)=big:=rfl
variable [Lv]
theorem XR {M:Nat} {n:Int} (h:aT n=true):ak env (M+1) 89 [i64 n]= .ok (.bool (rU n)):=by
 rw[q89,aZ (gQ (bg h)),jC]; rfl
theorem alJ {M:Nat} {n:Int} (h:aT n=true):ak env (M+1) 90 [i64 n]= .ok (.bool (holdB n)):=by
 rw[q90,aZ (gQ (bg h)),jC,Yu]; rfl
theorem aaw {M:Nat} {l:List Ru} {b:Bool} (hM:big+10≤M) (hl:bZ Ru.ok l):ak env (M+1) 126 [.sl 6 (l.map Ru.t),.bool b]= .ok (.bool (wX l b)):=by
 obtain⟨m,rfl⟩:=dL (show 1≤M by omega)
 obtain⟨m,rfl⟩:=dL (show 1≤m by omega)
 rw[aqT,aZ (dN (dG (fun _ h=>Ru.ok.wf h) hl) (AX b)),bD (aax (q:=fun r=> !pK r b) (by omega) hl (gQ (lG (AX b))) rfl fun r hr=>by
  obtain⟨m,rfl⟩:=dL (show 1≤m by omega)
  obtain⟨m,rfl⟩:=dL (show 1≤m by omega)
  rw[aro,aZ (dN (hl.2 r hr).wf (lG (AX b))),bD (ahT (hl.2 r hr) (by omega))]),jC,List.length_map]
 rfl
theorem alK {M:Nat} {s:Sd} (hM:big+11≤M) (h:s.ok):ak env (M+1) 91 [s.t]= .ok (.bool (oQ s)):=by
 obtain⟨m,rfl⟩:=dL (show 1≤M by omega)
 rw[q91,aZ (gQ h.wf),bD (XR h.a),bD (aaw (by omega) h.i),aF (aaw (by omega) h.o)]
 simp only[jC]
 rfl
theorem amk {M:Nat} {c:Cf} (hc:c.ok) (h2:c.w.length≤8) {i:Nat} {x:Px} (hx:c.w[i]? =some x) (hM:2≤M):
 aH env M 52 0 5 (Di c (iF ((c.w.take i).map Px.t)) i (i:Int))=if (c.w.take i).contains x=true∨dA x=false then .ok (.ret,⟨slots 98 [(2,.t (.bool false))],[]⟩)
  else .ok (.norm,Di c (iF ((c.w.take (i+1)).map Px.t)) (i+1) ((i+1:Nat):Int)):=by
 obtain⟨m,rfl⟩:=dL (show 1≤M by omega)
 have hi:i < c.w.length:=(List.getElem?_eq_some_iff.1 hx).1
 have hlen:((c.w.take i).map Px.t).length=i:=by simp; omega
 have hps:=yD (M:=m) (hc.w.2 x (List.mem_of_getElem? hx)) (by omega)
 have hes:(iF ((c.w.take i).map Px.t)).length=i:=by rw[qx,hlen]
 have hb:i≤140737488355328:=by omega
 rw[aju,decide_eq_true (show(i:Int) < ((c.w.map Px.t).length:Int) by simp; omega)]
 simp only[cond_true,aA (aC hx),Rf]
 have hch:∀ {β:Type} (r:aj β),chk (x.t.cells.length==2&& !x.t.aV) r=r:=fun r=>rfl
 have hct:∀ {β:Type} (r:aj β),chk true r=r:=fun r=>rfl
 rw[hch,hct]
 have hall:∀ e∈iF ((c.w.take i).map Px.t),∃ y,y∈c.w.take i∧e.1=y.t:=fun e he=>by
  obtain⟨j,hj,rfl⟩:=List.getElem_of_mem he
  rw[qx,hlen] at hj
  exact⟨(c.w.take i)[j]'(by simp; omega),List.getElem_mem _,by simp[iF]⟩
 by_cases hcon:(c.w.take i).contains x=true
 · rw[if_pos (.inl hcon)]
   obtain⟨j,e,g1,g0,g2,g3⟩:=Gz (l:=[0,0]) (k:=x.t) (es:=iF ((c.w.take i).map Px.t)) (j:=0) (fun e he=>by obtain⟨y,_,hy⟩:=hall e he; rw[hy]; exact⟨_,Pg x y⟩) (by
    have hm:x∈c.w.take i:=List.contains_iff_mem.1 hcon
    obtain⟨j,hj,e⟩:=List.getElem_of_mem hm
    refine⟨_,List.mem_of_getElem? (BH (ks:=(c.w.take i).map Px.t) (i:=j) (by simp at hj ⊢; omega)),?_⟩
    simp only[List.getElem_map,e]
    rw[Pg]; simp)
   have hj:j < ((c.w.take i).map Px.t).length:=by rw[←qx]; exact(List.getElem?_eq_some_iff.1 g1).1
   have he:=BH hj
   rw[g1] at he
   injection he with he
   subst he
   simp only[Nat.zero_add] at g2 g3
   rw[ql g2]
   simp only[bW,hct]
   rw[ql g2,decide_eq_true (show j≤140737488355328 by omega),hct,WM hj]
   simp only[aO,g1,hct]
   rw[ql (g3 _ _)]
   rfl
 · have hno:=J7 (l:=[0,0]) (k:=x.t) (es:=iF ((c.w.take i).map Px.t)) (j:=0) (fun e he=>by
    obtain⟨y,hy,e1⟩:=hall e he
    rw[e1,Pg,decide_eq_false]
    rintro rfl
    exact hcon (List.contains_iff_mem.2 hy))
   have hpu:∀ v,jg [0,0] x.t (iF ((c.w.take i).map Px.t)++ [(x.t,v,i)]) 0=some (some (i,v,i)):=fun v=>by
    have:=y9 (x:=v) (c:=i) (show T.dZ [0,0] (x.t.flat [0,0]) (x.t.flat [0,0])=some true by rw[Pg]; simp) hno
    rw[this,hes,Nat.zero_add]
   have hst:iP (iF ((c.w.take i).map Px.t)++ [(x.t,i64 0,i)]) (i:Int)=some i:=by
    have:=WO (k:=x.t) (x:=i64 0) (afJ (ks:=(c.w.take i).map Px.t))
    rw[hes] at this; exact this
   have hgt:(iF ((c.w.take i).map Px.t)++ [(x.t,i64 0,i)])[i]? =some (x.t,i64 0,i):=by
    rw[List.getElem?_append_right (by omega),hes]; simp
   have hset:(iF ((c.w.take i).map Px.t)++ [(x.t,i64 0,i)]).set i (x.t,i64 1,i)=iF ((c.w.take (i+1)).map Px.t):=by
    rw[take_succ' hx,List.map_append,List.map_cons,List.map_nil,DU,hlen,List.set_append_right _ _ (by omega),hes]; simp
   have hfi:jg [0,0] x.t (iF ((c.w.take (i+1)).map Px.t)) 0=some (some (i,i64 1,i)):=by
    rw[take_succ' hx,List.map_append,List.map_cons,List.map_nil,DU,hlen]; exact hpu _
   rw[Bq hno,hct,Bq hno,decide_eq_true hb,hct,hst]
   simp only[aO,hgt,hset,hct]
   rw[ql hfi]
   simp only[bW]
   rw[show decide ((1:Int) > 1)=false from rfl,cond_false,bD hps,wrap_succ (by rw[←aan]; exact hb)]
   cases hq:dA x with
   |true=>rw[if_neg (fun h=>h.elim hcon fun h=>by cases h)]; rfl
   |false=>rw[if_pos (.inr rfl)]; rfl
theorem ai8 {M:Nat} {c:Cf} (hc:c.ok) (h2:c.s.length≤8) {i:Nat} {x:Sd} (hx:c.s[i]? =some x) (hM:big+13≤M):
 aH env M 52 0 13 (uF c (iF ((c.a::(c.s.take i).map Sd.a).map i64)) (i+1) (i:Int))=if (c.a::(c.s.take i).map Sd.a).contains x.a=true∨oQ x=false then .ok (.ret,⟨slots 98 [(2,.t (.bool false))],[]⟩)
  else .ok (.norm,uF c (iF ((c.a::(c.s.take (i+1)).map Sd.a).map i64)) (i+1+1) ((i+1:Nat):Int)):=by
 obtain⟨m,rfl⟩:=dL (show 1≤M by omega)
 have hi:i < c.s.length:=(List.getElem?_eq_some_iff.1 hx).1
 have hlen:((c.a::(c.s.take i).map Sd.a).map i64).length=i+1:=by simp; omega
 have hps:=alK (M:=m) (s:=x) (by omega) (hc.s.2 x (List.mem_of_getElem? hx))
 have hes:(iF ((c.a::(c.s.take i).map Sd.a).map i64)).length=i+1:=by rw[qx,hlen]
 have hnext:(c.a::(c.s.take (i+1)).map Sd.a).map i64=(c.a::(c.s.take i).map Sd.a).map i64++ [i64 x.a]:=by rw[take_succ' hx]; simp
 have hk:x.t.ay 0 1 false=i64 x.a:=rfl
 rw[aeo,decide_eq_true (show(i:Int) < ((c.s.map Sd.t).length:Int) by simp; omega)]
 simp only[cond_true,aA (aC hx),hk,afu]
 have hch:∀ {β:Type} (r:aj β),chk (x.t.cells.length==4&& !x.t.aV) r=r:=fun r=>rfl
 have hct:∀ {β:Type} (r:aj β),chk true r=r:=fun r=>rfl
 rw[hch,hct]
 have hall:∀ e∈iF ((c.a::(c.s.take i).map Sd.a).map i64),∃ y,y∈c.a::(c.s.take i).map Sd.a∧e.1=i64 y:=fun e he=>by
  obtain⟨j,hj,rfl⟩:=List.getElem_of_mem he
  rw[qx,hlen] at hj
  exact⟨(c.a::(c.s.take i).map Sd.a)[j]'(by simp; omega),List.getElem_mem _,by simp only[iF,List.getElem_map,List.getElem_zipIdx]⟩
 by_cases hcon:(c.a::(c.s.take i).map Sd.a).contains x.a=true
 · rw[if_pos (.inl hcon)]
   obtain⟨j,e,g1,g0,g2,g3⟩:=Gz (l:=[0]) (k:=i64 x.a) (es:=iF ((c.a::(c.s.take i).map Sd.a).map i64)) (j:=0) (fun e he=>by obtain⟨y,_,hy⟩:=hall e he; rw[hy]; exact⟨_,D9 x.a y⟩) (by
    have hm:x.a∈c.a::(c.s.take i).map Sd.a:=List.contains_iff_mem.1 hcon
    obtain⟨j,hj,e⟩:=List.getElem_of_mem hm
    refine⟨_,List.mem_of_getElem? (BH (ks:=(c.a::(c.s.take i).map Sd.a).map i64) (i:=j) (by simp at hj ⊢; omega)),?_⟩
    simp only[List.getElem_map,e]
    rw[D9]; simp)
   have hj:j < ((c.a::(c.s.take i).map Sd.a).map i64).length:=by rw[←qx]; exact(List.getElem?_eq_some_iff.1 g1).1
   have he:=BH hj
   rw[g1] at he
   injection he with he
   subst he
   simp only[Nat.zero_add] at g2 g3
   rw[ql g2]
   simp only[bW,hct]
   rw[ql g2]
   have hky:((c.a::(c.s.take i).map Sd.a).map i64)[j]=i64 x.a:=by
    obtain⟨y,hy,e2⟩:=hall _ (List.mem_of_getElem? g1)
    simp only at e2 g0
    rw[e2,D9] at g0
    rw[e2]
    injection g0 with g0
    rw[of_decide_eq_true g0]
   rw[hky] at g3
   rw[ql (g3 _ _)]
   rfl
 · have hno:=J7 (l:=[0]) (k:=i64 x.a) (es:=iF ((c.a::(c.s.take i).map Sd.a).map i64)) (j:=0) (fun e he=>by
    obtain⟨y,hy,e1⟩:=hall e he
    rw[e1,D9,decide_eq_false]
    rintro rfl
    exact hcon (List.contains_iff_mem.2 hy))
   have hpu:jg [0] (i64 x.a) (iF ((c.a::(c.s.take i).map Sd.a).map i64)++ [(i64 x.a,i64 1,i+1)]) 0=some (some (i+1,i64 1,i+1)):=by
    have:=y9 (x:=i64 1) (c:=i+1) (show T.dZ [0] ((i64 x.a).flat [0]) ((i64 x.a).flat [0])=some true by rw[D9]; simp) hno
    rw[this,hes,Nat.zero_add]
   have hset:iF ((c.a::(c.s.take i).map Sd.a).map i64)++ [(i64 x.a,i64 1,i+1)]=iF ((c.a::(c.s.take (i+1)).map Sd.a).map i64):=by
    rw[hnext,DU,hlen]
   rw[Bq hno,hct,Bq hno,hct,ql hpu]
   simp only[bW]
   rw[show decide ((1:Int) > 1)=false from rfl,cond_false,bD hps,wrap_succ (by rw[←aan]; omega),hset]
   cases hq:oQ x with
   |true=>rw[if_neg (fun h=>h.elim hcon fun h=>by cases h)]; rfl
   |false=>rw[if_pos (.inr rfl)]; rfl
end
section
open Go.RowKit Go.Proofs
variable [Lv]
theorem DK {α κ:Type} [DecidableEq κ] {kf:α→κ} {q:α→Bool} {l:List α} {s0:List κ} {B:St→aj (Ex×St)} {S:Nat→St} {X R:St} {e:Nat}
 (h1:∀ i x,l[i]? =some x→B (S i)=if (s0++(l.take i).map kf).contains (kf x)=true∨q x=false then .ok (.ret,R) else .ok (.norm,S (i+1))) (h2:B (S l.length)= .ok (.exit e,X)):
 ∀ (d i n:Nat),i+d=l.length→d < n→bH B n (S i)=bif jh kf q (s0++(l.take i).map kf) (l.drop i) then .ok (.exit e,X) else .ok (.ret,R)
 |0,i,n,hi,hn=>by
  obtain⟨n,rfl⟩:=dL (show 1≤n by omega)
  obtain rfl:i=l.length:=by omega
  rw[eH h2,List.drop_length]; rfl
 |d+1,i,n,hi,hn=>by
  obtain⟨n,rfl⟩:=dL (show 1≤n by omega)
  have hlt:i < l.length:=by omega
  have hx:l[i]? =some l[i]:=List.getElem?_eq_getElem hlt
  have hb:=h1 i _ hx
  have ih:=DK h1 h2 d (i+1) n (by omega) (by omega)
  rw[take_succ' hx,List.map_append,←List.append_assoc,List.map_cons,List.map_nil] at ih
  rw[List.drop_eq_getElem_cons hlt]
  unfold jh
  by_cases hc:(s0++(l.take i).map kf).contains (kf l[i])=true
  · rw[if_pos (.inl hc)] at hb
    rw[eF hb,hc]; rfl
  · cases hq:q l[i] with
    |false=>
     rw[if_pos (.inr hq)] at hb
     rw[eF hb,Bool.and_comm]
     simp
    |true=>
     rw[if_neg (fun h=>h.elim hc fun h=>by rw[hq] at h; cases h)] at hb
     rw[aW hb,ih,eq_false_of_ne_true hc]; rfl
theorem Cb {M:Nat} {c:Cf} (hM:big+14≤M) (h:c.ok):ak env (M+1) 52 [c.t]= .ok (.bool (dF c)):=by
 obtain⟨m,rfl⟩:=dL (show 1≤M by omega)
 rw[q52,aZ (gQ h.wf),bD (XR h.a)]
 cases h1:rU c.a with
 |false=>rw[show dF c=false by simp[dF,h1]]; rfl
 |true=>
 simp only[Bool.not_true,cond_false]
 rw[bD (XR h.d)]
 cases h2:rU c.d with
 |false=>rw[show dF c=false by simp[dF,h2]]; rfl
 |true=>
 simp only[Bool.not_true,cond_false]
 rw[bD (alJ h.h)]
 cases h3:holdB c.h with
 |false=>rw[show dF c=false by simp[dF,h3]]; rfl
 |true=>
 simp only[Bool.not_true,cond_false]
 by_cases h4:c.k < 1
 · rw[decide_eq_true h4,show dF c=false by simp[dF,show ¬ 1≤c.k by omega]]; rfl
 rw[decide_eq_false h4,cond_false]
 by_cases h5:c.k > 1000
 · rw[decide_eq_true h5,show dF c=false by simp[dF,show ¬ c.k≤1000 by omega]]; rfl
 rw[decide_eq_false h5,cond_false]
 by_cases h6:c.w.length≤8
 case neg=>rw[decide_eq_true (by rw[List.length_map]; omega),show dF c=false by simp[dF,h6]]; rfl
 rw[decide_eq_false (by rw[List.length_map]; omega),cond_false]
 by_cases h7:c.s.length≤8
 case neg=>rw[decide_eq_true (by rw[List.length_map]; omega),show dF c=false by simp[dF,h7]]; rfl
 rw[decide_eq_false (by rw[List.length_map]; omega),cond_false]
 have hs:dF c=(jh id dA [] c.w&&jh Sd.a oQ [c.a] c.s):=by
  simp[dF,h1,h2,h3,h6,h7,show 1≤c.k by omega,show c.k≤1000 by omega]
 have l5:=DK (kf:=id) (q:=dA) (l:=c.w) (s0:=[]) (B:=aH env (m+1) 52 0 5) (S:=fun i=>Di c (iF ((c.w.take i).map Px.t)) i (i:Int))
  (X:=⟨slots 98 [(1,.ptr 0 0)],[.box 56 6 (.t c.t)]⟩) (R:=⟨slots 98 [(2,.t (.bool false))],[]⟩) (e:=0)
  (fun i x hx=>by rw[List.map_id,List.nil_append]; exact amk h h6 hx (by omega))
  (by rw[aju,decide_eq_false (by rw[List.length_map]; omega)]; rfl) c.w.length 0 (m+1) (by omega) (by omega)
 have l13:=DK (kf:=Sd.a) (q:=oQ) (l:=c.s) (s0:=[c.a]) (B:=aH env (m+1) 52 0 13) (S:=fun i=>uF c (iF ((c.a::(c.s.take i).map Sd.a).map i64)) (i+1) (i:Int))
  (X:=⟨slots 98 [],[]⟩) (R:=⟨slots 98 [(2,.t (.bool false))],[]⟩) (e:=2)
  (fun i x hx=>ai8 h h7 hx (by omega))
  (by rw[aeo,decide_eq_false (by rw[List.length_map]; omega)]; rfl) c.s.length 0 (m+1) (by omega) (by omega)
 simp only[List.take_zero,List.drop_zero,List.map_nil,List.append_nil] at l5 l13
 rw[hs]
 cases h8:jh id dA [] c.w with
 |false=>
  rw[h8] at l5
  refine(aU l5).trans ?_
  rw[ade]; rfl
 |true=>
 rw[h8] at l5
 refine(aU l5).trans ?_
 rw[Xg]
 refine Eq.trans (show _=bC env (m+1) 52 13 (uF c [(i64 c.a,i64 1,0)] 1 0) from rfl) ?_
 cases h9:jh Sd.a oQ [c.a] c.s with
 |false=>
  rw[h9] at l13
  refine(aU l13).trans ?_
  rw[Z5]; rfl
 |true=>
  rw[h9] at l13
  refine(aU l13).trans ?_
  rw[TQ]; rfl
theorem Kr {α:Type} {q:α→Bool} {l:List α} {B:St→aj (Ex×St)} {S:Nat→St} {X R:St} {e:Nat}
 (h1:∀ i x,l[i]? =some x→B (S i)=bif q x then .ok (.norm,S (i+1)) else .ok (.ret,R)) (h2:B (S l.length)= .ok (.exit e,X)):
 ∀ (d i n:Nat),i+d=l.length→d < n→bH B n (S i)=bif (l.drop i).all q then .ok (.exit e,X) else .ok (.ret,R)
 |0,i,n,hi,hn=>by
  obtain⟨n,rfl⟩:=dL (show 1≤n by omega)
  obtain rfl:i=l.length:=by omega
  rw[eH h2,List.drop_length]; rfl
 |d+1,i,n,hi,hn=>by
  obtain⟨n,rfl⟩:=dL (show 1≤n by omega)
  have hlt:i < l.length:=by omega
  have hx:l[i]? =some l[i]:=List.getElem?_eq_getElem hlt
  have hb:=h1 i _ hx
  have ih:=Kr h1 h2 d (i+1) n (by omega) (by omega)
  rw[List.drop_eq_getElem_cons hlt,List.all_cons]
  cases hq:q l[i] with
  |false=>rw[hq] at hb; rw[eF hb]; rfl
  |true=>rw[hq] at hb; rw[aW hb,ih]; rfl
theorem alk {M:Nat} {c:Cf} (hM:big+2≤M) (h:c.ok):ak env (M+1) 33 [c.t]= .ok (.bool (NW c)):=by
 rw[q33,aZ (gQ h.wf)]
 have hb:=h.s.1
 have l2:=Kr (q:=fun s:Sd=>decide (s.i.length≤20)&&decide (s.o.length≤20)) (l:=c.s) (B:=aH env M 33 0 2) (S:=fun i=>YG c (i:Int))
  (X:=⟨slots 39 [(1,.ptr 0 0)],[.box 56 6 (.t c.t)]⟩) (R:=⟨slots 39 [(2,.t (.bool false))],[]⟩) (e:=0)
  (fun i x hx=>by
   have hi:i < c.s.length:=(List.getElem?_eq_some_iff.1 hx).1
   have k2:x.t.ay 2 1 false= .sl 6 (x.i.map Ru.t):=rfl
   have k3:x.t.ay 3 1 false= .sl 6 (x.o.map Ru.t):=rfl
   rw[ajk,decide_eq_true (by rw[List.length_map]; omega)]
   simp only[cond_true,aA (aC hx),k2,k3,gY,List.length_map]
   by_cases h1:x.i.length≤20
   · by_cases h2:x.o.length≤20
     · rw[decide_eq_false (show ¬ (x.i.length:Int) > 20 by omega),decide_eq_false (show ¬ (x.o.length:Int) > 20 by omega),decide_eq_true h1,decide_eq_true h2,wrap_succ (show i≤big by omega)]; rfl
     · rw[decide_eq_false (show ¬ (x.i.length:Int) > 20 by omega),decide_eq_true (show(x.o.length:Int) > 20 by omega),decide_eq_true h1,decide_eq_false h2]; rfl
   · rw[decide_eq_true (show(x.i.length:Int) > 20 by omega),decide_eq_false h1]; rfl)
  (by rw[ajk,decide_eq_false (by rw[List.length_map]; omega)]; rfl) c.s.length 0 M (by omega) (by omega)
 rw[List.drop_zero] at l2
 unfold NW
 cases h8:c.s.all fun s=>decide (s.i.length≤20)&&decide (s.o.length≤20) with
 |false=>
  rw[h8] at l2
  refine(aU l2).trans ?_
  rw[ac6]; rfl
 |true=>
  rw[h8] at l2
  refine(aU l2).trans ?_
  rw[WX]
  simp only[List.length_map,Int.ofNat_le,show(20:Int)=((20:Nat):Int) from rfl,Bool.true_and]
  cases decide (c.w.length≤20)<;>rfl
end
section
open Go.RowKit Go.Proofs
theorem aI {β:Type} (r:aj β):chk true r=r:=rfl
theorem Lr {α κ:Type} [DecidableEq κ] {kf:α→κ} {q:α→Bool}:∀ {l:List α} {s:List κ},jh kf q s l=true→∀ x∈l,q x=true
 | [],_,_,x,hx=>by cases hx
 |y::l,s,h,x,hx=>by
  unfold jh at h
  simp only[Bool.and_eq_true] at h
  rcases List.mem_cons.1 hx with rfl|hx
  · exact h.2.1
  · exact Lr h.2.2 x hx
theorem sG {c:Cf} (h:dF c=true) {s:Sd} (hs:s∈c.s):oQ s=true:=by
 unfold dF at h
 simp only[Bool.and_eq_true] at h
 exact Lr h.2.2.2.2.2.2.2.2 s hs
end
section
open Go.RowKit Go.Proofs
variable [Lv]
def sIx (l:List Int) (n:Int) (i:Int):St:=⟨slots 19 [(0,.t (.sl 1 (ints l))),(1,.t (i64 n)),(7,.t (i64 (ints l).length)),(8,.t (i64 i))],[]⟩
def agQ (l:List Int) (f:T) (i:Int):St:=⟨slots 19 [(0,.t (.sl 1 (ints l))),(1,.t f),(7,.t (i64 (ints l).length)),(8,.t (i64 i))],[]⟩
theorem aqM (N:Nat) (c:Cf) (k:Int):ak env (N+1) 113 [c.t,i64 k]=W [c.t,i64 k] (bif decide (k≥0) then rB (decide (k < (↑(List.map Sd.t c.s).length:Int))) else rB false):=by kernel_rfl
theorem aqP (N:Nat) (c:Cf) (k:Int):ak env (N+1) 118 [c.t,i64 k]=W [c.t,i64 k] (iO N 113 [c.t,i64 k] fun b=>bif !b then rI 0 else bV (List.map Sd.t c.s) k fun e=>aj.ok (e.ay 1 1 false)):=by kernel_rfl
theorem ari (N:Nat) (a b:Int):ak env (N+1) 154 [i64 a,i64 b]=W [i64 a,i64 b] (bif a==0 then rI b else rI a):=by kernel_rfl
theorem arA (N:Nat) (a b c:Int):ak env (N+1) 175 [i64 a,i64 b,i64 c]=W [i64 a,i64 b,i64 c] (bif a==3 then bif a==3 then cl N 154 [i64 c,i64 b] fun x=>aj.ok (T.au [x,T.bool true]) else bif a==1 then bif c==0 then aj.ok (T.au [i64 0,T.bool true]) else aj.ok (T.au [i64 0,T.bool false]) else aj.ok (T.au [i64 0,T.bool false]) else bif a==2 then Gy N 154 [i64 c,i64 b] fun a_1=>bif a_1==b then cl N 154 [i64 c,i64 b] fun x=>aj.ok (T.au [x,T.bool true]) else bif a==1 then bif c==0 then aj.ok (T.au [i64 0,T.bool true]) else aj.ok (T.au [i64 0,T.bool false]) else aj.ok (T.au [i64 0,T.bool false]) else bif a==1 then bif c==0 then aj.ok (T.au [i64 0,T.bool true]) else aj.ok (T.au [i64 0,T.bool false]) else aj.ok (T.au [i64 0,T.bool false])):=by kernel_rfl
theorem aqQ (N:Nat) (a b c:Int):ak env (N+1) 120 [i64 a,i64 b,i64 c]=W [i64 a,i64 b,i64 c] (bif a==1 then bif a==1 then cl N 154 [i64 c,i64 b] fun x=>aj.ok (T.au [x,T.bool true]) else bif a==3 then bif c==0 then aj.ok (T.au [i64 0,T.bool true]) else aj.ok (T.au [i64 0,T.bool false]) else aj.ok (T.au [i64 0,T.bool false]) else bif a==2 then bif c==0 then cl N 154 [i64 c,i64 b] fun x=>aj.ok (T.au [x,T.bool true]) else bif a==3 then bif c==0 then aj.ok (T.au [i64 0,T.bool true]) else aj.ok (T.au [i64 0,T.bool false]) else aj.ok (T.au [i64 0,T.bool false]) else bif a==3 then bif c==0 then aj.ok (T.au [i64 0,T.bool true]) else aj.ok (T.au [i64 0,T.bool false]) else aj.ok (T.au [i64 0,T.bool false])):=by kernel_rfl
theorem arh (N:Nat) (r:Ru) (v:Vw):ak env (N+1) 153 [r.t,v.t]=W [r.t,v.t] (cl N 193 [r.t] fun x=>aG x 0 fun y=>aG x 1 fun y_1=>chk (y.cells.length==2&& !y.aV) (bT y_1 fun b=>bif b then oN env (aK env N) (y.ay 1 1 false) [r.t,v.t] fun r=>aj.ok r else rB false)):=by kernel_rfl
theorem arf (N:Nat) (r:Ru) (v:Vw):ak env (N+1) 152 [r.t,.ref v.t]=W [r.t,.ref v.t] (cl N 153 [r.t,v.t] fun x=>aj.ok x):=by kernel_rfl
theorem aqO (N:Nat) (l:List Ru) (v:Vw):ak env (N+1) 117 [.sl 6 (l.map Ru.t),v.t]=W [.sl 6 (l.map Ru.t),v.t] (cl N 151 [T.sl 6 (List.map Ru.t l),T.fn 152 [] [v.t.ref]] fun x=>iT IntKind.i64 x fun a=>bif decide (a < 0) then aj.ok (T.au [T.agg [i64 0,i64 0,i64 0,i64 0,i64 0,i64 0],T.bool false]) else pJ x fun i=>bV (List.map Ru.t l) i fun e=>chk (e.cells.length==6&& !e.aV) (aj.ok (T.au [e,T.bool true]))):=by kernel_rfl
theorem arz (N:Nat) (l:List Int) (n:Int):ak env (N+1) 173 [.sl 1 (ints l),i64 n]=W [.sl 1 (ints l),i64 n] (Gy N 199 [T.sl 1 (ints l),i64 n] fun a=>rB (decide (a≥0))):=by kernel_rfl
theorem arM (N:Nat) (l:List Int) (n:Int):ak env (N+1) 199 [.sl 1 (ints l),i64 n]=W [.sl 1 (ints l),i64 n] (bC env N 199 2 (sIx l n 0)):=by kernel_rfl
theorem arb (N:Nat) (p:Pa):ak env (N+1) 150 [p.t]=W [p.t] (iO N 191 [T.sl 1 (ints p.s),T.fn 192 [] []] fun b=>bif !b then bif decide ((↑(ints p.s).length:Int)≤255) then bif decide (p.o≥0) then bif decide (p.o≤2) then bif decide (p.h > 0) then bif decide (p.h≤4294967295) then bif decide (p.c≥0) then rB (decide (p.c≤4294967295)) else rB false else rB false else rB false else rB false else rB false else rB false else rB false):=by kernel_rfl
theorem arG (N:Nat) (n:Int):ak env (N+1) 192 [i64 n]=W [i64 n] (bif decide (n < 1) then rB true else rB (decide (n > 4294967295))):=by kernel_rfl
theorem q28 (N:Nat) (n:Int):ak env (N+1) 28 [i64 n]=W [i64 n] (aj.ok (T.agg [i64 400,i64 0,T.sl 1 [],i64 n,i64 0,i64 (-1)])):=by kernel_rfl
theorem aqN (N:Nat) (r:Rt):ak env (N+1) 114 [r.t]=W [r.t] (iO N 150 [r.p.t] fun b=>bif !b then rB false else bif decide ((↑(ints r.p.s).length:Int) > 32) then rB false else bif r.f== -1 then cl N 28 [i64 r.p.h] fun x=>cl N 27 [r.t,x] fun x=>aj.ok x else bif decide (r.f≥0) then bif decide (r.f≤7) then bif decide (r.n > 0) then rB (decide (r.n < 400)) else rB false else rB false else rB false):=by kernel_rfl
theorem q27 (N:Nat) (r q:Rt):ak env (N+1) 27 [r.t,q.t]=W [r.t,q.t] (Gy N 30 [r.t,q.t] fun a=>rB (a==0)):=by kernel_rfl
theorem aei (N:Nat) (l:List Int) (n i:Int):aH env N 199 0 2 (sIx l n i)=bif decide (i < (↑(ints l).length:Int)) then bV (ints l) i fun e=>iT IntKind.i64 e fun b=>bif n==b then aj.ok (Ex.ret,{tmps:=slots 19 [(4,PV.t (i64 i))],heap:=[]}) else aj.ok (Ex.norm,sIx l n (IntKind.i64.wrap (i+1))) else aj.ok (Ex.exit 0,{tmps:=slots 19 [],heap:=[]}):=by kernel_rfl
theorem ZU (N:Nat) (i:Int):aS env N 199 0 2 (aY env 199) (.ret) (⟨slots 19 [(4,.t (i64 i))],[]⟩)=rI i:=by kernel_rfl
theorem TI (N:Nat):aS env N 199 0 2 (aY env 199) (.exit 0) (⟨slots 19 [],[]⟩)=rI (-1):=by kernel_rfl
theorem arR (N:Nat) (l:List Int) (f:T):ak env (N+1) 209 [.sl 1 (ints l),f]=W [.sl 1 (ints l),f] (bC env N 209 2 (agQ l f 0)):=by kernel_rfl
theorem akV (N:Nat) (l:List Int) (f:T) (i:Int):aH env N 209 0 2 (agQ l f i)=bif decide (i < (↑(ints l).length:Int)) then bV (ints l) i fun e=>oN env (aK env N) f [e] fun r=>bT r fun v=>bif v then aj.ok (Ex.ret,{tmps:=slots 19 [(4,PV.t (i64 i))],heap:=[]}) else aj.ok (Ex.norm,agQ l f (IntKind.i64.wrap (i+1))) else aj.ok (Ex.exit 0,{tmps:=slots 19 [],heap:=[]}):=by kernel_rfl
theorem ZW (N:Nat) (i:Int):aS env N 209 0 2 (aY env 209) (.ret) (⟨slots 19 [(4,.t (i64 i))],[]⟩)=rI i:=by kernel_rfl
theorem TL (N:Nat):aS env N 209 0 2 (aY env 209) (.exit 0) (⟨slots 19 [],[]⟩)=rI (-1):=by kernel_rfl
theorem arF (N:Nat) (l:List Int) (f:T):ak env (N+1) 191 [.sl 1 (ints l),f]=W [.sl 1 (ints l),f] (Gy N 209 [T.sl 1 (ints l),f] fun a=>rB (decide (a≥0))):=by kernel_rfl
theorem ar0 (N:Nat) (r:Ru) (v:Vw):ak env (N+1) 219 [r.t,v.t]=W [r.t,v.t] (rB true):=by kernel_rfl
theorem ar2 (N:Nat) (r:Ru) (v:Vw):ak env (N+1) 221 [r.t,v.t]=W [r.t,v.t] (cl N 222 [r.x.t,v.x.t] fun x=>aj.ok x):=by kernel_rfl
theorem ar6 (N:Nat) (r:Ru) (v:Vw):ak env (N+1) 224 [r.t,v.t]=W [r.t,v.t] (cl N 173 [T.sl 1 (ints v.s),i64 r.v] fun x=>aj.ok x):=by kernel_rfl
theorem ar8 (N:Nat) (r:Ru) (v:Vw):ak env (N+1) 226 [r.t,v.t]=W [r.t,v.t] (rB (decide ((↑(ints v.s).length:Int) > r.v))):=by kernel_rfl
theorem asa (N:Nat) (r:Ru) (v:Vw):ak env (N+1) 228 [r.t,v.t]=W [r.t,v.t] (rB (v.c==r.v)):=by kernel_rfl
end
end Go.aP
