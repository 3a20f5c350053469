/- The texts of a proof, one behind the other: an interpreter and its soundness, what the functions of the program answer, and plain laws on that. -/
import Derived.Test.YtjlpnhpfbgbkhaaGreatX1
import Derived.Test.YtjlpnhpfbgbkhaaGreatK9
set_option linter.unusedVariables false
set_option linter.unusedSimpArgs false
set_option linter.unnecessarySimpa false
set_option linter.unusedSectionVars false
set_option maxRecDepth 100000
namespace Go.aT
section
open Go.RowKit Go.Proofs
variable [Lv]
theorem q89 (N:Nat) (n:Int):ak env (N+1) 89 [i64 n]=W [i64 n] (bif decide (n > 0) then rB (decide (n≤4294967295)) else rB false):=by kernel_rfl
theorem q90 (N:Nat) (n:Int):ak env (N+1) 90 [i64 n]=W [i64 n] (bif n==0 then rB true else bif decide (n≥3) then rB (decide (n≤65535)) else rB false):=by kernel_rfl
theorem arK (N:Nat) (l:List Ru) (b:Bool):ak env (N+1) 126 [.sl 6 (l.map Ru.t),.bool b]=W [.sl 6 (l.map Ru.t),.bool b] (bif decide ((↑(List.map Ru.t l).length:Int)≤8) then iw N 129 [T.sl 6 (List.map Ru.t l),T.fn 160 [] [(T.bool b).ref]] fun b=>rB !b else rB false):=by kernel_rfl
theorem asc (N:Nat) (r:Ru) (b:Bool):ak env (N+1) 160 [r.t,.ref (.bool b)]=W [r.t,.ref (.bool b)] (iw N 161 [r.t,T.bool b] fun b=>rB !b):=by kernel_rfl
theorem q91 (N:Nat) (s:Sd):ak env (N+1) 91 [s.t]=W [s.t] (iw N 89 [i64 s.a] fun b=>bif b then bif decide (s.r≥1) then bif decide (s.r≤3) then iw N 126 [T.sl 6 (List.map Ru.t s.i),T.bool true] fun b=>bif b then cl N 126 [T.sl 6 (List.map Ru.t s.o),T.bool false] fun x=>ah.ok x else rB false else rB false else rB false else rB false):=by kernel_rfl
def CJ (c:Cf) (es:List (T×T×Nat)) (k:Nat) (i:Int):St:=⟨slots 98 [(1,.ptr 0 0),(3,.mp 1),(49,.t (.sl 2 (c.w.map Px.t))),(50,.t (i64 (c.w.map Px.t).length)),(51,.t (i64 i))],[.box 56 6 (.t c.t),.map es k]⟩
def uo (c:Cf) (es:List (T×T×Nat)) (k:Nat) (i:Int):St:=⟨slots 98 [(6,.mp 0),(76,.t (.sl 4 (c.s.map Sd.t))),(77,.t (i64 (c.s.map Sd.t).length)),(78,.t (i64 i))],[.map es k]⟩
theorem q52 (N:Nat) (c:Cf):ak env (N+1) 52 [c.t]=W [c.t] (iw N 89 [i64 c.a] fun b=>bif !b then rB false else iw N 89 [i64 c.d] fun b=>bif !b then rB false else iw N 90 [i64 c.h] fun b=>bif !b then rB false else bif decide (c.k < 1) then rB false else bif decide (c.k > 1000) then rB false else bif decide ((↑(List.map Px.t c.w).length:Int) > 8) then rB false else bif decide ((↑(List.map Sd.t c.s).length:Int) > 8) then rB false else bC env N 52 5 (CJ c [] 0 0)):=by kernel_rfl
theorem ajO (N:Nat) (c:Cf) (es:List (T×T×Nat)) (k:Nat) (i:Int):aF env N 52 0 5 (CJ c es k i)=bif decide (i < (↑(List.map Px.t c.w).length:Int)) then bK (List.map Px.t c.w) i fun e=>chk (e.cells.length==2&& !e.aY) (chk (jB [0,0] e) (fA [0,0] e es (chk (jB [0,0] e) (fA [0,0] e es (chk (decide (k≤140737488355328)) (aS (iR (es++ [(e,i64 0,k)]) (↑k:Int)) fun jH=>match (es++ [(e,i64 0,k)])[jH]? with|some (NH,fst,b)=>chk (jB [0,0] e) (fA [0,0] e ((es++ [(e,i64 0,k)]).set jH (NH,i64 1,b)) (iw N 70 [e] fun b_1=>bif !b_1 then ah.ok (Ex.ret,{tmps:=slots 98 [(2,.t (.bool false))],heap:=[]}) else ah.ok (Ex.norm,CJ c ((es++ [(e,i64 0,k)]).set jH (NH,i64 1,b)) (k+1) (IntKind.i64.wrap (i+1)))) fun x v x_1=>iT IntKind.i64 v fun a=>bif decide (a > 1) then ah.ok (Ex.ret,{tmps:=slots 98 [(2,.t (.bool false))],heap:=[]}) else iw N 70 [e] fun b_1=>bif !b_1 then ah.ok (Ex.ret,{tmps:=slots 98 [(2,.t (.bool false))],heap:=[]}) else ah.ok (Ex.norm,CJ c ((es++ [(e,i64 0,k)]).set jH (NH,i64 1,b)) (k+1) (IntKind.i64.wrap (i+1))))|none=>ah.stuck)) fun x v b=>chk (decide (b≤140737488355328)) (aS (iR es (↑b:Int)) fun jH=>match es[jH]? with|some (NH,fst,b)=>chk (jB [0,0] e) (fA [0,0] e (es.set jH (NH,i64 1,b)) (iw N 70 [e] fun b_1=>bif !b_1 then ah.ok (Ex.ret,{tmps:=slots 98 [(2,.t (.bool false))],heap:=[]}) else ah.ok (Ex.norm,CJ c (es.set jH (NH,i64 1,b)) k (IntKind.i64.wrap (i+1)))) fun x v x_1=>iT IntKind.i64 v fun a=>bif decide (a > 1) then ah.ok (Ex.ret,{tmps:=slots 98 [(2,.t (.bool false))],heap:=[]}) else iw N 70 [e] fun b_1=>bif !b_1 then ah.ok (Ex.ret,{tmps:=slots 98 [(2,.t (.bool false))],heap:=[]}) else ah.ok (Ex.norm,CJ c (es.set jH (NH,i64 1,b)) k (IntKind.i64.wrap (i+1))))|none=>ah.stuck))) fun x v x_1=>iT IntKind.i64 v fun a=>chk (jB [0,0] e) (fA [0,0] e es (chk (decide (k≤140737488355328)) (aS (iR (es++ [(e,i64 0,k)]) (↑k:Int)) fun jH=>match (es++ [(e,i64 0,k)])[jH]? with|some (NH,fst,b)=>chk (jB [0,0] e) (fA [0,0] e ((es++ [(e,i64 0,k)]).set jH (NH,i64 (IntKind.i64.wrap (a+1)),b)) (iw N 70 [e] fun b_1=>bif !b_1 then ah.ok (Ex.ret,{tmps:=slots 98 [(2,.t (.bool false))],heap:=[]}) else ah.ok (Ex.norm,CJ c ((es++ [(e,i64 0,k)]).set jH (NH,i64 (IntKind.i64.wrap (a+1)),b)) (k+1) (IntKind.i64.wrap (i+1)))) fun x v x_2=>iT IntKind.i64 v fun a_1=>bif decide (a_1 > 1) then ah.ok (Ex.ret,{tmps:=slots 98 [(2,.t (.bool false))],heap:=[]}) else iw N 70 [e] fun b_1=>bif !b_1 then ah.ok (Ex.ret,{tmps:=slots 98 [(2,.t (.bool false))],heap:=[]}) else ah.ok (Ex.norm,CJ c ((es++ [(e,i64 0,k)]).set jH (NH,i64 (IntKind.i64.wrap (a+1)),b)) (k+1) (IntKind.i64.wrap (i+1))))|none=>ah.stuck)) fun x v b=>chk (decide (b≤140737488355328)) (aS (iR es (↑b:Int)) fun jH=>match es[jH]? with|some (NH,fst,b)=>chk (jB [0,0] e) (fA [0,0] e (es.set jH (NH,i64 (IntKind.i64.wrap (a+1)),b)) (iw N 70 [e] fun b_1=>bif !b_1 then ah.ok (Ex.ret,{tmps:=slots 98 [(2,.t (.bool false))],heap:=[]}) else ah.ok (Ex.norm,CJ c (es.set jH (NH,i64 (IntKind.i64.wrap (a+1)),b)) k (IntKind.i64.wrap (i+1)))) fun x v x_2=>iT IntKind.i64 v fun a_1=>bif decide (a_1 > 1) then ah.ok (Ex.ret,{tmps:=slots 98 [(2,.t (.bool false))],heap:=[]}) else iw N 70 [e] fun b_1=>bif !b_1 then ah.ok (Ex.ret,{tmps:=slots 98 [(2,.t (.bool false))],heap:=[]}) else ah.ok (Ex.norm,CJ c (es.set jH (NH,i64 (IntKind.i64.wrap (a+1)),b)) k (IntKind.i64.wrap (i+1))))|none=>ah.stuck)))) else ah.ok (Ex.exit 0,{tmps:=slots 98 [(1,.ptr 0 0)],heap:=[aj.box 56 6 (.t c.t)]}):=by kernel_rfl
theorem WU (N:Nat) (c:Cf):aP env N 52 0 5 (aW env 52) (.exit 0) (⟨slots 98 [(1,.ptr 0 0)],[.box 56 6 (.t c.t)]⟩)=chk (jB [0] (i64 c.a)) (fA [0] (i64 c.a) [] (bC env N 52 13 (uo c [(i64 c.a,i64 1,0)] 1 0)) fun i x b=>bC env N 52 13 (uo c [] 0 0)):=by kernel_rfl
theorem ac7 (N:Nat):aP env N 52 0 5 (aW env 52) (.ret) (⟨slots 98 [(2,.t (.bool false))],[]⟩)=rB false:=by kernel_rfl
theorem aer (N:Nat) (c:Cf) (es:List (T×T×Nat)) (k:Nat) (i:Int):aF env N 52 0 13 (uo c es k i)=bif decide (i < (↑(List.map Sd.t c.s).length:Int)) then bK (List.map Sd.t c.s) i fun e=>chk (e.cells.length==4&& !e.aY) (chk (jB [0] (e.ay 0 1 false)) (fA [0] (e.ay 0 1 false) es (chk (jB [0] (e.ay 0 1 false)) (fA [0] (e.ay 0 1 false) es (chk (jB [0] (e.ay 0 1 false)) (fA [0] (e.ay 0 1 false) (es++ [(e.ay 0 1 false,i64 1,k)]) (iw N 91 [e] fun b=>bif !b then ah.ok (Ex.ret,{tmps:=slots 98 [(2,.t (.bool false))],heap:=[]}) else ah.ok (Ex.norm,uo c (es++ [(e.ay 0 1 false,i64 1,k)]) (k+1) (IntKind.i64.wrap (i+1)))) fun x v x_1=>iT IntKind.i64 v fun a=>bif decide (a > 1) then ah.ok (Ex.ret,{tmps:=slots 98 [(2,.t (.bool false))],heap:=[]}) else iw N 91 [e] fun b=>bif !b then ah.ok (Ex.ret,{tmps:=slots 98 [(2,.t (.bool false))],heap:=[]}) else ah.ok (Ex.norm,uo c (es++ [(e.ay 0 1 false,i64 1,k)]) (k+1) (IntKind.i64.wrap (i+1))))) fun jH x b=>chk (jB [0] (e.ay 0 1 false)) (fA [0] (e.ay 0 1 false) (es.set jH (e.ay 0 1 false,i64 1,b)) (iw N 91 [e] fun b_1=>bif !b_1 then ah.ok (Ex.ret,{tmps:=slots 98 [(2,.t (.bool false))],heap:=[]}) else ah.ok (Ex.norm,uo c (es.set jH (e.ay 0 1 false,i64 1,b)) k (IntKind.i64.wrap (i+1)))) fun x v x_1=>iT IntKind.i64 v fun a=>bif decide (a > 1) then ah.ok (Ex.ret,{tmps:=slots 98 [(2,.t (.bool false))],heap:=[]}) else iw N 91 [e] fun b_1=>bif !b_1 then ah.ok (Ex.ret,{tmps:=slots 98 [(2,.t (.bool false))],heap:=[]}) else ah.ok (Ex.norm,uo c (es.set jH (e.ay 0 1 false,i64 1,b)) k (IntKind.i64.wrap (i+1)))))) fun x v x_1=>iT IntKind.i64 v fun a=>chk (jB [0] (e.ay 0 1 false)) (fA [0] (e.ay 0 1 false) es (chk (jB [0] (e.ay 0 1 false)) (fA [0] (e.ay 0 1 false) (es++ [(e.ay 0 1 false,i64 (IntKind.i64.wrap (a+1)),k)]) (iw N 91 [e] fun b=>bif !b then ah.ok (Ex.ret,{tmps:=slots 98 [(2,.t (.bool false))],heap:=[]}) else ah.ok (Ex.norm,uo c (es++ [(e.ay 0 1 false,i64 (IntKind.i64.wrap (a+1)),k)]) (k+1) (IntKind.i64.wrap (i+1)))) fun x v x_2=>iT IntKind.i64 v fun a_1=>bif decide (a_1 > 1) then ah.ok (Ex.ret,{tmps:=slots 98 [(2,.t (.bool false))],heap:=[]}) else iw N 91 [e] fun b=>bif !b then ah.ok (Ex.ret,{tmps:=slots 98 [(2,.t (.bool false))],heap:=[]}) else ah.ok (Ex.norm,uo c (es++ [(e.ay 0 1 false,i64 (IntKind.i64.wrap (a+1)),k)]) (k+1) (IntKind.i64.wrap (i+1))))) fun jH x b=>chk (jB [0] (e.ay 0 1 false)) (fA [0] (e.ay 0 1 false) (es.set jH (e.ay 0 1 false,i64 (IntKind.i64.wrap (a+1)),b)) (iw N 91 [e] fun b_1=>bif !b_1 then ah.ok (Ex.ret,{tmps:=slots 98 [(2,.t (.bool false))],heap:=[]}) else ah.ok (Ex.norm,uo c (es.set jH (e.ay 0 1 false,i64 (IntKind.i64.wrap (a+1)),b)) k (IntKind.i64.wrap (i+1)))) fun x v x_2=>iT IntKind.i64 v fun a_1=>bif decide (a_1 > 1) then ah.ok (Ex.ret,{tmps:=slots 98 [(2,.t (.bool false))],heap:=[]}) else iw N 91 [e] fun b_1=>bif !b_1 then ah.ok (Ex.ret,{tmps:=slots 98 [(2,.t (.bool false))],heap:=[]}) else ah.ok (Ex.norm,uo c (es.set jH (e.ay 0 1 false,i64 (IntKind.i64.wrap (a+1)),b)) k (IntKind.i64.wrap (i+1))))))) else ah.ok (Ex.exit 2,{tmps:=slots 98 [],heap:=[]}):=by kernel_rfl
theorem Tm (N:Nat):aP env N 52 0 13 (aW env 52) (.exit 2) (⟨slots 98 [],[]⟩)=rB true:=by kernel_rfl
theorem ZQ (N:Nat):aP env N 52 0 13 (aW env 52) (.ret) (⟨slots 98 [(2,.t (.bool false))],[]⟩)=rB false:=by kernel_rfl
def Yy (c:Cf) (i:Int):St:=⟨slots 39 [(1,.ptr 0 0),(3,.t (i64 i))],[.box 56 6 (.t c.t)]⟩
theorem q33 (N:Nat) (c:Cf):ak env (N+1) 33 [c.t]=W [c.t] (bC env N 33 2 (Yy c 0)):=by kernel_rfl
theorem ajE (N:Nat) (c:Cf) (i:Int):aF env N 33 0 2 (Yy c i)=bif decide (i < (↑(List.map Sd.t c.s).length:Int)) then bK (List.map Sd.t c.s) i fun e=>iO (e.ay 2 1 false) fun n=>bif decide (n > 20) then ah.ok (Ex.ret,{tmps:=slots 39 [(2,.t (.bool false))],heap:=[]}) else bK (List.map Sd.t c.s) i fun e=>iO (e.ay 3 1 false) fun n=>bif decide (n > 20) then ah.ok (Ex.ret,{tmps:=slots 39 [(2,.t (.bool false))],heap:=[]}) else ah.ok (Ex.norm,Yy c (IntKind.i64.wrap (i+1))) else ah.ok (Ex.exit 0,{tmps:=slots 39 [(1,.ptr 0 0)],heap:=[aj.box 56 6 (.t c.t)]}):=by kernel_rfl
theorem WH (N:Nat) (c:Cf):aP env N 33 0 2 (aW env 33) (.exit 0) (⟨slots 39 [(1,.ptr 0 0)],[.box 56 6 (.t c.t)]⟩)=bif decide ((↑(List.map Px.t c.w).length:Int)≤20) then rB (decide ((↑(List.map Sd.t c.s).length:Int)≤20)) else rB false:=by kernel_rfl
theorem ac1 (N:Nat):aP env N 33 0 2 (aW env 33) (.ret) (⟨slots 39 [(2,.t (.bool false))],[]⟩)=rB false:=by kernel_rfl
end
section
open Go.RowKit Go.Proofs
variable [Lv]
theorem q98 (N:Nat) (a n:Int):ak env (N+1) 98 [i64 a,i64 n]=W [i64 a,i64 n] (chk (decide (0≤IntKind.i64.wrap (32 - dh true [dh false [32] n] 0))) (chk (decide (0≤IntKind.i64.wrap (32 - dh true [dh false [32] n] 0))) (rI (IntKind.i64.wrap ((IntKind.i64.wrap (↑(BitVec.ofInt 64 a&&& BitVec.ofInt 64 4294967295).toNat:Int)).fdiv (2 ^ min (IntKind.i64.wrap (32 - dh true [dh false [32] n] 0)).toNat 64)*2 ^ min (IntKind.i64.wrap (32 - dh true [dh false [32] n] 0)).toNat 64))))):=by kernel_rfl
theorem q70 (N:Nat) (x:Px):ak env (N+1) 70 [x.t]=W [x.t] (bif decide (x.n≥0) then bif decide (x.n≤32) then DI N 98 [i64 x.a,i64 x.n] fun b=>rB (x.a==b) else rB false else rB false):=by kernel_rfl
theorem asV (N:Nat) (x y:Px):ak env (N+1) 222 [x.t,y.t]=W [x.t,y.t] (iw N 70 [x.t] fun b=>bif b then iw N 70 [y.t] fun b=>bif b then bif decide (x.n≤y.n) then DI N 98 [i64 y.a,i64 x.n] fun a=>rB (a==x.a) else rB false else rB false else rB false):=by kernel_rfl
theorem asQ (N:Nat) (r:Ru) (lo hi:Int):ak env (N+1) 218 [r.t,i64 lo,i64 hi]=W [r.t,i64 lo,i64 hi] (bif r.x.a==0&&(r.x.n==0&&true) then bif decide (r.v≥lo) then rB (decide (r.v≤hi)) else rB false else rB false):=by kernel_rfl
theorem ase (N:Nat) (r:Ru) (b:Bool):ak env (N+1) 161 [r.t,.bool b]=W [r.t,.bool b] (cl N 193 [r.t] fun x=>aG x 0 fun y=>aG x 1 fun y_1=>chk (y.cells.length==2&& !y.aY) (bT y_1 fun b_1=>bif !b_1 then rB false else oJ env (aJ env N) (y.ay 0 1 false) [r.t] fun r_1=>bT r_1 fun b_2=>bif !b_2 then rB false else bif b then bif r.m==4 then rB false else bif r.a==0 then rB (r.n==0) else bif r.a==1 then bif !b then rB (r.n==0) else rB false else bif r.a==2 then bif b then bif decide (r.n > 0) then rB (decide (r.n < 400)) else rB false else rB false else bif r.a==3 then bif !b then bif decide (r.n > 0) then rB (decide (r.n≤8)) else rB false else rB false else rB false else bif r.a==0 then rB (r.n==0) else bif r.a==1 then bif !b then rB (r.n==0) else rB false else bif r.a==2 then bif b then bif decide (r.n > 0) then rB (decide (r.n < 400)) else rB false else rB false else bif r.a==3 then bif !b then bif decide (r.n > 0) then rB (decide (r.n≤8)) else rB false else rB false else rB false)):=by kernel_rfl
theorem asy (N:Nat) (r:Ru):ak env (N+1) 193 [r.t]=W [r.t] (bif decide (r.m < 0) then ah.ok (T.au [T.agg [T.mW,T.mW],T.bool false]) else bif decide (r.m≥5) then ah.ok (T.au [T.agg [T.mW,T.mW],T.bool false]) else cl N 210 [] fun x=>chk (decide (0≤r.m)&&decide (r.m < 5)) (chk (x.cells.length==10&& !x.aY&&true&&decide (r.m.toNat*2+2≤10)) (chk ((x.ay (r.m.toNat*2) 2 true).cells.length==2&& !(x.ay (r.m.toNat*2) 2 true).aY) (ah.ok (T.au [x.ay (r.m.toNat*2) 2 true,T.bool true]))))):=by kernel_rfl
theorem asJ (N:Nat):ak env (N+1) 210 []=W [] (ah.ok (T.agg [T.fn 217 [] [],T.fn 219 [] [],T.fn 220 [] [],T.fn 221 [] [],T.fn 223 [] [],T.fn 224 [] [],T.fn 225 [] [],T.fn 226 [] [],T.fn 227 [] [],T.fn 228 [] []])):=by kernel_rfl
theorem asP (N:Nat) (r:Ru):ak env (N+1) 217 [r.t]=W [r.t] (cl N 218 [r.t,i64 0,i64 0] fun x=>ah.ok x):=by kernel_rfl
theorem asT (N:Nat) (r:Ru):ak env (N+1) 220 [r.t]=W [r.t] (iw N 70 [r.x.t] fun b=>bif b then rB (r.v==0) else rB false):=by kernel_rfl
theorem asW (N:Nat) (r:Ru):ak env (N+1) 223 [r.t]=W [r.t] (cl N 218 [r.t,i64 1,i64 4294967295] fun x=>ah.ok x):=by kernel_rfl
theorem asY (N:Nat) (r:Ru):ak env (N+1) 225 [r.t]=W [r.t] (cl N 218 [r.t,i64 0,i64 32] fun x=>ah.ok x):=by kernel_rfl
theorem as1 (N:Nat) (r:Ru):ak env (N+1) 227 [r.t]=W [r.t] (cl N 218 [r.t,i64 0,i64 3] fun x=>ah.ok x):=by kernel_rfl
def ag2 (l:List Ru) (f:T) (i:Int):St:=⟨slots 19 [(0,.t (.sl 6 (l.map Ru.t))),(1,.t f),(7,.t (i64 (l.map Ru.t).length)),(8,.t (i64 i))],[]⟩
theorem ar4 (N:Nat) (l:List Ru) (f:T):ak env (N+1) 151 [.sl 6 (l.map Ru.t),f]=W [.sl 6 (l.map Ru.t),f] (bC env N 151 2 (ag2 l f 0)):=by kernel_rfl
theorem alo (N:Nat) (l:List Ru) (f:T) (i:Int):aF env N 151 0 2 (ag2 l f i)=bif decide (i < (↑(List.map Ru.t l).length:Int)) then bK (List.map Ru.t l) i fun e=>oJ env (aJ env N) f [e] fun r=>bT r fun v=>bif v then ah.ok (Ex.ret,{tmps:=slots 19 [(4,.t (i64 i))],heap:=[]}) else ah.ok (Ex.norm,ag2 l f (IntKind.i64.wrap (i+1))) else ah.ok (Ex.exit 0,{tmps:=slots 19 [],heap:=[]}):=by kernel_rfl
theorem ZG (N:Nat) (i:Int):aP env N 151 0 2 (aW env 151) (.ret) (⟨slots 19 [(4,.t (i64 i))],[]⟩)=rI i:=by kernel_rfl
theorem SN (N:Nat):aP env N 151 0 2 (aW env 151) (.exit 0) (⟨slots 19 [],[]⟩)=rI (-1):=by kernel_rfl
theorem arL (N:Nat) (l:List Ru) (f:T):ak env (N+1) 129 [.sl 6 (l.map Ru.t),f]=W [.sl 6 (l.map Ru.t),f] (DI N 151 [T.sl 6 (List.map Ru.t l),f] fun a=>rB (decide (a≥0))):=by kernel_rfl
def Yx (l:List T) (f x:T) (i j:Int):St:=⟨slots 42 [(0,.own 1),(1,.t f),(5,.t (i64 i)),(6,.t (i64 j))],[.ng 3 1 x,.row 123 6 l]⟩
def Yk (l:List T) (c:Int) (r:PV) (l':List T):Pin:=⟨164,[.own 1,.t (.fn 166 [] [.ref (i64 c)])],[.ng 3 1 (i64 c),.row 123 6 l],r,[.ng 3 1 (i64 c),.row 123 6 l']⟩
end
section
open Go.RowKit
def Fq (b:Int):Int:=IntKind.i64.wrap (32 - dh true [dh false [32] b] 0)
def Ak (a b:Int):Int:=IntKind.i64.wrap (Int.fdiv (IntKind.i64.wrap ((BitVec.toNat (BitVec.ofInt 64 a&&& BitVec.ofInt 64 4294967295):Nat):Int)) (2 ^ min (Int.toNat (Fq b)) 64)*2 ^ min (Int.toNat (Fq b)) 64)
theorem Qa (b:Int):Fq b=32 - max 0 (min b 32):=by
 unfold Fq
 have h:dh true [dh false [32] b] 0=max 0 (min b 32):=by
  simp only[dh,cond_true,cond_false]
  split<;>split<;>omega
 rw[h,wrap64 (by omega)]
def dB (x:Px):Bool:=decide (x.n≥0)&&(decide (x.n≤32)&&(x.a==Ak x.a x.n))
def ab8 (x y:Px):Bool:=dB x&&(dB y&&(decide (x.n≤y.n)&&(Ak y.a x.n==x.a)))
def vZ (r:Ru) (lo hi:Int):Bool:=(r.x.a==0&&(r.x.n==0&&true))&&(decide (r.v≥lo)&&decide (r.v≤hi))
def jG (r:Ru):Bool:=if r.m=0 then vZ r 0 0 else if r.m=1 then dB r.x&&(r.v==0) else if r.m=2 then vZ r 1 4294967295 else if r.m=3 then vZ r 0 32 else if r.m=4 then vZ r 0 3 else false
def FN (r:Ru) (b:Bool):Bool:=if r.a=0 then r.n==0 else if r.a=1 then !b&&(r.n==0) else if r.a=2 then b&&(decide (r.n > 0)&&decide (r.n < 400)) else if r.a=3 then !b&&(decide (r.n > 0)&&decide (r.n≤8)) else false
def pG (r:Ru) (b:Bool):Bool:=jG r&&(!(b&&(r.m==4))&&FN r b)
def yE (c:Int) (r:Ru):Bool:=(r.m==0)||((r.m==4)&&(r.v==c))
def lY (c:Int) (r:Ru):Bool:=(r.m==4)&&(r.v !=c)
def bP (l:List Ru) (c:Int):List Ru:=((match l.findIdx? (yE c) with|some k=>l.take (k+1)|none=>l).filter fun r=> !lY c r)
def rG (n:Int):Bool:=decide (n > 0)&&decide (n≤4294967295)
def holdB (n:Int):Bool:=(n==0)||(decide (n≥3)&&decide (n≤65535))
def uI (l:List Ru) (b:Bool):Bool:=decide ((l.length:Int)≤8)&& !(l.any fun r=> !pG r b)
def nY (s:Sd):Bool:=rG s.a&&(decide (s.r≥1)&&(decide (s.r≤3)&&(uI s.i true&&uI s.o false)))
def ji {α κ:Type} [DecidableEq κ] (k:α→κ) (q:α→Bool):List κ→List α→Bool
 |_,[]=>true
 |seen,x::l=> !(seen.contains (k x))&&(q x&&ji k q (seen++ [k x]) l)
def dH (c:Cf):Bool:=rG c.a&&(rG c.d&&(holdB c.h&&(decide (1≤c.k)&&(decide (c.k≤1000)&&(decide (c.w.length≤8)&&(decide (c.s.length≤8)&&
 (ji id dB [] c.w&&ji Sd.a nY [c.a] c.s)))))))
def Nu (c:Cf):Bool:=c.s.all (fun s=>decide (s.i.length≤20)&&decide (s.o.length≤20))&&(decide (c.w.length≤20)&&decide (c.s.length≤20))
def idxOf (c:Cf) (n:Int):Option Nat:=c.s.findIdx? fun s=>s.a==n
def eP (c:Cf) (n:Int):Int:=((idxOf c n).getD 0:Nat)
def nX (b:Bool) (w:Option Ru) (l:List Ru):Option Ru:=l.foldl (fun w r=>if r.a=2 then(match w with|none=>some r|some v=>if decide (r.n < v.n)==b then some r else some v) else w) w
def Ye (c:Cf) (k:Int):Option Ru:=c.s.foldl (fun w s=>if s.r=k then nX true w (bP s.i k) else w) none
def Ce (c:Cf) (k:Int):Option Int:=if k=0 then some 400 else(Ye c k).map (·.n)
def lq (c:Cf) (k:Int):Option Int:=if 0≤k then(match c.s[k.toNat]? with|some s=>(nX false none (bP s.i s.r)).map (·.n)|none=>none) else none
def zI (c:Cf) (k n:Int):Bool:=if 0≤k then(match c.s[k.toNat]? with|some s=>(bP s.o n).any (fun r=>r.a !=0)|none=>false) else false
def sN (a:Cf) (h:Option Int) (k n:Int):Bool:=(Ce a n).isSome&&(h.isSome&&(decide (h.getD 0 > (Ce a n).getD 0)&&zI a k n))
def uG (a b:Cf):Bool:=dH a&&(dH b&&((idxOf a b.a).isSome&&((idxOf b a.a).isSome&& !([0,1,2,3].any (sN a (lq b (eP b a.a)) (eP a b.a))))))
end
section
open Go.RowKit Go.Proofs
theorem jE (a b:Bool):(bif a then rB b else rB false)=rB (a&&b):=by cases a<;>rfl
theorem Yh (a b:Bool):(bif a then rB true else rB b)=rB (a||b):=by cases a<;>rfl
theorem dJ {M:Nat} (h:1≤M):∃ m,M=m+1:=⟨M - 1,by omega⟩
theorem Aw (b:Bool):(T.bool b).wf=true:=rfl
theorem lC {x:T} (h:x.wf=true):(T.ref x).wf=true:=by simpa[T.wf] using h
theorem wV {f:FuncId} {xs:List T} (h:T.wfs xs=true):(T.fn f [] xs).wf=true:=by simp[T.wf,T.wfs,h]
variable [Lv]
theorem lN {β:Type} {N:Nat} {g:FuncId} {fs ts cs:List T} {K:T→ah β} (h:env.mode g=0):oJ env (aJ env N) (.fn g fs cs) ts K=cl N g (fs++ts++cs) K:=by simp[oJ,h,cl,aJ]
theorem aeR {M:Nat} {a b:Int} (ha:aV a=true) (hb:aV b=true):ak env (M+1) 98 [i64 a,i64 b]= .ok (i64 (Ak a b)):=by
 rw[q98,aX (dM (aZ ha) (aZ hb))]
 have h:decide (0≤IntKind.i64.wrap (32 - dh true [dh false [32] b] 0))=true:=decide_eq_true (by have:=Qa b; unfold Fq at this; rw[this]; omega)
 simp only[h,chk,cond_true]
 rfl
theorem x9 {M:Nat} {x:Px} (h:x.ok) (hM:1≤M):ak env (M+1) 70 [x.t]= .ok (.bool (dB x)):=by
 obtain⟨m,rfl⟩:=dJ hM
 rw[q70,aX (gJ h.wf),nG (aeR h.a h.n)]
 simp only[jE]
 rfl
theorem aiC {M:Nat} {x y:Px} (h:x.ok) (h':y.ok) (hM:2≤M):ak env (M+1) 222 [x.t,y.t]= .ok (.bool (ab8 x y)):=by
 obtain⟨m,rfl⟩:=dJ (show 1≤M by omega)
 rw[asV,aX (dM h.wf h'.wf),bJ (x9 h (by omega)),bJ (x9 h' (by omega)),nG (aeR h'.a h.n)]
 simp only[jE]
 rfl
theorem aiB {M:Nat} {r:Ru} {lo hi:Int} (h:r.ok) (hl:aV lo=true) (hh:aV hi=true):ak env (M+1) 218 [r.t,i64 lo,i64 hi]= .ok (.bool (vZ r lo hi)):=by
 rw[asQ,aX (yG h.wf (aZ hl) (aZ hh))]
 simp only[jE]
 rfl
def Cc (m:Int):T:=if m=0 then .agg [.fn 217 [] [],.fn 219 [] []] else if m=1 then .agg [.fn 220 [] [],.fn 221 [] []] else if m=2 then .agg [.fn 223 [] [],.fn 224 [] []] else if m=3 then .agg [.fn 225 [] [],.fn 226 [] []] else if m=4 then .agg [.fn 227 [] [],.fn 228 [] []] else .agg [.mW,.mW]
def inK (m:Int):Bool:=decide (0≤m)&&decide (m < 5)
theorem Dl (m:Int):(inK m=false∧(m < 0∨m≥5)∧m≠0∧m≠1∧m≠2∧m≠3∧m≠4)∨m=0∨m=1∨m=2∨m=3∨m=4:=by
 unfold inK
 by_cases h:0≤m∧m < 5
 · right; omega
 · left
   refine⟨?_,by omega,by omega,by omega,by omega,by omega,by omega⟩
   rcases(show m < 0∨0≤m by omega) with h1|h1
   · rw[decide_eq_false (by omega)]; rfl
   · rw[decide_eq_false (show ¬ m < 5 by omega)]; simp
theorem aat {M:Nat} {r:Ru} (h:r.ok) (hM:1≤M):ak env (M+1) 193 [r.t]= .ok (.au [Cc r.m,.bool (inK r.m)]):=by
 obtain⟨m,rfl⟩:=dJ hM
 rw[asy,aX (gJ h.wf),aH (show ak env (m+1) 210 []=_ from by rw[asJ,aX rfl])]
 rcases Dl r.m with ⟨h1,h2,h3,h4,h5,h6,h7⟩|h1|h1|h1|h1|h1
 · rw[h1,Cc,if_neg h3,if_neg h4,if_neg h5,if_neg h6,if_neg h7]
   rcases h2 with h2|h2
   · rw[decide_eq_true h2]; rfl
   · rw[decide_eq_true h2]; cases decide (r.m < 0)<;>rfl
 all_goals (rw[h1]; rfl)
theorem ao0 {p:Prop} [Decidable p] {a b:Bool}:(if p then rB a else rB b)=rB (if p then a else b):=by split<;>rfl
theorem aac {n k:Int} {β:Type} {x y:β}:(bif n==k then x else y)=if n=k then x else y:=by
 by_cases h:n=k
 · rw[if_pos h,beq_iff_eq.2 h]; rfl
 · rw[if_neg h,beq_eq_false_iff_ne.2 h]; rfl
theorem aia {M:Nat} {r:Ru} {b:Bool} (h:r.ok) (hM:4≤M):ak env (M+1) 161 [r.t,.bool b]= .ok (.bool (pG r b)):=by
 obtain⟨m,rfl⟩:=dJ (show 1≤M by omega)
 obtain⟨m,rfl⟩:=dJ (show 1≤m by omega)
 rw[ase,aX (dM h.wf (Aw b)),aH (aat h (by omega))]
 have num:∀ lo hi,aV lo=true→aV hi=true→ak env (m+1) 218 [r.t,i64 lo,i64 hi]= .ok (.bool (vZ r lo hi)):=fun lo hi a c=>aiB h a c
 have act:∀ (t:ah T) (q:Bool),(bif !q then rB false else t)=rB (q&&(!(b&&(r.m==4))&&FN r b))↔q=false∨t=rB (!(b&&(r.m==4))&&FN r b):=fun t q=>by cases q<;>simp
 have rest:∀ q:Bool,(bif !q then rB false else bif b then bif r.m==4 then rB false else bif r.a==0 then rB (r.n==0) else bif r.a==1 then bif !b then rB (r.n==0) else rB false else bif r.a==2 then bif b then bif decide (r.n > 0) then rB (decide (r.n < 400)) else rB false else rB false else bif r.a==3 then bif !b then bif decide (r.n > 0) then rB (decide (r.n≤8)) else rB false else rB false else rB false else bif r.a==0 then rB (r.n==0) else bif r.a==1 then bif !b then rB (r.n==0) else rB false else bif r.a==2 then bif b then bif decide (r.n > 0) then rB (decide (r.n < 400)) else rB false else rB false else bif r.a==3 then bif !b then bif decide (r.n > 0) then rB (decide (r.n≤8)) else rB false else rB false else rB false)=rB (q&&(!(b&&(r.m==4))&&FN r b)):=fun q=>by
  cases q with
  |false=>rfl
  |true=>
   simp only[Bool.not_true,cond_false,jE,aac,ao0,Bool.true_and]
   unfold FN
   cases b with
   |true=>
    simp only[cond_true,Bool.true_and,Bool.not_true,Bool.false_and]
    by_cases h4:r.m=4
    · simp[h4]
    · simp[h4]
   |false=>simp only[cond_false,Bool.false_and,Bool.not_false,Bool.true_and]
 rcases Dl r.m with ⟨h1,h2,h3,h4,h5,h6,h7⟩|h1|h1|h1|h1|h1
 · have:pG r b=false:=by unfold pG jG; rw[if_neg h3,if_neg h4,if_neg h5,if_neg h6,if_neg h7]; rfl
   rw[this,h1,Cc,if_neg h3,if_neg h4,if_neg h5,if_neg h6,if_neg h7]
   rfl
 · have hm:jG r=vZ r 0 0:=by unfold jG; rw[if_pos h1]
   have hk:ak env (m+1+1) 217 [r.t]= .ok (.bool (vZ r 0 0)):=by rw[asP,aX (gJ h.wf),aH (num _ _ (by decide) (by decide))]
   have e:∀ K:T→ah T,oJ env (aJ env (m+1+1)) (T.ay (Cc 0) 0 1 false) [r.t] K=K (.bool (vZ r 0 0)):=fun K=>(lN (g:=217) (fs:=[]) (cs:=[]) rfl).trans (aH hk)
   have hr:=rest (jG r)
   rw[hm] at hr
   show _=rB (jG r&&_)
   rw[hm,←hr]
   rw[h1]
   exact e _
 · have hm:jG r=(dB r.x&&(r.v==0)):=by unfold jG; rw[if_neg (by omega),if_pos h1]
   have hk:ak env (m+1+1) 220 [r.t]= .ok (.bool (dB r.x&&(r.v==0))):=by rw[asT,aX (gJ h.wf),bJ (x9 h.x (by omega)),jE]
   have e:∀ K:T→ah T,oJ env (aJ env (m+1+1)) (T.ay (Cc 1) 0 1 false) [r.t] K=K (.bool (dB r.x&&(r.v==0))):=fun K=>(lN (g:=220) (fs:=[]) (cs:=[]) rfl).trans (aH hk)
   have hr:=rest (jG r)
   rw[hm] at hr
   show _=rB (jG r&&_)
   rw[hm,←hr]
   rw[h1]
   exact e _
 · have hm:jG r=vZ r 1 4294967295:=by unfold jG; rw[if_neg (by omega),if_neg (by omega),if_pos h1]
   have hk:ak env (m+1+1) 223 [r.t]= .ok (.bool (vZ r 1 4294967295)):=by rw[asW,aX (gJ h.wf),aH (num _ _ (by decide) (by decide))]
   have e:∀ K:T→ah T,oJ env (aJ env (m+1+1)) (T.ay (Cc 2) 0 1 false) [r.t] K=K (.bool (vZ r 1 4294967295)):=fun K=>(lN (g:=223) (fs:=[]) (cs:=[]) rfl).trans (aH hk)
   have hr:=rest (jG r)
   rw[hm] at hr
   show _=rB (jG r&&_)
   rw[hm,←hr]
   rw[h1]
   exact e _
 · have hm:jG r=vZ r 0 32:=by unfold jG; rw[if_neg (by omega),if_neg (by omega),if_neg (by omega),if_pos h1]
   have hk:ak env (m+1+1) 225 [r.t]= .ok (.bool (vZ r 0 32)):=by rw[asY,aX (gJ h.wf),aH (num _ _ (by decide) (by decide))]
   have e:∀ K:T→ah T,oJ env (aJ env (m+1+1)) (T.ay (Cc 3) 0 1 false) [r.t] K=K (.bool (vZ r 0 32)):=fun K=>(lN (g:=225) (fs:=[]) (cs:=[]) rfl).trans (aH hk)
   have hr:=rest (jG r)
   rw[hm] at hr
   show _=rB (jG r&&_)
   rw[hm,←hr]
   rw[h1]
   exact e _
 · have hm:jG r=vZ r 0 3:=by unfold jG; rw[if_neg (by omega),if_neg (by omega),if_neg (by omega),if_neg (by omega),if_pos h1]
   have hk:ak env (m+1+1) 227 [r.t]= .ok (.bool (vZ r 0 3)):=by rw[as1,aX (gJ h.wf),aH (num _ _ (by decide) (by decide))]
   have e:∀ K:T→ah T,oJ env (aJ env (m+1+1)) (T.ay (Cc 4) 0 1 false) [r.t] K=K (.bool (vZ r 0 3)):=fun K=>(lN (g:=227) (fs:=[]) (cs:=[]) rfl).trans (aH hk)
   have hr:=rest (jG r)
   rw[hm] at hr
   show _=rB (jG r&&_)
   rw[hm,←hr]
   rw[h1]
   exact e _
theorem JL {N:Nat} {F:FuncId} {α:Type} {S R:Int→St} {X:St} {l:List α} (q:α→Bool) (hN:l.length+1≤N)
 (step:∀ j x,l[j]? =some x→aF env N F 0 2 (S (j:Nat))=bif q x then .ok (.ret,R (j:Nat)) else .ok (.norm,S ((j+1:Nat):Int))) (hend:aF env N F 0 2 (S (l.length:Nat))= .ok (.exit 0,X))
 (hr:∀ i:Int,aP env N F 0 2 (aW env F) .ret (R i)=rI i) (hx:aP env N F 0 2 (aW env F) (.exit 0) X=rI (-1)):bC env N F 2 (S 0)=rI (rH (l.findIdx? q)):=by
 have main:∀ (r p:List α) (n:Nat),l=p++r→r.length < n→(bF (aF env N F 0 2) n (S (p.length:Nat))).bind (fun x=>aP env N F 0 2 (aW env F) x.1 x.2)=rI (rH ((r.findIdx? q).map (· +p.length))):=by
  intro r
  induction r with
  |nil=>
   intro p n hp hn
   obtain⟨n,rfl⟩:=dJ (show 1≤n by omega)
   have:p.length=l.length:=by rw[hp]; simp
   rw[this,dV hend]
   simp only[ah.bind_ok]
   exact hx
  |cons x r ih=>
   intro p n hp hn
   obtain⟨n,rfl⟩:=dJ (show 1≤n by omega)
   have hs:=step p.length x (by rw[hp]; simp)
   rw[List.findIdx?_cons]
   cases hq:q x with
   |true=>
    rw[hq,cond_true] at hs
    rw[dR hs]
    simp only[ah.bind_ok,hr,if_true,Option.map_some,rH,Nat.zero_add]
   |false=>
    rw[hq,cond_false] at hs
    have:=ih (p++ [x]) n (by rw[hp]; simp) (by simp at hn; omega)
    rw[List.length_append] at this
    rw[bf hs]
    refine Eq.trans this ?_
    have e:Option.map (fun y=>y+(p.length+ [x].length)) (r.findIdx? q)=Option.map (fun y=>y+p.length) (if false=true then some 0 else Option.map (fun i=>i+1) (r.findIdx? q)):=by
     cases r.findIdx? q with
     |none=>rfl
     |some k=>simp; omega
    rw[e]
 have:=main l [] N rfl (by omega)
 simp only[List.length_nil,Nat.add_zero] at this
 have e:(l.findIdx? q).map (fun x=>x)=l.findIdx? q:=by cases l.findIdx? q<;>rfl
 rw[e] at this
 exact this
theorem DR {N:Nat} {F:FuncId} {α:Type} (f:α→T) {S R:Int→St} {X:St} {g:T} {l:List α} (q:α→Bool) (hN:l.length+1≤N) (hl:l.length≤big)
 (hb:∀ i:Int,aF env N F 0 2 (S i)=bif decide (i < ((l.map f).length:Int)) then bK (l.map f) i fun e=>oJ env (aJ env N) g [e] fun r=>bT r fun v=>bif v then ah.ok (Ex.ret,R i) else ah.ok (Ex.norm,S (IntKind.i64.wrap (i+1))) else ah.ok (Ex.exit 0,X))
 (hr:∀ i:Int,aP env N F 0 2 (aW env F) .ret (R i)=rI i) (hx:aP env N F 0 2 (aW env F) (.exit 0) X=rI (-1))
 (hg:∀ x∈l,∀ K:T→ah (Ex×St),oJ env (aJ env N) g [f x] K=K (.bool (q x))):bC env N F 2 (S 0)=rI (rH (l.findIdx? q)):=by
 have hln:(l.map f).length=l.length:=by simp
 have step:∀ j x,l[j]? =some x→aF env N F 0 2 (S (j:Nat))=bif q x then .ok (.ret,R (j:Nat)) else .ok (.norm,S ((j+1:Nat):Int)):=fun j x hx=>by
  have hj:j < l.length:=(List.getElem?_eq_some_iff.1 hx).1
  rw[hb,decide_eq_true (by rw[hln]; omega)]
  simp only[cond_true,aA (aC hx)]
  rw[hg x (List.mem_of_getElem? hx)]
  simp only[bT,wrap_succ (show j≤big by omega)]
 have hend:aF env N F 0 2 (S (l.length:Nat))= .ok (.exit 0,X):=by rw[hb,decide_eq_false (by rw[hln]; omega)]; rfl
 exact JL q hN step hend hr hx
theorem wJ (k:Option Nat):decide (rH k≥0)=k.isSome:=by
 cases k with
 |none=>decide
 |some i=>exact decide_eq_true (by simp[rH])
theorem qA {α:Type} (q:α→Bool):∀ l:List α,(l.findIdx? q).isSome=l.any q
 | []=>rfl
 |x::l=>by
  rw[List.findIdx?_cons,List.any_cons]
  cases q x with
  |true=>rfl
  |false=>simp[qA q l]
theorem DL {M:Nat} {l:List Ru} {g:FuncId} {cs:List T} {q:Ru→Bool} (hM:big+1≤M) (hl:cO Ru.ok l) (hw:T.wfs cs=true) (hm:env.mode g=0) (hq:∀ r∈l,ak env M g (r.t::cs)= .ok (.bool (q r))):
 ak env (M+1) 151 [.sl 6 (l.map Ru.t),.fn g [] cs]= .ok (i64 (rH (l.findIdx? q))):=by
 rw[ar4,aX (dM (dD (fun _ h=>Ru.ok.wf h) hl) (wV hw))]
 exact DR Ru.t (S:=ag2 l _) q (by have:=hl.1; omega) hl.1 (alo M l _) (ZG M) (SN M) fun x hx K=>(lN hm).trans (aH (hq x hx))
theorem aam {M:Nat} {l:List Ru} {g:FuncId} {cs:List T} {q:Ru→Bool} (hM:big+1≤M) (hl:cO Ru.ok l) (hw:T.wfs cs=true) (hm:env.mode g=0) (hq:∀ r∈l,ak env M g (r.t::cs)= .ok (.bool (q r))):
 ak env (M+1+1) 129 [.sl 6 (l.map Ru.t),.fn g [] cs]= .ok (.bool (l.any q)):=by
 rw[arL,aX (dM (dD (fun _ h=>Ru.ok.wf h) hl) (wV hw)),nG (DL (by omega) hl hw hm hq),wJ,qA]
end
section
open Go.RowKit Go.Proofs
structure AP {α:Type} (f:α→T) (q:α→Bool) (l:List α) (L:List T) (i j:Nat):Prop where
 len:L.length=l.length
 le:i≤j
 tk:L.take i=((l.take j).filter fun x=> !q x).map f
 dp:L.drop j=(l.drop j).map f
theorem take_succ' {α:Type} {l:List α} {j:Nat} {x:α} (hx:l[j]? =some x):l.take (j+1)=l.take j++ [x]:=by
 rw[List.take_add_one,hx]; rfl
theorem AP.skip {α:Type} {f:α→T} {q:α→Bool} {l:List α} {L:List T} {i j:Nat} (h:AP f q l L i j) {x:α} (hx:l[j]? =some x) (hq:q x=true):AP f q l L i (j+1):=by
 refine⟨h.len,by have:=h.le; omega,?_,?_⟩
 · rw[h.tk,take_succ' hx,List.filter_append]
   simp[hq]
 · have:=congrArg (List.drop 1) h.dp
   simpa[List.drop_drop,List.map_drop] using this
theorem AP.keep {α:Type} {f:α→T} {q:α→Bool} {l:List α} {L:List T} {i j:Nat} (h:AP f q l L i j) {x:α} (hx:l[j]? =some x) (hq:q x=false):AP f q l (L.set i (f x)) (i+1) (j+1):=by
 have hj:j < l.length:=(List.getElem?_eq_some_iff.1 hx).1
 have hi:i < L.length:=by have:=h.le; rw[h.len]; omega
 refine⟨by simp[h.len],by have:=h.le; omega,?_,?_⟩
 · rw[take_succ' (show(L.set i (f x))[i]? =some (f x) from by rw[List.getElem?_set_self hi]),List.take_set_of_le (Nat.le_refl i),h.tk,take_succ' hx,List.filter_append]
   simp[hq]
 · rw[List.drop_set_of_lt (by have:=h.le; omega)]
   have:=congrArg (List.drop 1) h.dp
   simpa[List.drop_drop,List.map_drop] using this
variable [Lv]
end
section
open Go.RowKit Go.Proofs
section
variable {β:Type} {l:List Nat} {k:T} {es:List (T×T×Nat)} {Kn:ah β} {K:Nat→T→Nat→ah β}
theorem A8 (h:jh l k es 0=some none):fA l k es Kn K=Kn:=by rw[fA,h]
theorem pX {i b:Nat} {v:T} (h:jh l k es 0=some (some (i,v,b))):fA l k es Kn K=K i v b:=by rw[fA,h]
end
def iI (ks:List T):List (T×T×Nat):=ks.zipIdx.map fun p=>(p.1,i64 1,p.2)
theorem qg (ks:List T):(iI ks).length=ks.length:=by simp[iI]
theorem Bj {ks:List T} {i:Nat} (h:i < ks.length):(iI ks)[i]? =some (ks[i],i64 1,i):=by simp[iI,h]
theorem Dt (ks:List T) (k:T):iI (ks++ [k])=iI ks++ [(k,i64 1,ks.length)]:=by simp[iI,List.zipIdx_append]
theorem JJ {l:List Nat} {k:T}:∀ {es:List (T×T×Nat)} {j:Nat},(∀ e∈es,T.eX l (k.flat l) (e.1.flat l)=some false)→jh l k es j=some none
 | [],_,_=>rfl
 |e::es,j,h=>by
  unfold jh
  rw[h e List.mem_cons_self]
  exact JJ fun e he=>h e (List.mem_cons_of_mem _ he)
theorem F6 {l:List Nat} {k:T}:∀ {es:List (T×T×Nat)} {j:Nat},(∀ e∈es,∃ b,T.eX l (k.flat l) (e.1.flat l)=some b)→(∃ e∈es,T.eX l (k.flat l) (e.1.flat l)=some true)→
 ∃ i e,es[i]? =some e∧T.eX l (k.flat l) (e.1.flat l)=some true∧jh l k es j=some (some (j+i,e.2.1,e.2.2))∧∀ (x:T) (b:Nat),jh l k (es.set i (e.1,x,b)) j=some (some (j+i,x,b))
 | [],j,_,h=>by obtain⟨e,he,_⟩:=h; cases he
 |e::es,j,h1,h=>by
  obtain⟨b,hb⟩:=h1 e List.mem_cons_self
  cases b with
  |true=>
   refine⟨0,e,rfl,hb,by unfold jh; rw[hb]; rfl,fun x b=>?_⟩
   rw[List.set_cons_zero]
   unfold jh
   simp only[hb]
   rfl
  |false=>
   obtain⟨i,e',h2,h2',h3,h4⟩:=F6 (l:=l) (k:=k) (es:=es) (j:=j+1) (fun e he=>h1 e (List.mem_cons_of_mem _ he)) (by
    obtain⟨e',he',ht⟩:=h
    rcases List.mem_cons.1 he' with rfl|he'
    · rw[hb] at ht; cases ht
    · exact⟨e',he',ht⟩)
   refine⟨i+1,e',by simpa using h2,h2',?_,fun x b=>?_⟩
   · unfold jh; simp only[hb]; rw[h3,show j+1+i=j+(i+1) by omega]
   · rw[List.set_cons_succ]; unfold jh; simp only[hb]; rw[h4,show j+1+i=j+(i+1) by omega]
theorem Ws {es:List (T×T×Nat)} {k x:T} (h:∀ e∈es,e.2.2 < es.length):iR (es++ [(k,x,es.length)]) (es.length:Int)=some es.length:=by
 unfold iR
 rw[List.findIdx?_append]
 have:es.findIdx? (fun e=>(e.2.2:Int)==(es.length:Int))=none:=by
  rw[List.findIdx?_eq_none_iff]
  intro e he
  have:=h e he
  rw[beq_eq_false_iff_ne]; omega
 rw[this]
 simp
theorem Wq {ks:List T} {i:Nat} (h:i < ks.length):iR (iI ks) (i:Int)=some i:=by
 unfold iR
 rw[List.findIdx?_eq_some_iff_getElem]
 refine⟨by rw[qg]; exact h,by simp[iI],fun j hj=>?_⟩
 simp[iI]
 omega
theorem afV {ks:List T}:∀ e∈iI ks,e.2.2 < (iI ks).length:=fun e he=>by
 obtain⟨i,hi,rfl⟩:=List.getElem_of_mem he
 rw[qg] at hi ⊢
 simp[iI]; exact hi
theorem QD (x:Px):jB [0,0] x.t=true:=rfl
theorem afF (n:Int):jB [0] (i64 n)=true:=rfl
theorem OJ (x y:Px):T.eX [0,0] (x.t.flat [0,0]) (y.t.flat [0,0])=some (decide (x=y)):=by
 have:T.eX [0,0] (x.t.flat [0,0]) (y.t.flat [0,0])=some ((x.a==y.a)&&((x.n==y.n)&&true)):=rfl
 rw[this]
 congr 1
 rw[Bool.eq_iff_iff]
 cases x; cases y
 simp
theorem DK (x y:Int):T.eX [0] ((i64 x).flat [0]) ((i64 y).flat [0])=some (decide (x=y)):=by
 have:T.eX [0] ((i64 x).flat [0]) ((i64 y).flat [0])=some ((x==y)&&true):=rfl
 rw[this]
 congr 1
 rw[Bool.eq_iff_iff]
 simp
theorem aad:(140737488355328:Nat)=big:=rfl
variable [Lv]
theorem XD {M:Nat} {n:Int} (h:aV n=true):ak env (M+1) 89 [i64 n]= .ok (.bool (rG n)):=by
 rw[q89,aX (gJ (aZ h)),jE]; rfl
theorem amk {M:Nat} {n:Int} (h:aV n=true):ak env (M+1) 90 [i64 n]= .ok (.bool (holdB n)):=by
 rw[q90,aX (gJ (aZ h)),jE,Yh]; rfl
theorem aal {M:Nat} {l:List Ru} {b:Bool} (hM:big+10≤M) (hl:cO Ru.ok l):ak env (M+1) 126 [.sl 6 (l.map Ru.t),.bool b]= .ok (.bool (uI l b)):=by
 obtain⟨m,rfl⟩:=dJ (show 1≤M by omega)
 obtain⟨m,rfl⟩:=dJ (show 1≤m by omega)
 rw[arK,aX (dM (dD (fun _ h=>Ru.ok.wf h) hl) (Aw b)),bJ (aam (q:=fun r=> !pG r b) (by omega) hl (gJ (lC (Aw b))) rfl fun r hr=>by
  obtain⟨m,rfl⟩:=dJ (show 1≤m by omega)
  obtain⟨m,rfl⟩:=dJ (show 1≤m by omega)
  rw[asc,aX (dM (hl.2 r hr).wf (lC (Aw b))),bJ (aia (hl.2 r hr) (by omega))]),jE,List.length_map]
 rfl
theorem aml {M:Nat} {s:Sd} (hM:big+11≤M) (h:s.ok):ak env (M+1) 91 [s.t]= .ok (.bool (nY s)):=by
 obtain⟨m,rfl⟩:=dJ (show 1≤M by omega)
 rw[q91,aX (gJ h.wf),bJ (XD h.a),bJ (aal (by omega) h.i),aH (aal (by omega) h.o)]
 simp only[jE]
 rfl
theorem amX {M:Nat} {c:Cf} (hc:c.ok) (h2:c.w.length≤8) {i:Nat} {x:Px} (hx:c.w[i]? =some x) (hM:2≤M):
 aF env M 52 0 5 (CJ c (iI ((c.w.take i).map Px.t)) i (i:Int))=if (c.w.take i).contains x=true∨dB x=false then .ok (.ret,⟨slots 98 [(2,.t (.bool false))],[]⟩)
  else .ok (.norm,CJ c (iI ((c.w.take (i+1)).map Px.t)) (i+1) ((i+1:Nat):Int)):=by
 obtain⟨m,rfl⟩:=dJ (show 1≤M by omega)
 have hi:i < c.w.length:=(List.getElem?_eq_some_iff.1 hx).1
 have hlen:((c.w.take i).map Px.t).length=i:=by simp; omega
 have hps:=x9 (M:=m) (hc.w.2 x (List.mem_of_getElem? hx)) (by omega)
 have hes:(iI ((c.w.take i).map Px.t)).length=i:=by rw[qg,hlen]
 have hb:i≤140737488355328:=by omega
 rw[ajO,decide_eq_true (show(i:Int) < ((c.w.map Px.t).length:Int) by simp; omega)]
 simp only[cond_true,aA (aC hx),QD]
 have hch:∀ {β:Type} (r:ah β),chk (x.t.cells.length==2&& !x.t.aY) r=r:=fun r=>rfl
 have hct:∀ {β:Type} (r:ah β),chk true r=r:=fun r=>rfl
 rw[hch,hct]
 have hall:∀ e∈iI ((c.w.take i).map Px.t),∃ y,y∈c.w.take i∧e.1=y.t:=fun e he=>by
  obtain⟨j,hj,rfl⟩:=List.getElem_of_mem he
  rw[qg,hlen] at hj
  exact⟨(c.w.take i)[j]'(by simp; omega),List.getElem_mem _,by simp[iI]⟩
 by_cases hcon:(c.w.take i).contains x=true
 · rw[if_pos (.inl hcon)]
   obtain⟨j,e,g1,g0,g2,g3⟩:=F6 (l:=[0,0]) (k:=x.t) (es:=iI ((c.w.take i).map Px.t)) (j:=0) (fun e he=>by obtain⟨y,_,hy⟩:=hall e he; rw[hy]; exact⟨_,OJ x y⟩) (by
    have hm:x∈c.w.take i:=List.contains_iff_mem.1 hcon
    obtain⟨j,hj,e⟩:=List.getElem_of_mem hm
    refine⟨_,List.mem_of_getElem? (Bj (ks:=(c.w.take i).map Px.t) (i:=j) (by simp at hj ⊢; omega)),?_⟩
    simp only[List.getElem_map,e]
    rw[OJ]; simp)
   have hj:j < ((c.w.take i).map Px.t).length:=by rw[←qg]; exact(List.getElem?_eq_some_iff.1 g1).1
   have he:=Bj hj
   rw[g1] at he
   injection he with he
   subst he
   simp only[Nat.zero_add] at g2 g3
   rw[pX g2]
   simp only[dI,hct]
   rw[pX g2,decide_eq_true (show j≤140737488355328 by omega),hct,Wq hj]
   simp only[aS,g1,hct]
   rw[pX (g3 _ _)]
   rfl
 · have hno:=JJ (l:=[0,0]) (k:=x.t) (es:=iI ((c.w.take i).map Px.t)) (j:=0) (fun e he=>by
    obtain⟨y,hy,e1⟩:=hall e he
    rw[e1,OJ,decide_eq_false]
    rintro rfl
    exact hcon (List.contains_iff_mem.2 hy))
   have hpu:∀ v,jh [0,0] x.t (iI ((c.w.take i).map Px.t)++ [(x.t,v,i)]) 0=some (some (i,v,i)):=fun v=>by
    have:=yU (x:=v) (c:=i) (show T.eX [0,0] (x.t.flat [0,0]) (x.t.flat [0,0])=some true by rw[OJ]; simp) hno
    rw[this,hes,Nat.zero_add]
   have hst:iR (iI ((c.w.take i).map Px.t)++ [(x.t,i64 0,i)]) (i:Int)=some i:=by
    have:=Ws (k:=x.t) (x:=i64 0) (afV (ks:=(c.w.take i).map Px.t))
    rw[hes] at this; exact this
   have hgt:(iI ((c.w.take i).map Px.t)++ [(x.t,i64 0,i)])[i]? =some (x.t,i64 0,i):=by
    rw[List.getElem?_append_right (by omega),hes]; simp
   have hset:(iI ((c.w.take i).map Px.t)++ [(x.t,i64 0,i)]).set i (x.t,i64 1,i)=iI ((c.w.take (i+1)).map Px.t):=by
    rw[take_succ' hx,List.map_append,List.map_cons,List.map_nil,Dt,hlen,List.set_append_right _ _ (by omega),hes]; simp
   have hfi:jh [0,0] x.t (iI ((c.w.take (i+1)).map Px.t)) 0=some (some (i,i64 1,i)):=by
    rw[take_succ' hx,List.map_append,List.map_cons,List.map_nil,Dt,hlen]; exact hpu _
   rw[A8 hno,hct,A8 hno,decide_eq_true hb,hct,hst]
   simp only[aS,hgt,hset,hct]
   rw[pX hfi]
   simp only[dI]
   rw[show decide ((1:Int) > 1)=false from rfl,cond_false,bJ hps,wrap_succ (by rw[←aad]; exact hb)]
   cases hq:dB x with
   |true=>rw[if_neg (fun h=>h.elim hcon fun h=>by cases h)]; rfl
   |false=>rw[if_pos (.inr rfl)]; rfl
theorem ajq {M:Nat} {c:Cf} (hc:c.ok) (h2:c.s.length≤8) {i:Nat} {x:Sd} (hx:c.s[i]? =some x) (hM:big+13≤M):
 aF env M 52 0 13 (uo c (iI ((c.a::(c.s.take i).map Sd.a).map i64)) (i+1) (i:Int))=if (c.a::(c.s.take i).map Sd.a).contains x.a=true∨nY x=false then .ok (.ret,⟨slots 98 [(2,.t (.bool false))],[]⟩)
  else .ok (.norm,uo c (iI ((c.a::(c.s.take (i+1)).map Sd.a).map i64)) (i+1+1) ((i+1:Nat):Int)):=by
 obtain⟨m,rfl⟩:=dJ (show 1≤M by omega)
 have hi:i < c.s.length:=(List.getElem?_eq_some_iff.1 hx).1
 have hlen:((c.a::(c.s.take i).map Sd.a).map i64).length=i+1:=by simp; omega
 have hps:=aml (M:=m) (s:=x) (by omega) (hc.s.2 x (List.mem_of_getElem? hx))
 have hes:(iI ((c.a::(c.s.take i).map Sd.a).map i64)).length=i+1:=by rw[qg,hlen]
 have hnext:(c.a::(c.s.take (i+1)).map Sd.a).map i64=(c.a::(c.s.take i).map Sd.a).map i64++ [i64 x.a]:=by rw[take_succ' hx]; simp
 have hk:x.t.ay 0 1 false=i64 x.a:=rfl
 rw[aer,decide_eq_true (show(i:Int) < ((c.s.map Sd.t).length:Int) by simp; omega)]
 simp only[cond_true,aA (aC hx),hk,afF]
 have hch:∀ {β:Type} (r:ah β),chk (x.t.cells.length==4&& !x.t.aY) r=r:=fun r=>rfl
 have hct:∀ {β:Type} (r:ah β),chk true r=r:=fun r=>rfl
 rw[hch,hct]
 have hall:∀ e∈iI ((c.a::(c.s.take i).map Sd.a).map i64),∃ y,y∈c.a::(c.s.take i).map Sd.a∧e.1=i64 y:=fun e he=>by
  obtain⟨j,hj,rfl⟩:=List.getElem_of_mem he
  rw[qg,hlen] at hj
  exact⟨(c.a::(c.s.take i).map Sd.a)[j]'(by simp; omega),List.getElem_mem _,by simp only[iI,List.getElem_map,List.getElem_zipIdx]⟩
 by_cases hcon:(c.a::(c.s.take i).map Sd.a).contains x.a=true
 · rw[if_pos (.inl hcon)]
   obtain⟨j,e,g1,g0,g2,g3⟩:=F6 (l:=[0]) (k:=i64 x.a) (es:=iI ((c.a::(c.s.take i).map Sd.a).map i64)) (j:=0) (fun e he=>by obtain⟨y,_,hy⟩:=hall e he; rw[hy]; exact⟨_,DK x.a y⟩) (by
    have hm:x.a∈c.a::(c.s.take i).map Sd.a:=List.contains_iff_mem.1 hcon
    obtain⟨j,hj,e⟩:=List.getElem_of_mem hm
    refine⟨_,List.mem_of_getElem? (Bj (ks:=(c.a::(c.s.take i).map Sd.a).map i64) (i:=j) (by simp at hj ⊢; omega)),?_⟩
    simp only[List.getElem_map,e]
    rw[DK]; simp)
   have hj:j < ((c.a::(c.s.take i).map Sd.a).map i64).length:=by rw[←qg]; exact(List.getElem?_eq_some_iff.1 g1).1
   have he:=Bj hj
   rw[g1] at he
   injection he with he
   subst he
   simp only[Nat.zero_add] at g2 g3
   rw[pX g2]
   simp only[dI,hct]
   rw[pX g2]
   have hky:((c.a::(c.s.take i).map Sd.a).map i64)[j]=i64 x.a:=by
    obtain⟨y,hy,e2⟩:=hall _ (List.mem_of_getElem? g1)
    simp only at e2 g0
    rw[e2,DK] at g0
    rw[e2]
    injection g0 with g0
    rw[of_decide_eq_true g0]
   rw[hky] at g3
   rw[pX (g3 _ _)]
   rfl
 · have hno:=JJ (l:=[0]) (k:=i64 x.a) (es:=iI ((c.a::(c.s.take i).map Sd.a).map i64)) (j:=0) (fun e he=>by
    obtain⟨y,hy,e1⟩:=hall e he
    rw[e1,DK,decide_eq_false]
    rintro rfl
    exact hcon (List.contains_iff_mem.2 hy))
   have hpu:jh [0] (i64 x.a) (iI ((c.a::(c.s.take i).map Sd.a).map i64)++ [(i64 x.a,i64 1,i+1)]) 0=some (some (i+1,i64 1,i+1)):=by
    have:=yU (x:=i64 1) (c:=i+1) (show T.eX [0] ((i64 x.a).flat [0]) ((i64 x.a).flat [0])=some true by rw[DK]; simp) hno
    rw[this,hes,Nat.zero_add]
   have hset:iI ((c.a::(c.s.take i).map Sd.a).map i64)++ [(i64 x.a,i64 1,i+1)]=iI ((c.a::(c.s.take (i+1)).map Sd.a).map i64):=by
    rw[hnext,Dt,hlen]
   rw[A8 hno,hct,A8 hno,hct,pX hpu]
   simp only[dI]
   rw[show decide ((1:Int) > 1)=false from rfl,cond_false,bJ hps,wrap_succ (by rw[←aad]; omega),hset]
   cases hq:nY x with
   |true=>rw[if_neg (fun h=>h.elim hcon fun h=>by cases h)]; rfl
   |false=>rw[if_pos (.inr rfl)]; rfl
end
section
open Go.RowKit Go.Proofs
variable [Lv]
theorem Dk {α κ:Type} [DecidableEq κ] {kf:α→κ} {q:α→Bool} {l:List α} {s0:List κ} {B:St→ah (Ex×St)} {S:Nat→St} {X R:St} {e:Nat}
 (h1:∀ i x,l[i]? =some x→B (S i)=if (s0++(l.take i).map kf).contains (kf x)=true∨q x=false then .ok (.ret,R) else .ok (.norm,S (i+1))) (h2:B (S l.length)= .ok (.exit e,X)):
 ∀ (d i n:Nat),i+d=l.length→d < n→bF B n (S i)=bif ji kf q (s0++(l.take i).map kf) (l.drop i) then .ok (.exit e,X) else .ok (.ret,R)
 |0,i,n,hi,hn=>by
  obtain⟨n,rfl⟩:=dJ (show 1≤n by omega)
  obtain rfl:i=l.length:=by omega
  rw[dV h2,List.drop_length]; rfl
 |d+1,i,n,hi,hn=>by
  obtain⟨n,rfl⟩:=dJ (show 1≤n by omega)
  have hlt:i < l.length:=by omega
  have hx:l[i]? =some l[i]:=List.getElem?_eq_getElem hlt
  have hb:=h1 i _ hx
  have ih:=Dk h1 h2 d (i+1) n (by omega) (by omega)
  rw[take_succ' hx,List.map_append,←List.append_assoc,List.map_cons,List.map_nil] at ih
  rw[List.drop_eq_getElem_cons hlt]
  unfold ji
  by_cases hc:(s0++(l.take i).map kf).contains (kf l[i])=true
  · rw[if_pos (.inl hc)] at hb
    rw[dR hb,hc]; rfl
  · cases hq:q l[i] with
    |false=>
     rw[if_pos (.inr hq)] at hb
     rw[dR hb,Bool.and_comm]
     simp
    |true=>
     rw[if_neg (fun h=>h.elim hc fun h=>by rw[hq] at h; cases h)] at hb
     rw[bf hb,ih,eq_false_of_ne_true hc]; rfl
theorem BK {M:Nat} {c:Cf} (hM:big+14≤M) (h:c.ok):ak env (M+1) 52 [c.t]= .ok (.bool (dH c)):=by
 obtain⟨m,rfl⟩:=dJ (show 1≤M by omega)
 rw[q52,aX (gJ h.wf),bJ (XD h.a)]
 cases h1:rG c.a with
 |false=>rw[show dH c=false by simp[dH,h1]]; rfl
 |true=>
 simp only[Bool.not_true,cond_false]
 rw[bJ (XD h.d)]
 cases h2:rG c.d with
 |false=>rw[show dH c=false by simp[dH,h2]]; rfl
 |true=>
 simp only[Bool.not_true,cond_false]
 rw[bJ (amk h.h)]
 cases h3:holdB c.h with
 |false=>rw[show dH c=false by simp[dH,h3]]; rfl
 |true=>
 simp only[Bool.not_true,cond_false]
 by_cases h4:c.k < 1
 · rw[decide_eq_true h4,show dH c=false by simp[dH,show ¬ 1≤c.k by omega]]; rfl
 rw[decide_eq_false h4,cond_false]
 by_cases h5:c.k > 1000
 · rw[decide_eq_true h5,show dH c=false by simp[dH,show ¬ c.k≤1000 by omega]]; rfl
 rw[decide_eq_false h5,cond_false]
 by_cases h6:c.w.length≤8
 case neg=>rw[decide_eq_true (by rw[List.length_map]; omega),show dH c=false by simp[dH,h6]]; rfl
 rw[decide_eq_false (by rw[List.length_map]; omega),cond_false]
 by_cases h7:c.s.length≤8
 case neg=>rw[decide_eq_true (by rw[List.length_map]; omega),show dH c=false by simp[dH,h7]]; rfl
 rw[decide_eq_false (by rw[List.length_map]; omega),cond_false]
 have hs:dH c=(ji id dB [] c.w&&ji Sd.a nY [c.a] c.s):=by
  simp[dH,h1,h2,h3,h6,h7,show 1≤c.k by omega,show c.k≤1000 by omega]
 have l5:=Dk (kf:=id) (q:=dB) (l:=c.w) (s0:=[]) (B:=aF env (m+1) 52 0 5) (S:=fun i=>CJ c (iI ((c.w.take i).map Px.t)) i (i:Int))
  (X:=⟨slots 98 [(1,.ptr 0 0)],[.box 56 6 (.t c.t)]⟩) (R:=⟨slots 98 [(2,.t (.bool false))],[]⟩) (e:=0)
  (fun i x hx=>by rw[List.map_id,List.nil_append]; exact amX h h6 hx (by omega))
  (by rw[ajO,decide_eq_false (by rw[List.length_map]; omega)]; rfl) c.w.length 0 (m+1) (by omega) (by omega)
 have l13:=Dk (kf:=Sd.a) (q:=nY) (l:=c.s) (s0:=[c.a]) (B:=aF env (m+1) 52 0 13) (S:=fun i=>uo c (iI ((c.a::(c.s.take i).map Sd.a).map i64)) (i+1) (i:Int))
  (X:=⟨slots 98 [],[]⟩) (R:=⟨slots 98 [(2,.t (.bool false))],[]⟩) (e:=2)
  (fun i x hx=>ajq h h7 hx (by omega))
  (by rw[aer,decide_eq_false (by rw[List.length_map]; omega)]; rfl) c.s.length 0 (m+1) (by omega) (by omega)
 simp only[List.take_zero,List.drop_zero,List.map_nil,List.append_nil] at l5 l13
 rw[hs]
 cases h8:ji id dB [] c.w with
 |false=>
  rw[h8] at l5
  refine(aQ l5).trans ?_
  rw[ac7]; rfl
 |true=>
 rw[h8] at l5
 refine(aQ l5).trans ?_
 rw[WU]
 refine Eq.trans (show _=bC env (m+1) 52 13 (uo c [(i64 c.a,i64 1,0)] 1 0) from rfl) ?_
 cases h9:ji Sd.a nY [c.a] c.s with
 |false=>
  rw[h9] at l13
  refine(aQ l13).trans ?_
  rw[ZQ]; rfl
 |true=>
  rw[h9] at l13
  refine(aQ l13).trans ?_
  rw[Tm]; rfl
theorem JO {α:Type} {q:α→Bool} {l:List α} {B:St→ah (Ex×St)} {S:Nat→St} {X R:St} {e:Nat}
 (h1:∀ i x,l[i]? =some x→B (S i)=bif q x then .ok (.norm,S (i+1)) else .ok (.ret,R)) (h2:B (S l.length)= .ok (.exit e,X)):
 ∀ (d i n:Nat),i+d=l.length→d < n→bF B n (S i)=bif (l.drop i).all q then .ok (.exit e,X) else .ok (.ret,R)
 |0,i,n,hi,hn=>by
  obtain⟨n,rfl⟩:=dJ (show 1≤n by omega)
  obtain rfl:i=l.length:=by omega
  rw[dV h2,List.drop_length]; rfl
 |d+1,i,n,hi,hn=>by
  obtain⟨n,rfl⟩:=dJ (show 1≤n by omega)
  have hlt:i < l.length:=by omega
  have hx:l[i]? =some l[i]:=List.getElem?_eq_getElem hlt
  have hb:=h1 i _ hx
  have ih:=JO h1 h2 d (i+1) n (by omega) (by omega)
  rw[List.drop_eq_getElem_cons hlt,List.all_cons]
  cases hq:q l[i] with
  |false=>rw[hq] at hb; rw[dR hb]; rfl
  |true=>rw[hq] at hb; rw[bf hb,ih]; rfl
theorem alT {M:Nat} {c:Cf} (hM:big+2≤M) (h:c.ok):ak env (M+1) 33 [c.t]= .ok (.bool (Nu c)):=by
 rw[q33,aX (gJ h.wf)]
 have hb:=h.s.1
 have l2:=JO (q:=fun s:Sd=>decide (s.i.length≤20)&&decide (s.o.length≤20)) (l:=c.s) (B:=aF env M 33 0 2) (S:=fun i=>Yy c (i:Int))
  (X:=⟨slots 39 [(1,.ptr 0 0)],[.box 56 6 (.t c.t)]⟩) (R:=⟨slots 39 [(2,.t (.bool false))],[]⟩) (e:=0)
  (fun i x hx=>by
   have hi:i < c.s.length:=(List.getElem?_eq_some_iff.1 hx).1
   have k2:x.t.ay 2 1 false= .sl 6 (x.i.map Ru.t):=rfl
   have k3:x.t.ay 3 1 false= .sl 6 (x.o.map Ru.t):=rfl
   rw[ajE,decide_eq_true (by rw[List.length_map]; omega)]
   simp only[cond_true,aA (aC hx),k2,k3,iO,List.length_map]
   by_cases h1:x.i.length≤20
   · by_cases h2:x.o.length≤20
     · rw[decide_eq_false (show ¬ (x.i.length:Int) > 20 by omega),decide_eq_false (show ¬ (x.o.length:Int) > 20 by omega),decide_eq_true h1,decide_eq_true h2,wrap_succ (show i≤big by omega)]; rfl
     · rw[decide_eq_false (show ¬ (x.i.length:Int) > 20 by omega),decide_eq_true (show(x.o.length:Int) > 20 by omega),decide_eq_true h1,decide_eq_false h2]; rfl
   · rw[decide_eq_true (show(x.i.length:Int) > 20 by omega),decide_eq_false h1]; rfl)
  (by rw[ajE,decide_eq_false (by rw[List.length_map]; omega)]; rfl) c.s.length 0 M (by omega) (by omega)
 rw[List.drop_zero] at l2
 unfold Nu
 cases h8:c.s.all fun s=>decide (s.i.length≤20)&&decide (s.o.length≤20) with
 |false=>
  rw[h8] at l2
  refine(aQ l2).trans ?_
  rw[ac1]; rfl
 |true=>
  rw[h8] at l2
  refine(aQ l2).trans ?_
  rw[WH]
  simp only[List.length_map,Int.ofNat_le,show(20:Int)=((20:Nat):Int) from rfl,Bool.true_and]
  cases decide (c.w.length≤20)<;>rfl
end
section
open Go.RowKit Go.Proofs
theorem aN {β:Type} (r:ah β):chk true r=r:=rfl
theorem KO {α κ:Type} [DecidableEq κ] {kf:α→κ} {q:α→Bool}:∀ {l:List α} {s:List κ},ji kf q s l=true→∀ x∈l,q x=true
 | [],_,_,x,hx=>by cases hx
 |y::l,s,h,x,hx=>by
  unfold ji at h
  simp only[Bool.and_eq_true] at h
  rcases List.mem_cons.1 hx with rfl|hx
  · exact h.2.1
  · exact KO h.2.2 x hx
theorem pJ {c:Cf} (h:dH c=true) {s:Sd} (hs:s∈c.s):nY s=true:=by
 unfold dH at h
 simp only[Bool.and_eq_true] at h
 exact KO h.2.2.2.2.2.2.2.2 s hs
end
section
open Go.RowKit Go.Proofs
variable [Lv]
def sIx (l:List Int) (n:Int) (i:Int):St:=⟨slots 19 [(0,.t (.sl 1 (ints l))),(1,.t (i64 n)),(7,.t (i64 (ints l).length)),(8,.t (i64 i))],[]⟩
def ag1 (l:List Int) (f:T) (i:Int):St:=⟨slots 19 [(0,.t (.sl 1 (ints l))),(1,.t f),(7,.t (i64 (ints l).length)),(8,.t (i64 i))],[]⟩
theorem arC (N:Nat) (c:Cf) (k:Int):ak env (N+1) 113 [c.t,i64 k]=W [c.t,i64 k] (bif decide (k≥0) then rB (decide (k < (↑(List.map Sd.t c.s).length:Int))) else rB false):=by kernel_rfl
theorem arF (N:Nat) (c:Cf) (k:Int):ak env (N+1) 118 [c.t,i64 k]=W [c.t,i64 k] (iw N 113 [c.t,i64 k] fun b=>bif !b then rI 0 else bK (List.map Sd.t c.s) k fun e=>ah.ok (e.ay 1 1 false)):=by kernel_rfl
theorem ar7 (N:Nat) (a b:Int):ak env (N+1) 154 [i64 a,i64 b]=W [i64 a,i64 b] (bif a==0 then rI b else rI a):=by kernel_rfl
theorem aso (N:Nat) (a b c:Int):ak env (N+1) 175 [i64 a,i64 b,i64 c]=W [i64 a,i64 b,i64 c] (bif a==3 then bif a==3 then cl N 154 [i64 c,i64 b] fun x=>ah.ok (T.au [x,T.bool true]) else bif a==1 then bif c==0 then ah.ok (T.au [i64 0,T.bool true]) else ah.ok (T.au [i64 0,T.bool false]) else ah.ok (T.au [i64 0,T.bool false]) else bif a==2 then DI N 154 [i64 c,i64 b] fun a_1=>bif a_1==b then cl N 154 [i64 c,i64 b] fun x=>ah.ok (T.au [x,T.bool true]) else bif a==1 then bif c==0 then ah.ok (T.au [i64 0,T.bool true]) else ah.ok (T.au [i64 0,T.bool false]) else ah.ok (T.au [i64 0,T.bool false]) else bif a==1 then bif c==0 then ah.ok (T.au [i64 0,T.bool true]) else ah.ok (T.au [i64 0,T.bool false]) else ah.ok (T.au [i64 0,T.bool false])):=by kernel_rfl
theorem arG (N:Nat) (a b c:Int):ak env (N+1) 120 [i64 a,i64 b,i64 c]=W [i64 a,i64 b,i64 c] (bif a==1 then bif a==1 then cl N 154 [i64 c,i64 b] fun x=>ah.ok (T.au [x,T.bool true]) else bif a==3 then bif c==0 then ah.ok (T.au [i64 0,T.bool true]) else ah.ok (T.au [i64 0,T.bool false]) else ah.ok (T.au [i64 0,T.bool false]) else bif a==2 then bif c==0 then cl N 154 [i64 c,i64 b] fun x=>ah.ok (T.au [x,T.bool true]) else bif a==3 then bif c==0 then ah.ok (T.au [i64 0,T.bool true]) else ah.ok (T.au [i64 0,T.bool false]) else ah.ok (T.au [i64 0,T.bool false]) else bif a==3 then bif c==0 then ah.ok (T.au [i64 0,T.bool true]) else ah.ok (T.au [i64 0,T.bool false]) else ah.ok (T.au [i64 0,T.bool false])):=by kernel_rfl
theorem ar6 (N:Nat) (r:Ru) (v:Vw):ak env (N+1) 153 [r.t,v.t]=W [r.t,v.t] (cl N 193 [r.t] fun x=>aG x 0 fun y=>aG x 1 fun y_1=>chk (y.cells.length==2&& !y.aY) (bT y_1 fun b=>bif b then oJ env (aJ env N) (y.ay 1 1 false) [r.t,v.t] fun r=>ah.ok r else rB false)):=by kernel_rfl
theorem ar5 (N:Nat) (r:Ru) (v:Vw):ak env (N+1) 152 [r.t,.ref v.t]=W [r.t,.ref v.t] (cl N 153 [r.t,v.t] fun x=>ah.ok x):=by kernel_rfl
theorem arE (N:Nat) (l:List Ru) (v:Vw):ak env (N+1) 117 [.sl 6 (l.map Ru.t),v.t]=W [.sl 6 (l.map Ru.t),v.t] (cl N 151 [T.sl 6 (List.map Ru.t l),T.fn 152 [] [v.t.ref]] fun x=>iT IntKind.i64 x fun a=>bif decide (a < 0) then ah.ok (T.au [T.agg [i64 0,i64 0,i64 0,i64 0,i64 0,i64 0],T.bool false]) else o9 x fun i=>bK (List.map Ru.t l) i fun e=>chk (e.cells.length==6&& !e.aY) (ah.ok (T.au [e,T.bool true]))):=by kernel_rfl
theorem asn (N:Nat) (l:List Int) (n:Int):ak env (N+1) 173 [.sl 1 (ints l),i64 n]=W [.sl 1 (ints l),i64 n] (DI N 199 [T.sl 1 (ints l),i64 n] fun a=>rB (decide (a≥0))):=by kernel_rfl
theorem asD (N:Nat) (l:List Int) (n:Int):ak env (N+1) 199 [.sl 1 (ints l),i64 n]=W [.sl 1 (ints l),i64 n] (bC env N 199 2 (sIx l n 0)):=by kernel_rfl
theorem ar2 (N:Nat) (p:Pa):ak env (N+1) 150 [p.t]=W [p.t] (iw N 191 [T.sl 1 (ints p.s),T.fn 192 [] []] fun b=>bif !b then bif decide ((↑(ints p.s).length:Int)≤255) then bif decide (p.o≥0) then bif decide (p.o≤2) then bif decide (p.h > 0) then bif decide (p.h≤4294967295) then bif decide (p.c≥0) then rB (decide (p.c≤4294967295)) else rB false else rB false else rB false else rB false else rB false else rB false else rB false):=by kernel_rfl
theorem asx (N:Nat) (n:Int):ak env (N+1) 192 [i64 n]=W [i64 n] (bif decide (n < 1) then rB true else rB (decide (n > 4294967295))):=by kernel_rfl
theorem q28 (N:Nat) (n:Int):ak env (N+1) 28 [i64 n]=W [i64 n] (ah.ok (T.agg [i64 400,i64 0,T.sl 1 [],i64 n,i64 0,i64 (-1)])):=by kernel_rfl
theorem arD (N:Nat) (r:Rt):ak env (N+1) 114 [r.t]=W [r.t] (iw N 150 [r.p.t] fun b=>bif !b then rB false else bif decide ((↑(ints r.p.s).length:Int) > 32) then rB false else bif r.f== -1 then cl N 28 [i64 r.p.h] fun x=>cl N 27 [r.t,x] fun x=>ah.ok x else bif decide (r.f≥0) then bif decide (r.f≤7) then bif decide (r.n > 0) then rB (decide (r.n < 400)) else rB false else rB false else rB false):=by kernel_rfl
theorem q27 (N:Nat) (r q:Rt):ak env (N+1) 27 [r.t,q.t]=W [r.t,q.t] (DI N 30 [r.t,q.t] fun a=>rB (a==0)):=by kernel_rfl
theorem aek (N:Nat) (l:List Int) (n i:Int):aF env N 199 0 2 (sIx l n i)=bif decide (i < (↑(ints l).length:Int)) then bK (ints l) i fun e=>iT IntKind.i64 e fun b=>bif n==b then ah.ok (Ex.ret,{tmps:=slots 19 [(4,.t (i64 i))],heap:=[]}) else ah.ok (Ex.norm,sIx l n (IntKind.i64.wrap (i+1))) else ah.ok (Ex.exit 0,{tmps:=slots 19 [],heap:=[]}):=by kernel_rfl
theorem ZK (N:Nat) (i:Int):aP env N 199 0 2 (aW env 199) (.ret) (⟨slots 19 [(4,.t (i64 i))],[]⟩)=rI i:=by kernel_rfl
theorem SY (N:Nat):aP env N 199 0 2 (aW env 199) (.exit 0) (⟨slots 19 [],[]⟩)=rI (-1):=by kernel_rfl
theorem asI (N:Nat) (l:List Int) (f:T):ak env (N+1) 209 [.sl 1 (ints l),f]=W [.sl 1 (ints l),f] (bC env N 209 2 (ag1 l f 0)):=by kernel_rfl
theorem alp (N:Nat) (l:List Int) (f:T) (i:Int):aF env N 209 0 2 (ag1 l f i)=bif decide (i < (↑(ints l).length:Int)) then bK (ints l) i fun e=>oJ env (aJ env N) f [e] fun r=>bT r fun v=>bif v then ah.ok (Ex.ret,{tmps:=slots 19 [(4,.t (i64 i))],heap:=[]}) else ah.ok (Ex.norm,ag1 l f (IntKind.i64.wrap (i+1))) else ah.ok (Ex.exit 0,{tmps:=slots 19 [],heap:=[]}):=by kernel_rfl
theorem ZM (N:Nat) (i:Int):aP env N 209 0 2 (aW env 209) (.ret) (⟨slots 19 [(4,.t (i64 i))],[]⟩)=rI i:=by kernel_rfl
theorem Td (N:Nat):aP env N 209 0 2 (aW env 209) (.exit 0) (⟨slots 19 [],[]⟩)=rI (-1):=by kernel_rfl
theorem asw (N:Nat) (l:List Int) (f:T):ak env (N+1) 191 [.sl 1 (ints l),f]=W [.sl 1 (ints l),f] (DI N 209 [T.sl 1 (ints l),f] fun a=>rB (decide (a≥0))):=by kernel_rfl
theorem asR (N:Nat) (r:Ru) (v:Vw):ak env (N+1) 219 [r.t,v.t]=W [r.t,v.t] (rB true):=by kernel_rfl
theorem asU (N:Nat) (r:Ru) (v:Vw):ak env (N+1) 221 [r.t,v.t]=W [r.t,v.t] (cl N 222 [r.x.t,v.x.t] fun x=>ah.ok x):=by kernel_rfl
theorem asX (N:Nat) (r:Ru) (v:Vw):ak env (N+1) 224 [r.t,v.t]=W [r.t,v.t] (cl N 173 [T.sl 1 (ints v.s),i64 r.v] fun x=>ah.ok x):=by kernel_rfl
theorem asZ (N:Nat) (r:Ru) (v:Vw):ak env (N+1) 226 [r.t,v.t]=W [r.t,v.t] (rB (decide ((↑(ints v.s).length:Int) > r.v))):=by kernel_rfl
theorem as2 (N:Nat) (r:Ru) (v:Vw):ak env (N+1) 228 [r.t,v.t]=W [r.t,v.t] (rB (v.c==r.v)):=by kernel_rfl
end
section
open Go.RowKit Go.Proofs
def Md (n:Int):Bool:=decide (n < 1)||decide (n > 4294967295)
def gY (p:Pa):Bool:= !(p.s.any Md)&&(decide (p.s.length≤255)&&(decide (p.o≥0)&&(decide (p.o≤2)&&(decide (p.h > 0)&&(decide (p.h≤4294967295)&&(decide (p.c≥0)&&decide (p.c≤4294967295)))))))
def PI (a b:Int):Int:=if a=0 then b else a
def og (a b c:Int):Option Int:=if a=3 then some (PI c b) else if a=2 then(if PI c b=b then some (PI c b) else none) else if a=1 then(if c=0 then some 0 else none) else none
def kL (a b c:Int):Option Int:=if a=1 then some (PI c b) else if a=2 then(if c=0 then some (PI c b) else none) else if a=3 then(if c=0 then some 0 else none) else none
def rX (v:Vw) (r:Ru):Bool:=if r.m=0 then true else if r.m=1 then ab8 r.x v.x else if r.m=2 then v.s.contains r.v else if r.m=3 then decide ((v.s.length:Int) > r.v) else if r.m=4 then v.c==r.v else false
def kM (l:List Ru) (v:Vw):Option Ru:=l.find? (rX v)
theorem rF {p:Pa} (h:p.ok):cO okI p.s:=⟨h.l,h.s⟩
variable [Lv]
theorem bg (l:List Int):ints l=l.map i64:=rfl
theorem aiq {M:Nat} {l:List Int} {n:Int} (hM:big+1≤M) (hl:cO okI l) (hn:aV n=true):ak env (M+1) 199 [.sl 1 (ints l),i64 n]= .ok (i64 (rH (l.findIdx? fun y=>n==y))):=by
 rw[asD,aX (dM (qK hl) (aZ hn))]
 have hb:=hl.1
 exact JL (S:=sIx l n) (l:=l) (fun y=>n==y) (by omega) (fun j x hx=>by
  have hj:j < l.length:=(List.getElem?_eq_some_iff.1 hx).1
  rw[aek,decide_eq_true (by rw[bg,List.length_map]; omega)]
  simp only[cond_true,aA (iV hx),dI,wrap_succ (show j≤big by omega)]) (by rw[aek,decide_eq_false (by rw[bg,List.length_map]; omega)]; rfl) (ZK M) (SY M)
theorem aap {M:Nat} {l:List Int} {n:Int} (hM:big+2≤M) (hl:cO okI l) (hn:aV n=true):ak env (M+1) 173 [.sl 1 (ints l),i64 n]= .ok (.bool (l.contains n)):=by
 obtain⟨m,rfl⟩:=dJ (show 1≤M by omega)
 rw[asn,aX (dM (qK hl) (aZ hn)),nG (aiq (by omega) hl hn),wJ,qA]
 congr 2
 rw[List.contains_eq_any_beq]
theorem aiv {M:Nat} {l:List Int} {g:FuncId} {cs:List T} {q:Int→Bool} (hM:big+1≤M) (hl:cO okI l) (hw:T.wfs cs=true) (hm:env.mode g=0) (hq:∀ r∈l,ak env M g (i64 r::cs)= .ok (.bool (q r))):
 ak env (M+1) 209 [.sl 1 (ints l),.fn g [] cs]= .ok (i64 (rH (l.findIdx? q))):=by
 rw[asI,aX (dM (qK hl) (wV hw))]
 exact DR i64 (S:=ag1 l _) q (by have:=hl.1; omega) hl.1 (alp M l _) (ZM M) (Td M) fun x hx K=>(lN hm).trans (aH (hq x hx))
theorem ail {M:Nat} {n:Int} (hn:aV n=true):ak env (M+1) 192 [i64 n]= .ok (.bool (Md n)):=by
 rw[asx,aX (gJ (aZ hn)),Yh]; rfl
theorem Qx {M:Nat} {p:Pa} (hM:big+4≤M) (h:p.ok):ak env (M+1) 150 [p.t]= .ok (.bool (gY p)):=by
 obtain⟨m,rfl⟩:=dJ (show 1≤M by omega)
 obtain⟨m,rfl⟩:=dJ (show 1≤m by omega)
 have hl:=rF h
 have hc:ak env (m+1+1) 191 [.sl 1 (ints p.s),.fn 192 [] []]= .ok (.bool (p.s.any Md)):=by
  rw[asw,aX (dM (qK hl) (wV rfl)),nG (aiv (q:=Md) (by omega) hl rfl rfl fun r hr=>by obtain⟨m,rfl⟩:=dJ (show 1≤m by omega); exact ail (hl.2 r hr)),wJ,qA]
 rw[ar2,aX (gJ h.wf),bJ hc]
 simp only[jE]
 congr 2
 have:decide (((ints p.s).length:Int)≤255)=decide (p.s.length≤255):=by rw[bg,List.length_map]; exact decide_eq_decide.2 (by omega)
 rw[this]
theorem aao {M:Nat} {a b:Int} (ha:aV a=true) (hb:aV b=true):ak env (M+1) 154 [i64 a,i64 b]= .ok (i64 (PI a b)):=by
 rw[ar7,aX (dM (aZ ha) (aZ hb)),aac]; unfold PI; split<;>rfl
theorem ah6 {M:Nat} {r:Ru} {v:Vw} (hM:big+6≤M) (h:r.ok) (hv:v.ok):ak env (M+1) 153 [r.t,v.t]= .ok (.bool (rX v r)):=by
 obtain⟨m,rfl⟩:=dJ (show 1≤M by omega)
 obtain⟨m,rfl⟩:=dJ (show 1≤m by omega)
 have hw:=dM h.wf hv.wf
 rw[ar6,aX hw,aH (aat h (by omega))]
 simp only[aG,List.getElem?_cons_zero,List.getElem?_cons_succ]
 unfold rX
 have a2:ak env (m+1+1) 219 [r.t,v.t]= .ok (.bool true):=by rw[asR,aX hw]
 have a4:ak env (m+1+1) 221 [r.t,v.t]= .ok (.bool (ab8 r.x v.x)):=by rw[asU,aX hw,aH (aiC h.x hv.x (by omega))]
 have a6:ak env (m+1+1) 224 [r.t,v.t]= .ok (.bool (v.s.contains r.v)):=by rw[asX,aX hw,aH (aap (by omega) hv.s h.v)]
 have a8:ak env (m+1+1) 226 [r.t,v.t]= .ok (.bool (decide ((v.s.length:Int) > r.v))):=by rw[asZ,aX hw,bg,List.length_map]
 have a10:ak env (m+1+1) 228 [r.t,v.t]= .ok (.bool (v.c==r.v)):=by rw[as2,aX hw]
 rcases Dl r.m with ⟨hk,_,n0,n1,n2,n3,n4⟩|e|e|e|e|e
 · rw[hk,if_neg n0,if_neg n1,if_neg n2,if_neg n3,if_neg n4]
   unfold Cc
   rw[if_neg n0,if_neg n1,if_neg n2,if_neg n3,if_neg n4]
   rfl
 all_goals rw[e]
 · refine Eq.trans (show _=oJ env (aJ env (m+1+1)) (.fn 219 [] []) [r.t,v.t] (fun r=>ah.ok r) from rfl) ((lN rfl).trans (aH a2))
 · refine Eq.trans (show _=oJ env (aJ env (m+1+1)) (.fn 221 [] []) [r.t,v.t] (fun r=>ah.ok r) from rfl) ((lN rfl).trans (aH a4))
 · refine Eq.trans (show _=oJ env (aJ env (m+1+1)) (.fn 224 [] []) [r.t,v.t] (fun r=>ah.ok r) from rfl) ((lN rfl).trans (aH a6))
 · refine Eq.trans (show _=oJ env (aJ env (m+1+1)) (.fn 226 [] []) [r.t,v.t] (fun r=>ah.ok r) from rfl) ((lN rfl).trans (aH a8))
 · refine Eq.trans (show _=oJ env (aJ env (m+1+1)) (.fn 228 [] []) [r.t,v.t] (fun r=>ah.ok r) from rfl) ((lN rfl).trans (aH a10))
theorem aak {M:Nat} {l:List Ru} {v:Vw} (hM:big+9≤M) (hl:cO Ru.ok l) (hv:v.ok):ak env (M+1) 117 [.sl 6 (l.map Ru.t),v.t]= .ok (match kM l v with|some r=> .au [r.t,.bool true]|none=> .au [.agg [i64 0,i64 0,i64 0,i64 0,i64 0,i64 0],.bool false]):=by
 obtain⟨m,rfl⟩:=dJ (show 1≤M by omega)
 obtain⟨m,rfl⟩:=dJ (show 1≤m by omega)
 have hi:=DL (M:=m+1) (g:=152) (cs:=[.ref v.t]) (q:=rX v) (by omega) hl (gJ (lC hv.wf)) rfl fun r hr=>by
  obtain⟨m,rfl⟩:=dJ (show 1≤m by omega)
  rw[ar5,aX (dM (hl.2 r hr).wf (lC hv.wf)),aH (ah6 (by omega) (hl.2 r hr) hv)]
 rw[arE,aX (dM (dD (fun _ h=>Ru.ok.wf h) hl) hv.wf),aH hi]
 simp only[dI]
 unfold kM
 cases h:l.findIdx? (rX v) with
 |none=>
  rw[List.findIdx?_eq_none_iff] at h
  rw[List.find?_eq_none.2 fun x hx=>by rw[h x hx]; exact Bool.false_ne_true]
  rfl
 |some k=>
  obtain⟨hk,hq,hj⟩:=List.findIdx?_eq_some_iff_getElem.1 h
  have hf:l.find? (rX v)=some l[k]:=List.find?_eq_some_iff_getElem.2 ⟨hq,k,hk,rfl,fun j hj'=>by simpa using hj j hj'⟩
  rw[hf]
  rw[decide_eq_false (show ¬ rH (some k) < 0 from by show ¬ (k:Int) < 0; omega)]
  refine Eq.trans (show _=bK (l.map Ru.t) (k:Int) fun e=>chk (e.cells.length==6&& !e.aY) (ah.ok (T.au [e,T.bool true])) from rfl) ?_
  rw[aA (aC (List.getElem?_eq_getElem hk))]
  rfl
end
section
open Go.RowKit Go.Proofs
variable [Lv]
def G8:List PV:=[.fn 170 [] [.ptr 0 0,.ptr 1 0,.ptr 2 0,.ptr 3 0],.fn 171 [] [.ptr 3 0,.ptr 0 0,.ptr 1 0],.fn 172 [] [.ptr 3 0,.ptr 0 0],.fn 174 [] [.ptr 0 0,.ptr 1 0,.ptr 3 0,.ptr 6 0],.fn 176 [] [.ptr 0 0,.ptr 1 0,.ptr 2 0,.ptr 3 0,.ptr 5 0]]
def aqN (c:Cf) (k:Int) (x:Px) (p:Pa) (r:T) (o:Int):List aj:=[.box 56 6 (.t c.t),.box 3 1 (.t (i64 k)),.box 25 2 (.t x.t),.box 42 4 (.t p.t),.box 44 6 (.agg [.t (i64 0),.t (i64 0),.nil 3 1,.t (i64 0),.t (i64 0),.t (i64 0)]),.box 123 6 (.t r),.box 3 1 (.t (i64 o)),.vec 26 1 5 G8]
def G7 (c:Cf) (k:Int) (x:Px) (p:Pa) (r:T) (o:Int):List aj:=[.box 56 6 (.t c.t),.box 3 1 (.t (i64 k)),.box 25 2 (.t x.t),.box 42 4 (.t p.t),.box 44 6 (.agg [.t (i64 0),.t (i64 0),.own 8,.t (i64 0),.t (i64 0),.t (i64 0)]),.box 123 6 (.t r),.box 3 1 (.t (i64 o)),.vec 26 1 5 G8,.row 3 1 []]
def Pg (c:Cf) (k:Int) (x:Px) (p:Pa) (r:T) (o:Int):List aj:=[aj.box 56 6 (PV.t c.t),aj.box 3 1 (PV.t (i64 k)),aj.box 25 2 (PV.t x.t),aj.box 42 4 (PV.t p.t),aj.box 44 6 (PV.agg [PV.t (i64 0),PV.t (i64 0),PV.own 8,PV.t (i64 0),PV.t (i64 0),PV.t (i64 0)]),aj.box 123 6 (PV.t r),aj.box 3 1 (PV.t (i64 o)),aj.vec 26 1 5 [PV.fn 170 [] [PV.ptr 0 0,PV.ptr 1 0,PV.ptr 2 0,PV.ptr 3 0],PV.fn 171 [] [PV.ptr 3 0,PV.ptr 0 0,PV.ptr 1 0],PV.fn 172 [] [PV.ptr 3 0,PV.ptr 0 0],PV.fn 174 [] [PV.ptr 0 0,PV.ptr 1 0,PV.ptr 3 0,PV.ptr 6 0],PV.fn 176 [] [PV.ptr 0 0,PV.ptr 1 0,PV.ptr 2 0,PV.ptr 3 0,PV.ptr 5 0]],aj.row 3 1 []]
theorem aqW (N:Nat) (c:Cf) (k:Int) (x:Px) (p:Pa) (r:T) (o:Int) {β:Type} (K:PV→List aj→ah β):fU env (aJ env N) N 170 [.ptr 0 0,.ptr 1 0,.ptr 2 0,.ptr 3 0] [.box 56 6 (.t c.t),.box 3 1 (.t (i64 k)),.box 25 2 (.t x.t),.box 42 4 (.t p.t),.box 44 6 (.agg [.t (i64 0),.t (i64 0),.own 8,.t (i64 0),.t (i64 0),.t (i64 0)]),.box 123 6 (.t r),.box 3 1 (.t (i64 o)),.vec 26 1 5 G8,.row 3 1 []] K=iw N 52 [c.t] fun b=>bif b then iw N 113 [c.t,i64 k] fun b=>bif b then iw N 70 [x.t] fun b=>bif b then cl N 150 [p.t] fun x_1=>K (PV.t x_1) (Pg c k x p r o) else K (PV.t (.bool false)) (Pg c k x p r o) else K (PV.t (.bool false)) (Pg c k x p r o) else K (PV.t (.bool false)) (Pg c k x p r o):=by kernel_rfl
theorem aqX (N:Nat) (c:Cf) (k:Int) (x:Px) (p:Pa) (r:T) (o:Int) {β:Type} (K:PV→List aj→ah β):fU env (aJ env N) N 171 [.ptr 3 0,.ptr 0 0,.ptr 1 0] [.box 56 6 (.t c.t),.box 3 1 (.t (i64 k)),.box 25 2 (.t x.t),.box 42 4 (.t p.t),.box 44 6 (.agg [.t (i64 0),.t (i64 0),.own 8,.t (i64 0),.t (i64 0),.t (i64 0)]),.box 123 6 (.t r),.box 3 1 (.t (i64 o)),.vec 26 1 5 G8,.row 3 1 []] K=bif decide ((↑(ints p.s).length:Int) > 0) then bif decide ((↑(ints p.s).length:Int)≤32) then bK (ints p.s) 0 fun e=>bK (List.map Sd.t c.s) k fun e_1=>iT IntKind.i64 e fun a=>iT IntKind.i64 (e_1.ay 0 1 false) fun b=>K (PV.t (.bool (a==b))) (Pg c k x p r o) else K (PV.t (.bool false)) (Pg c k x p r o) else K (PV.t (.bool false)) (Pg c k x p r o):=by kernel_rfl
theorem aqY (N:Nat) (c:Cf) (k:Int) (x:Px) (p:Pa) (r:T) (o:Int) {β:Type} (K:PV→List aj→ah β):fU env (aJ env N) N 172 [.ptr 3 0,.ptr 0 0] [.box 56 6 (.t c.t),.box 3 1 (.t (i64 k)),.box 25 2 (.t x.t),.box 42 4 (.t p.t),.box 44 6 (.agg [.t (i64 0),.t (i64 0),.own 8,.t (i64 0),.t (i64 0),.t (i64 0)]),.box 123 6 (.t r),.box 3 1 (.t (i64 o)),.vec 26 1 5 G8,.row 3 1 []] K=iw N 173 [T.sl 1 (ints p.s),i64 c.a] fun b=>K (PV.t (.bool !b)) (Pg c k x p r o):=by kernel_rfl
theorem aqZ (N:Nat) (c:Cf) (k:Int) (x:Px) (p:Pa) (r:T) (o:Int) {β:Type} (K:PV→List aj→ah β):fU env (aJ env N) N 174 [.ptr 0 0,.ptr 1 0,.ptr 3 0,.ptr 6 0] [.box 56 6 (.t c.t),.box 3 1 (.t (i64 k)),.box 25 2 (.t x.t),.box 42 4 (.t p.t),.box 44 6 (.agg [.t (i64 0),.t (i64 0),.own 8,.t (i64 0),.t (i64 0),.t (i64 0)]),.box 123 6 (.t r),.box 3 1 (.t (i64 o)),.vec 26 1 5 G8,.row 3 1 []] K=bK (List.map Sd.t c.s) k fun e=>bK (List.map Sd.t c.s) k fun e_1=>cl N 175 [e.ay 1 1 false,e_1.ay 0 1 false,i64 p.c] fun x_1=>aG x_1 0 fun y=>aG x_1 1 fun y_1=>chk (y.cells.length==1&& !y.aY) (K (PV.t y_1) [aj.box 56 6 (.t c.t),.box 3 1 (.t (i64 k)),.box 25 2 (.t x.t),.box 42 4 (.t p.t),.box 44 6 (.agg [PV.t (i64 0),.t (i64 0),.own 8,.t (i64 0),.t (i64 0),.t (i64 0)]),.box 123 6 (.t r),.box 3 1 (.t y),.vec 26 1 5 [PV.fn 170 [] [PV.ptr 0 0,.ptr 1 0,.ptr 2 0,.ptr 3 0],.fn 171 [] [PV.ptr 3 0,.ptr 0 0,.ptr 1 0],.fn 172 [] [PV.ptr 3 0,.ptr 0 0],.fn 174 [] [PV.ptr 0 0,.ptr 1 0,.ptr 3 0,.ptr 6 0],.fn 176 [] [PV.ptr 0 0,.ptr 1 0,.ptr 2 0,.ptr 3 0,.ptr 5 0]],.row 3 1 []]):=by kernel_rfl
theorem aq0 (N:Nat) (c:Cf) (k:Int) (x:Px) (p:Pa) (r:T) (o:Int) {β:Type} (K:PV→List aj→ah β):fU env (aJ env N) N 176 [.ptr 0 0,.ptr 1 0,.ptr 2 0,.ptr 3 0,.ptr 5 0] [.box 56 6 (.t c.t),.box 3 1 (.t (i64 k)),.box 25 2 (.t x.t),.box 42 4 (.t p.t),.box 44 6 (.agg [.t (i64 0),.t (i64 0),.own 8,.t (i64 0),.t (i64 0),.t (i64 0)]),.box 123 6 (.t r),.box 3 1 (.t (i64 o)),.vec 26 1 5 G8,.row 3 1 []] K=bK (List.map Sd.t c.s) k fun e=>bK (List.map Sd.t c.s) k fun e_1=>chk ((e_1.ay 1 1 false).cells.length==1&& !(e_1.ay 1 1 false).aY) (cl N 117 [e.ay 2 1 false,T.agg [i64 x.a,i64 x.n,T.sl 1 (ints p.s),(e_1.ay 1 1 false).cell 0]] fun x_1=>aG x_1 0 fun y=>aG x_1 1 fun y_1=>chk (y.cells.length==6&& !y.aY) (bT y_1 fun b=>bif b then iT IntKind.i64 (y.ay 4 1 false) fun a=>K (PV.t (.bool (a==2))) [aj.box 56 6 (.t c.t),.box 3 1 (.t (i64 k)),.box 25 2 (.t x.t),.box 42 4 (.t p.t),.box 44 6 (.agg [PV.t (i64 0),.t (i64 0),.own 8,.t (i64 0),.t (i64 0),.t (i64 0)]),.box 123 6 (.t y),.box 3 1 (.t (i64 o)),.vec 26 1 5 [PV.fn 170 [] [PV.ptr 0 0,.ptr 1 0,.ptr 2 0,.ptr 3 0],.fn 171 [] [PV.ptr 3 0,.ptr 0 0,.ptr 1 0],.fn 172 [] [PV.ptr 3 0,.ptr 0 0],.fn 174 [] [PV.ptr 0 0,.ptr 1 0,.ptr 3 0,.ptr 6 0],.fn 176 [] [PV.ptr 0 0,.ptr 1 0,.ptr 2 0,.ptr 3 0,.ptr 5 0]],.row 3 1 []] else K (PV.t (.bool false)) [aj.box 56 6 (.t c.t),.box 3 1 (.t (i64 k)),.box 25 2 (.t x.t),.box 42 4 (.t p.t),.box 44 6 (.agg [PV.t (i64 0),.t (i64 0),.own 8,.t (i64 0),.t (i64 0),.t (i64 0)]),.box 123 6 (.t y),.box 3 1 (.t (i64 o)),.vec 26 1 5 [PV.fn 170 [] [PV.ptr 0 0,.ptr 1 0,.ptr 2 0,.ptr 3 0],.fn 171 [] [PV.ptr 3 0,.ptr 0 0,.ptr 1 0],.fn 172 [] [PV.ptr 3 0,.ptr 0 0],.fn 174 [] [PV.ptr 0 0,.ptr 1 0,.ptr 3 0,.ptr 6 0],.fn 176 [] [PV.ptr 0 0,.ptr 1 0,.ptr 2 0,.ptr 3 0,.ptr 5 0]],.row 3 1 []])):=by kernel_rfl
end
end Go.aT
