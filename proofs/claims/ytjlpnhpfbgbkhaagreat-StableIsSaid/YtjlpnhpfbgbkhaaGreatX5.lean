/- The texts of a proof, one behind the other: an interpreter and its soundness, what the functions of the program answer, and plain laws on that. -/
import Derived.Test.YtjlpnhpfbgbkhaaGreatX1
import Derived.Test.YtjlpnhpfbgbkhaaGreatK9
import Derived.Test.YtjlpnhpfbgbkhaaGreatX4
import Derived.Test.YtjlpnhpfbgbkhaaGreatX2
import Derived.Test.YtjlpnhpfbgbkhaaGreatK10
set_option linter.unusedVariables false
set_option linter.unusedSimpArgs false
set_option linter.unnecessarySimpa false
set_option linter.unusedSectionVars false
set_option maxRecDepth 100000
namespace Go.aT
section
open Go.RowKit Go.Proofs
variable [Lv]
def sSz (m i:Int):St:=⟨slots 14 [(3,.t (i64 m)),(4,.t (i64 i))],[]⟩
def sHa (l:List Int) (n i:Int):St:=⟨slots 18 [(0,.t (.sl 1 (ints l))),(1,.t (i64 n)),(5,.t (i64 i))],[]⟩
def sPk (l:List Ru) (v:Vw) (i:Int):St:=⟨slots 24 [(0,.t (.sl 6 (l.map Ru.t))),(3,.ptr 0 0),(4,.ptr 1 0),(6,.t (i64 i))],[.box 137 4 (.t v.t),.box 123 6 (.t (T.agg [i64 0,i64 0,i64 0,i64 0,i64 0,i64 0]))]⟩
def sRu (l:List Ru) (b:Bool) (i:Int):St:=⟨slots 22 [(0,.t (.sl 6 (l.map Ru.t))),(1,.t (.bool b)),(5,.t (i64 i))],[]⟩
def sOw (l:List Px) (i:Int):St:=⟨slots 34 [(0,.t (.sl 2 (l.map Px.t))),(3,.t (i64 i))],[]⟩
def acC (l:List Px) (i k:Int):St:=⟨slots 34 [(0,.t (.sl 2 (l.map Px.t))),(3,.t (i64 i)),(4,.t (i64 k))],[]⟩
def sSi (l:List Sd) (a i:Int):St:=⟨slots 70 [(0,.t (.sl 4 (l.map Sd.t))),(1,.t (i64 a)),(5,.t (i64 i))],[]⟩
def ag7 (l:List Sd) (a i:Int) (s:Sd) (k:Int):St:=⟨slots 70 [(0,.t (.sl 4 (l.map Sd.t))),(1,.t (i64 a)),(5,.t (i64 i)),(6,.ptr 0 0),(7,.t (i64 k))],[.box 86 4 (.t s.t)]⟩
def sPs (p:Pa) (i:Int):St:=⟨slots 59 [(1,.ptr 0 0),(3,.t (i64 i))],[.box 42 4 (.t p.t)]⟩
def sHb (l:List Int) (n i:Int):St:=⟨slots 18 [(0,.t (.sl 1 (ints l))),(1,.t (i64 n)),(5,.t (i64 i))],[]⟩
theorem asF (N:Nat) (n:Int):ak env (N+1) 206 [i64 n]=W [i64 n] (bC env N 206 3 (sSz 1 (dh true [0] n))):=by kernel_rfl
theorem ael (N:Nat) (m i:Int):aF env N 206 0 3 (sSz m i)=bif decide (i < 32) then ah.ok (Ex.norm,sSz (IntKind.i64.wrap (m*2)) (IntKind.i64.wrap (i+1))) else ah.ok (Ex.exit 0,{tmps:=slots 14 [(3,.t (i64 m))],heap:=[]}):=by kernel_rfl
theorem S9 (N:Nat) (m:Int):aP env N 206 0 3 (aW env 206) (.exit 0) (⟨slots 14 [(3,.t (i64 m))],[]⟩)=rI m:=by kernel_rfl
theorem asu (N:Nat) (a n:Int):ak env (N+1) 189 [i64 a,i64 n]=W [i64 a,i64 n] (DI N 206 [i64 n] fun b=>chk (!b==0) (rI (IntKind.i64.wrap (IntKind.i64.wrap (↑(BitVec.ofInt 64 a&&& BitVec.ofInt 64 4294967295).toNat:Int) - (IntKind.i64.wrap (↑(BitVec.ofInt 64 a&&& BitVec.ofInt 64 4294967295).toNat:Int)).tmod b)))):=by kernel_rfl
theorem arX (N:Nat) (x:Px):ak env (N+1) 145 [x.t]=W [x.t] (bif decide (x.n≥0) then bif decide (x.n≤32) then bif decide (x.a≥0) then bif decide (x.a≤4294967295) then DI N 189 [i64 x.a,i64 x.n] fun a=>rB (a==x.a) else rB false else rB false else rB false else rB false):=by kernel_rfl
theorem asG (N:Nat) (x y:Px):ak env (N+1) 207 [x.t,y.t]=W [x.t,y.t] (iw N 145 [x.t] fun b=>bif b then iw N 145 [y.t] fun b=>bif b then bif decide (y.n≥x.n) then DI N 189 [i64 y.a,i64 x.n] fun a=>rB (a==x.a) else rB false else rB false else rB false):=by kernel_rfl
theorem asO (N:Nat) (r:Ru):ak env (N+1) 216 [r.t]=W [r.t] (bif r.m==0 then bif r.x.a==0&&(r.x.n==0&&true) then rB (r.v==0) else rB false else bif r.m==1 then iw N 145 [r.x.t] fun b=>bif b then rB (r.v==0) else rB false else bif r.m==2 then bif r.x.a==0&&(r.x.n==0&&true) then bif decide (r.v≥1) then rB (decide (r.v≤4294967295)) else rB false else rB false else bif r.m==3 then bif r.x.a==0&&(r.x.n==0&&true) then bif decide (r.v≥0) then rB (decide (r.v≤32)) else rB false else rB false else bif r.m==4 then bif r.x.a==0&&(r.x.n==0&&true) then bif decide (r.v≥0) then rB (decide (r.v≤3)) else rB false else rB false else rB false):=by kernel_rfl
theorem asE (N:Nat) (r:Ru) (b:Bool):ak env (N+1) 205 [r.t,.bool b]=W [r.t,.bool b] (iw N 216 [r.t] fun b_1=>bif !b_1 then rB false else bif b then bif r.m==4 then rB false else bif r.a==0 then rB (r.n==0) else bif r.a==1 then bif !b then rB (r.n==0) else rB false else bif r.a==2 then bif b then bif decide (r.n≥1) then rB (decide (r.n≤399)) else rB false else rB false else bif r.a==3 then bif !b then bif decide (r.n≥1) then rB (decide (r.n≤8)) else rB false else rB false else rB false else bif r.a==0 then rB (r.n==0) else bif r.a==1 then bif !b then rB (r.n==0) else rB false else bif r.a==2 then bif b then bif decide (r.n≥1) then rB (decide (r.n≤399)) else rB false else rB false else bif r.a==3 then bif !b then bif decide (r.n≥1) then rB (decide (r.n≤8)) else rB false else rB false else rB false):=by kernel_rfl
theorem asH (N:Nat) (l:List Int) (n:Int):ak env (N+1) 208 [.sl 1 (ints l),i64 n]=W [.sl 1 (ints l),i64 n] (bC env N 208 2 (sHa l n 0)):=by kernel_rfl
theorem aem (N:Nat) (l:List Int) (n i:Int):aF env N 208 0 2 (sHa l n i)=bif decide (i < (↑(ints l).length:Int)) then bK (ints l) i fun e=>iT IntKind.i64 e fun a=>bif a==n then ah.ok (Ex.ret,{tmps:=slots 18 [(4,.t (.bool true))],heap:=[]}) else ah.ok (Ex.norm,sHa l n (IntKind.i64.wrap (i+1))) else ah.ok (Ex.exit 0,{tmps:=slots 18 [],heap:=[]}):=by kernel_rfl
theorem asv (N:Nat) (r:Ru) (v:Vw):ak env (N+1) 190 [r.t,v.t]=W [r.t,v.t] (bif r.m==0 then rB true else bif r.m==1 then cl N 207 [r.x.t,v.x.t] fun x=>ah.ok x else bif r.m==2 then cl N 208 [T.sl 1 (ints v.s),i64 r.v] fun x=>ah.ok x else bif r.m==3 then rB (decide ((↑(ints v.s).length:Int) > r.v)) else bif r.m==4 then rB (v.c==r.v) else rB false):=by kernel_rfl
theorem ar1 (N:Nat) (l:List Ru) (v:Vw):ak env (N+1) 149 [.sl 6 (l.map Ru.t),v.t]=W [.sl 6 (l.map Ru.t),v.t] (bC env N 149 2 {tmps:=slots 24 [(0,.t (.sl 6 (List.map Ru.t l))),(3,.ptr 0 0),(4,.ptr 1 0),(6,.t (i64 0))],heap:=[aj.box 137 4 (.t v.t),.box 123 6 (.t (.agg [i64 0,i64 0,i64 0,i64 0,i64 0,i64 0]))]}):=by kernel_rfl
theorem Xu (N:Nat) (l:List Ru) (v:Vw) (i:Int):aF env N 149 0 2 (sPk l v i)=bif decide (i < (↑(List.map Ru.t l).length:Int)) then bK (List.map Ru.t l) i fun e=>iw N 190 [e,v.t] fun v_1=>bif v_1 then bK (List.map Ru.t l) i fun e=>chk (e.cells.length==6&& !e.aY) (ah.ok (Ex.ret,{tmps:=slots 24 [(4,.ptr 0 0),(5,.t (.bool true))],heap:=[aj.box 123 6 (.t e)]})) else ah.ok (Ex.norm,{tmps:=slots 24 [(0,.t (.sl 6 (List.map Ru.t l))),(3,.ptr 0 0),(4,.ptr 1 0),(6,.t (i64 (IntKind.i64.wrap (i+1))))],heap:=[aj.box 137 4 (.t v.t),.box 123 6 (.t (.agg [i64 0,i64 0,i64 0,i64 0,i64 0,i64 0]))]}) else ah.ok (Ex.exit 0,{tmps:=slots 24 [(4,.ptr 0 0)],heap:=[aj.box 123 6 (.t (.agg [i64 0,i64 0,i64 0,i64 0,i64 0,i64 0]))]}):=by kernel_rfl
theorem asq (N:Nat) (l:List Ru) (b:Bool):ak env (N+1) 187 [.sl 6 (l.map Ru.t),.bool b]=W [.sl 6 (l.map Ru.t),.bool b] (bC env N 187 2 (sRu l b 0)):=by kernel_rfl
theorem aeh (N:Nat) (l:List Ru) (b:Bool) (i:Int):aF env N 187 0 2 (sRu l b i)=bif decide (i < (↑(List.map Ru.t l).length:Int)) then bK (List.map Ru.t l) i fun e=>iw N 205 [e,T.bool b] fun b_1=>bif !b_1 then ah.ok (Ex.ret,{tmps:=slots 22 [(4,.t (.bool false))],heap:=[]}) else ah.ok (Ex.norm,sRu l b (IntKind.i64.wrap (i+1))) else ah.ok (Ex.exit 0,{tmps:=slots 22 [(0,.t (.sl 6 (List.map Ru.t l)))],heap:=[]}):=by kernel_rfl
theorem SS (N:Nat) (l:List Ru):aP env N 187 0 2 (aW env 187) (.exit 0) (⟨slots 22 [(0,.t (.sl 6 (l.map Ru.t)))],[]⟩)=rB (decide ((↑(List.map Ru.t l).length:Int)≤8)):=by kernel_rfl
theorem arS (N:Nat) (n:Int):ak env (N+1) 140 [i64 n]=W [i64 n] (bif n==0 then rB true else bif decide (n≥3) then rB (decide (n≤65535)) else rB false):=by kernel_rfl
theorem arT (N:Nat) (l:List Px):ak env (N+1) 141 [.sl 2 (l.map Px.t)]=W [.sl 2 (l.map Px.t)] (bC env N 141 2 (sOw l 0)):=by kernel_rfl
theorem aec (N:Nat) (l:List Px) (i:Int):aF env N 141 0 2 (sOw l i)=bif decide (i < (↑(List.map Px.t l).length:Int)) then bK (List.map Px.t l) i fun e=>iw N 145 [e] fun b=>bif !b then ah.ok (Ex.ret,{tmps:=slots 34 [(2,.t (.bool false))],heap:=[]}) else qE env N 141 2 7 (acC l i 0) else ah.ok (Ex.exit 0,{tmps:=slots 34 [(0,.t (.sl 2 (List.map Px.t l)))],heap:=[]}):=by kernel_rfl
theorem Ub (N:Nat) (l:List Px) (i k:Int):pq env N 141 0 2 7 (acC l i k)=bif decide (k < i) then bK (List.map Px.t l) k fun e=>bK (List.map Px.t l) i fun e_1=>match T.eX [0,0] e.cells e_1.cells with|some b=>bif b then ah.ok (Ex.ret,{tmps:=slots 34 [(2,.t (.bool false))],heap:=[]}) else ah.ok (Ex.norm,acC l i (IntKind.i64.wrap (k+1)))|none=>ah.stuck else ah.ok (Ex.exit 2,sOw l i):=by kernel_rfl
theorem SC (N:Nat) (l:List Px):aP env N 141 0 2 (aW env 141) (.exit 0) (⟨slots 34 [(0,.t (.sl 2 (l.map Px.t)))],[]⟩)=rB (decide ((↑(List.map Px.t l).length:Int)≤8)):=by kernel_rfl
theorem Nl (N:Nat) (l:List Px) (i:Int):qF env N 141 0 2 7 (.exit 2) (⟨slots 34 [(0,.t (.sl 2 (l.map Px.t))),(3,.t (i64 i))],[]⟩)=ah.ok (Ex.norm,sOw l (IntKind.i64.wrap (i+1))):=by kernel_rfl
theorem arU (N:Nat) (l:List Sd) (a:Int):ak env (N+1) 142 [.sl 4 (l.map Sd.t),i64 a]=W [.sl 4 (l.map Sd.t),i64 a] (bC env N 142 2 (sSi l a 0)):=by kernel_rfl
theorem aed (N:Nat) (l:List Sd) (a i:Int):aF env N 142 0 2 (sSi l a i)=bif decide (i < (↑(List.map Sd.t l).length:Int)) then bK (List.map Sd.t l) i fun e=>chk (e.cells.length==4&& !e.aY) (iT IntKind.i64 (e.ay 0 1 false) fun a_1=>bif decide (a_1 < 1) then ah.ok (Ex.ret,{tmps:=slots 70 [(4,.t (.bool false))],heap:=[]}) else iT IntKind.i64 (e.ay 0 1 false) fun a_2=>bif decide (a_2 > 4294967295) then ah.ok (Ex.ret,{tmps:=slots 70 [(4,.t (.bool false))],heap:=[]}) else iT IntKind.i64 (e.ay 0 1 false) fun Xr=>bif Xr==a then ah.ok (Ex.ret,{tmps:=slots 70 [(4,.t (.bool false))],heap:=[]}) else iT IntKind.i64 (e.ay 1 1 false) fun a_4=>bif decide (a_4 < 1) then ah.ok (Ex.ret,{tmps:=slots 70 [(4,.t (.bool false))],heap:=[]}) else iT IntKind.i64 (e.ay 1 1 false) fun a_5=>bif decide (a_5 > 3) then ah.ok (Ex.ret,{tmps:=slots 70 [(4,.t (.bool false))],heap:=[]}) else iw N 187 [e.ay 2 1 false,T.bool true] fun b=>bif !b then ah.ok (Ex.ret,{tmps:=slots 70 [(4,.t (.bool false))],heap:=[]}) else iw N 187 [e.ay 3 1 false,T.bool false] fun b=>bif !b then ah.ok (Ex.ret,{tmps:=slots 70 [(4,.t (.bool false))],heap:=[]}) else qE env N 142 2 8 {tmps:=slots 70 [(0,.t (.sl 4 (List.map Sd.t l))),(1,.t (i64 a)),(5,.t (i64 i)),(6,.ptr 0 0),(7,.t (i64 0))],heap:=[aj.box 86 4 (.t e)]}) else ah.ok (Ex.exit 0,{tmps:=slots 70 [(0,.t (.sl 4 (List.map Sd.t l)))],heap:=[]}):=by kernel_rfl
theorem Uc (N:Nat) (l:List Sd) (a i:Int) (s:Sd) (k:Int):pq env N 142 0 2 8 (ag7 l a i s k)=bif decide (k < i) then bK (List.map Sd.t l) k fun e=>iT IntKind.i64 (e.ay 0 1 false) fun a_1=>bif a_1==s.a then ah.ok (Ex.ret,{tmps:=slots 70 [(4,.t (.bool false))],heap:=[]}) else ah.ok (Ex.norm,ag7 l a i s (IntKind.i64.wrap (k+1))) else ah.ok (Ex.exit 2,sSi l a i):=by kernel_rfl
theorem SG (N:Nat) (l:List Sd):aP env N 142 0 2 (aW env 142) (.exit 0) (⟨slots 70 [(0,.t (.sl 4 (l.map Sd.t)))],[]⟩)=rB (decide ((↑(List.map Sd.t l).length:Int)≤8)):=by kernel_rfl
theorem Np (N:Nat) (l:List Sd) (a i:Int):qF env N 142 0 2 8 (.exit 2) (⟨slots 70 [(0,.t (.sl 4 (l.map Sd.t))),(1,.t (i64 a)),(5,.t (i64 i))],[]⟩)=ah.ok (Ex.norm,sSi l a (IntKind.i64.wrap (i+1))):=by kernel_rfl
theorem arw (N:Nat) (c:Cf):ak env (N+1) 106 [c.t]=W [c.t] (bif decide (c.a≥1) then bif decide (c.a≤4294967295) then bif decide (c.d≥1) then bif decide (c.d≤4294967295) then iw N 140 [i64 c.h] fun b=>bif b then bif decide (c.k≥1) then bif decide (c.k≤1000) then iw N 141 [T.sl 2 (List.map Px.t c.w)] fun b=>bif b then cl N 142 [T.sl 4 (List.map Sd.t c.s),i64 c.a] fun x=>ah.ok x else rB false else rB false else rB false else rB false else rB false else rB false else rB false else rB false):=by kernel_rfl
theorem arY (N:Nat) (p:Pa):ak env (N+1) 146 [p.t]=W [p.t] (bC env N 146 2 (sPs p 0)):=by kernel_rfl
theorem aee (N:Nat) (p:Pa) (i:Int):aF env N 146 0 2 (sPs p i)=bif decide (i < (↑(ints p.s).length:Int)) then bK (ints p.s) i fun e=>iT IntKind.i64 e fun a=>bif decide (a < 1) then ah.ok (Ex.ret,{tmps:=slots 59 [(2,.t (.bool false))],heap:=[]}) else bK (ints p.s) i fun e=>iT IntKind.i64 e fun a=>bif decide (a > 4294967295) then ah.ok (Ex.ret,{tmps:=slots 59 [(2,.t (.bool false))],heap:=[]}) else ah.ok (Ex.norm,sPs p (IntKind.i64.wrap (i+1))) else ah.ok (Ex.exit 0,{tmps:=slots 59 [(1,.ptr 0 0)],heap:=[aj.box 42 4 (.t p.t)]}):=by kernel_rfl
theorem SH (N:Nat) (p:Pa):aP env N 146 0 2 (aW env 146) (.exit 0) (⟨slots (59) [(1,.ptr 0 0)],[.box 42 4 (.t p.t)]⟩)=bif decide (p.o≥0) then bif decide (p.o≤2) then bif decide ((↑(ints p.s).length:Int)≤255) then bif decide (p.h≥1) then bif decide (p.h≤4294967295) then bif decide (p.c≥0) then rB (decide (p.c≤4294967295)) else rB false else rB false else rB false else rB false else rB false else rB false:=by kernel_rfl
theorem ar9 (N:Nat) (r:Rt):ak env (N+1) 157 [r.t]=W [r.t] (iw N 146 [r.p.t] fun b=>bif !b then rB false else bif decide ((↑(ints r.p.s).length:Int) > 32) then rB false else bif r.f== -1 then bif r.n==400 then bif (↑(ints r.p.s).length:Int)==0 then bif r.p.o==0 then rB (r.p.c==0) else rB false else rB false else rB false else bif decide (r.f≥0) then bif decide (r.f≤7) then bif decide (r.n≥1) then rB (decide (r.n≤399)) else rB false else rB false else rB false):=by kernel_rfl
theorem q75 (N:Nat) (a b:Rt):ak env (N+1) 75 [a.t,b.t]=W [a.t,b.t] (bif a.n==b.n then bif a.f==b.f then cl N 99 [a.p.t,b.p.t] fun x=>ah.ok x else rB false else rB false):=by kernel_rfl
theorem ar0 (N:Nat) (a b c:Int):ak env (N+1) 148 [i64 a,i64 b,i64 c]=W [i64 a,i64 b,i64 c] (bif a==1 then bif c==0 then ah.ok (T.au [i64 0,T.bool true]) else bif a==2 then bif c==0 then ah.ok (T.au [i64 b,T.bool true]) else bif c==b then ah.ok (T.au [i64 b,T.bool true]) else bif a==3 then bif c==0 then ah.ok (T.au [i64 b,T.bool true]) else bif a==3 then ah.ok (T.au [i64 c,T.bool true]) else ah.ok (T.au [i64 0,T.bool false]) else bif a==3 then ah.ok (T.au [i64 c,T.bool true]) else ah.ok (T.au [i64 0,T.bool false]) else bif a==3 then bif c==0 then ah.ok (T.au [i64 b,T.bool true]) else bif a==3 then ah.ok (T.au [i64 c,T.bool true]) else ah.ok (T.au [i64 0,T.bool false]) else bif a==3 then ah.ok (T.au [i64 c,T.bool true]) else ah.ok (T.au [i64 0,T.bool false]) else bif a==2 then bif c==0 then ah.ok (T.au [i64 b,T.bool true]) else bif c==b then ah.ok (T.au [i64 b,T.bool true]) else bif a==3 then bif c==0 then ah.ok (T.au [i64 b,T.bool true]) else bif a==3 then ah.ok (T.au [i64 c,T.bool true]) else ah.ok (T.au [i64 0,T.bool false]) else bif a==3 then ah.ok (T.au [i64 c,T.bool true]) else ah.ok (T.au [i64 0,T.bool false]) else bif a==3 then bif c==0 then ah.ok (T.au [i64 b,T.bool true]) else bif a==3 then ah.ok (T.au [i64 c,T.bool true]) else ah.ok (T.au [i64 0,T.bool false]) else bif a==3 then ah.ok (T.au [i64 c,T.bool true]) else ah.ok (T.au [i64 0,T.bool false])):=by kernel_rfl
theorem asb (N:Nat) (a b c:Int):ak env (N+1) 159 [i64 a,i64 b,i64 c]=W [i64 a,i64 b,i64 c] (bif a==1 then bif c !=0 then ah.ok (T.au [i64 c,T.bool true]) else bif a==1 then bif c==0 then ah.ok (T.au [i64 b,T.bool true]) else bif a==3 then bif c==0 then ah.ok (T.au [i64 0,T.bool true]) else ah.ok (T.au [i64 0,T.bool false]) else ah.ok (T.au [i64 0,T.bool false]) else bif a==2 then bif c==0 then ah.ok (T.au [i64 b,T.bool true]) else bif a==3 then bif c==0 then ah.ok (T.au [i64 0,T.bool true]) else ah.ok (T.au [i64 0,T.bool false]) else ah.ok (T.au [i64 0,T.bool false]) else bif a==3 then bif c==0 then ah.ok (T.au [i64 0,T.bool true]) else ah.ok (T.au [i64 0,T.bool false]) else ah.ok (T.au [i64 0,T.bool false]) else bif a==1 then bif c==0 then ah.ok (T.au [i64 b,T.bool true]) else bif a==3 then bif c==0 then ah.ok (T.au [i64 0,T.bool true]) else ah.ok (T.au [i64 0,T.bool false]) else ah.ok (T.au [i64 0,T.bool false]) else bif a==2 then bif c==0 then ah.ok (T.au [i64 b,T.bool true]) else bif a==3 then bif c==0 then ah.ok (T.au [i64 0,T.bool true]) else ah.ok (T.au [i64 0,T.bool false]) else ah.ok (T.au [i64 0,T.bool false]) else bif a==3 then bif c==0 then ah.ok (T.au [i64 0,T.bool true]) else ah.ok (T.au [i64 0,T.bool false]) else ah.ok (T.au [i64 0,T.bool false])):=by kernel_rfl
theorem asa (N:Nat) (c:Cf) (k:Int):ak env (N+1) 158 [c.t,i64 k]=W [c.t,i64 k] (iw N 144 [c.t,i64 k] fun b=>bif !b then rI 0 else bK (List.map Sd.t c.s) k fun e=>ah.ok (e.ay 1 1 false)):=by kernel_rfl
theorem arW (N:Nat) (c:Cf) (k:Int):ak env (N+1) 144 [c.t,i64 k]=W [c.t,i64 k] (bif decide (k≥0) then rB (decide (k < (↑(List.map Sd.t c.s).length:Int))) else rB false):=by kernel_rfl
theorem arZ (N:Nat) (l:List Int) (n:Int):ak env (N+1) 147 [.sl 1 (ints l),i64 n]=W [.sl 1 (ints l),i64 n] (bC env N 147 2 (sHa l n 0)):=by kernel_rfl
theorem aef (N:Nat) (l:List Int) (n i:Int):aF env N 147 0 2 (sHb l n i)=bif decide (i < (↑(ints l).length:Int)) then bK (ints l) i fun e=>iT IntKind.i64 e fun a=>bif a==n then ah.ok (Ex.ret,{tmps:=slots 18 [(4,.t (.bool true))],heap:=[]}) else ah.ok (Ex.norm,sHa l n (IntKind.i64.wrap (i+1))) else ah.ok (Ex.exit 0,{tmps:=slots 18 [],heap:=[]}):=by kernel_rfl
theorem arA (N:Nat) (c:Cf) (k:Int) (x:Px) (p:Pa):ak env (N+1) 109 [c.t,i64 k,x.t,p.t]=W [c.t,i64 k,x.t,p.t] (iw N 106 [c.t] fun b=>bif !b then ah.ok (T.au [T.agg [i64 0,i64 0,T.sl 1 [],i64 0,i64 0,i64 0],T.bool false]) else iw N 144 [c.t,i64 k] fun b=>bif !b then ah.ok (T.au [T.agg [i64 0,i64 0,T.sl 1 [],i64 0,i64 0,i64 0],T.bool false]) else iw N 145 [x.t] fun b=>bif !b then ah.ok (T.au [T.agg [i64 0,i64 0,T.sl 1 [],i64 0,i64 0,i64 0],T.bool false]) else iw N 146 [p.t] fun b=>bif !b then ah.ok (T.au [T.agg [i64 0,i64 0,T.sl 1 [],i64 0,i64 0,i64 0],T.bool false]) else bK (List.map Sd.t c.s) k fun e=>chk (e.cells.length==4&& !e.aY) (bif (↑(ints p.s).length:Int)==0 then ah.ok (T.au [T.agg [i64 0,i64 0,T.sl 1 [],i64 0,i64 0,i64 0],T.bool false]) else bK (ints p.s) 0 fun e_1=>iT IntKind.i64 e_1 fun a=>iT IntKind.i64 (e.ay 0 1 false) fun b=>bif a !=b then ah.ok (T.au [T.agg [i64 0,i64 0,T.sl 1 [],i64 0,i64 0,i64 0],T.bool false]) else iw N 147 [T.sl 1 (ints p.s),i64 c.a] fun b=>bif b then ah.ok (T.au [T.agg [i64 0,i64 0,T.sl 1 [],i64 0,i64 0,i64 0],T.bool false]) else bif decide ((↑(ints p.s).length:Int) > 32) then ah.ok (T.au [T.agg [i64 0,i64 0,T.sl 1 [],i64 0,i64 0,i64 0],T.bool false]) else cl N 148 [e.ay 1 1 false,e.ay 0 1 false,i64 p.c] fun x_1=>aG x_1 0 fun y=>aG x_1 1 fun y_1=>chk ((e.ay 1 1 false).cells.length==1&& !(e.ay 1 1 false).aY) (cl N 149 [e.ay 2 1 false,T.agg [i64 x.a,i64 x.n,T.sl 1 (ints p.s),(e.ay 1 1 false).cell 0]] fun x=>aG x 0 fun nO=>aG x 1 fun xu=>chk (nO.cells.length==6&& !nO.aY) (bT y_1 fun b=>bif !b then ah.ok (T.au [T.agg [i64 0,i64 0,T.sl 1 [],i64 0,i64 0,i64 0],T.bool false]) else bT xu fun b=>bif !b then ah.ok (T.au [T.agg [i64 0,i64 0,T.sl 1 [],i64 0,i64 0,i64 0],T.bool false]) else iT IntKind.i64 (nO.ay 4 1 false) fun a=>bif a !=2 then ah.ok (T.au [T.agg [i64 0,i64 0,T.sl 1 [],i64 0,i64 0,i64 0],T.bool false]) else chk (y.cells.length==1&& !y.aY) (chk ((nO.ay 5 1 false).cells.length==1&& !(nO.ay 5 1 false).aY) (ah.ok (T.au [T.agg [(nO.ay 5 1 false).cell 0,i64 p.o,T.sl 1 (ints p.s),i64 p.h,(T.agg [i64 p.o,T.sl 1 (ints p.s),i64 p.h,y.cell 0]).cell 3,i64 k],T.bool true]))))))):=by kernel_rfl
end
section
open Go.RowKit Go.Proofs
variable [Lv]
theorem ZL (N:Nat) (v:Bool):aP env N 208 0 2 (aW env 208) (.ret) (⟨slots 18 [(4,.t (.bool v))],[]⟩)=rB v:=by kernel_rfl
theorem Tc (N:Nat):aP env N 208 0 2 (aW env 208) (.exit 0) (⟨slots 18 [],[]⟩)=rB false:=by kernel_rfl
theorem ZE (N:Nat) (v:Bool):aP env N 147 0 2 (aW env 147) (.ret) (⟨slots 18 [(4,.t (.bool v))],[]⟩)=rB v:=by kernel_rfl
theorem SK (N:Nat):aP env N 147 0 2 (aW env 147) (.exit 0) (⟨slots 18 [],[]⟩)=rB false:=by kernel_rfl
theorem ZF (N:Nat) (u:Ru):aP env N 149 0 2 (aW env 149) (.ret) (⟨slots 24 [(4,.ptr 0 0),(5,.t (.bool true))],[.box 123 6 (.t u.t)]⟩)=ah.ok (T.au [u.t,T.bool true]):=by kernel_rfl
theorem SL (N:Nat) (z:T):aP env N 149 0 2 (aW env 149) (.exit 0) (⟨slots 24 [(4,.ptr 0 0)],[.box 123 6 (.t z)]⟩)=ah.ok (T.au [T.agg [i64 0,i64 0,i64 0,i64 0,i64 0,i64 0],T.bool false]):=by kernel_rfl
theorem ZI (N:Nat) (v:Bool):aP env N 187 0 2 (aW env 187) (.ret) (⟨slots 22 [(4,.t (.bool v))],[]⟩)=rB v:=by kernel_rfl
theorem ZA (N:Nat) (v:Bool):aP env N 141 0 2 (aW env 141) (.ret) (⟨slots 34 [(2,.t (.bool v))],[]⟩)=rB v:=by kernel_rfl
theorem SB (N:Nat) (v:Bool):qF env N 141 0 2 7 (.ret) (⟨slots 34 [(2,.t (.bool v))],[]⟩)=ah.ok (Ex.ret,{tmps:=slots 34 [(2,.t (.bool v))],heap:=[]}):=by kernel_rfl
theorem ZB (N:Nat) (v:Bool):aP env N 142 0 2 (aW env 142) (.ret) (⟨slots 70 [(4,.t (.bool v))],[]⟩)=rB v:=by kernel_rfl
theorem SE (N:Nat) (v:Bool):qF env N 142 0 2 8 (.ret) (⟨slots 70 [(4,.t (.bool v))],[]⟩)=ah.ok (Ex.ret,{tmps:=slots 70 [(4,.t (.bool v))],heap:=[]}):=by kernel_rfl
theorem ZC (N:Nat) (v:Bool):aP env N 146 0 2 (aW env 146) (.ret) (⟨slots 59 [(2,.t (.bool v))],[]⟩)=rB v:=by kernel_rfl
end
section
open Go.RowKit Go.Proofs
variable [Lv]
def sSP (a b:Pa) (i:Int):St:=⟨slots 52 [(2,.ptr 0 0),(3,.ptr 1 0),(5,.t (i64 i))],[.box 42 4 (.t a.t),.box 42 4 (.t b.t)]⟩
theorem q99 (N:Nat) (a b:Pa):ak env (N+1) 99 [a.t,b.t]=W [a.t,b.t] (bif a.o !=b.o then rB false else bif a.h !=b.h then rB false else bif a.c !=b.c then rB false else bif (↑(ints a.s).length:Int) !=(↑(ints b.s).length:Int) then rB false else bC env N 99 4 {tmps:=slots 52 [(2,.ptr 0 0),(3,.ptr 1 0),(5,.t (i64 0))],heap:=[aj.box 42 4 (.t a.t),.box 42 4 (.t b.t)]}):=by kernel_rfl
theorem adK (N:Nat) (a b:Pa) (i:Int):aF env N 99 0 4 (sSP a b i)=bif decide (i < (↑(ints a.s).length:Int)) then bK (ints a.s) i fun e=>bK (ints b.s) i fun e_1=>iT IntKind.i64 e fun a_1=>iT IntKind.i64 e_1 fun b_1=>bif a_1 !=b_1 then ah.ok (Ex.ret,{tmps:=slots 52 [(4,.t (.bool false))],heap:=[]}) else ah.ok (Ex.norm,sSP a b (IntKind.i64.wrap (i+1))) else ah.ok (Ex.exit 0,{tmps:=slots 52 [],heap:=[]}):=by kernel_rfl
theorem Xk (N:Nat) (H:List aj):aP env N 99 0 4 (aW env 99) (.exit 0) (⟨slots 52 [],H⟩)=rB true:=by kernel_rfl
theorem adi (N:Nat) (H:List aj) (v:Bool):aP env N 99 0 4 (aW env 99) (.ret) (⟨slots 52 [(4,.t (.bool v))],H⟩)=rB v:=by kernel_rfl
end
section
open Go.RowKit Go.Proofs
variable [Lv]
theorem acJ {M:Nat} {a b:Pa} (hM:big+1≤M) (ha:a.s.length≤big) (hs:a.s.length=b.s.length):bC env M 99 4 (sSP a b 0)=rB (decide (a.s=b.s)):=by
 have hit:=fB (B:=aF env M 99 0 4) (S:=fun i=>sSP a b i) (R:=fun _=>⟨slots 52 [(4,.t (.bool false))],[]⟩) (X:=⟨slots 52 [],[]⟩) (id:=0) (fun i=> !(a.s[i]? ==b.s[i]?)) a.s.length 0 M (by omega)
  (fun j h0 h1 hp=>by
   have hj:j < a.s.length:=by omega
   have e1:a.s[j]? =some a.s[j]:=List.getElem?_eq_getElem hj
   have e2:b.s[j]? =some (b.s[j]'(by omega)):=List.getElem?_eq_getElem (by omega)
   rw[adK,decide_eq_true (by rw[bg,List.length_map]; omega)]
   simp only[cond_true]
   rw[aA (iV e1),aA (iV e2)]
   simp only[dI]
   rw[e1,e2] at hp
   have:(a.s[j] !=b.s[j]'(by omega))=true:=by simpa using hp
   rw[this]; rfl)
  (fun j h0 h1 hp=>by
   have hj:j < a.s.length:=by omega
   have e1:a.s[j]? =some a.s[j]:=List.getElem?_eq_getElem hj
   have e2:b.s[j]? =some (b.s[j]'(by omega)):=List.getElem?_eq_getElem (by omega)
   rw[adK,decide_eq_true (by rw[bg,List.length_map]; omega)]
   simp only[cond_true]
   rw[aA (iV e1),aA (iV e2)]
   simp only[dI]
   rw[e1,e2] at hp
   have:(a.s[j] !=b.s[j]'(by omega))=false:=by simpa using hp
   rw[this,wrap_succ (show j≤big by omega)]; rfl)
  (by rw[Nat.zero_add,adK,decide_eq_false (by rw[bg,List.length_map]; omega)]; rfl)
 cases hk:dF (fun i=> !(a.s[i]? ==b.s[i]?)) 0 a.s.length with
 |some j=>
  rw[hk] at hit
  obtain⟨_,hj,hp⟩:=iK hk
  refine(aQ hit).trans ((adi M [] false).trans ?_)
  rw[decide_eq_false]
  intro he
  rw[he] at hp
  simp at hp
 |none=>
  rw[hk] at hit
  refine(aQ hit).trans ((Xk M []).trans ?_)
  rw[decide_eq_true]
  refine List.ext_getElem? fun i=>?_
  rcases Nat.lt_or_ge i a.s.length with hi|hi
  · have:=gI hk i (by omega) (by omega)
    simpa using this
  · rw[List.getElem?_eq_none hi,List.getElem?_eq_none (by omega)]
theorem amr {M:Nat} {a b:Pa} (hM:big+1≤M) (ha:a.ok) (hb:b.ok):ak env (M+1) 99 [a.t,b.t]= .ok (.bool (decide (a=b))):=by
 have e:decide (a=b)=(decide (a.o=b.o)&&(decide (a.h=b.h)&&(decide (a.c=b.c)&&decide (a.s=b.s)))):=by
  rw[Bool.eq_iff_iff]
  simp only[decide_eq_true_eq,Bool.and_eq_true]
  obtain⟨o,s,h,c⟩:=a
  obtain⟨o',s',h',c'⟩:=b
  simp only[Pa.mk.injEq]
  constructor
  · rintro⟨h1,h2,h3,h4⟩; exact⟨h1,h3,h4,h2⟩
  · rintro⟨h1,h3,h4,h2⟩; exact⟨h1,h2,h3,h4⟩
 rw[e,q99,aX (dM ha.wf hb.wf)]
 by_cases h1:a.o=b.o
 case neg=>rw[bne_iff_ne.2 h1,decide_eq_false h1]; rfl
 by_cases h2:a.h=b.h
 case neg=>rw[h1,bne_self_eq_false,bne_iff_ne.2 h2,decide_eq_false h2]; simp
 by_cases h3:a.c=b.c
 case neg=>rw[h1,h2,bne_self_eq_false,bne_self_eq_false,bne_iff_ne.2 h3,decide_eq_false h3]; simp
 rw[h1,h2,h3,bne_self_eq_false,bne_self_eq_false,bne_self_eq_false]
 simp only[cond_false,decide_true,Bool.true_and]
 rw[bg,bg,List.length_map,List.length_map]
 by_cases h4:a.s.length=b.s.length
 · rw[h4,bne_self_eq_false]
   exact acJ hM ha.l h4
 · rw[bne_iff_ne.2 (show(a.s.length:Int)≠(b.s.length:Int) by omega),decide_eq_false (fun h=>h4 (by rw[h]))]; rfl
end
section
open Go.RowKit Go.Proofs
theorem Bz {p:Nat→Bool}:∀ {k i j:Nat},dF p i k=some j→∀ m,i≤m→m < j→p m=false
 |0,i,j,h,m,a,b=>by simp[dF] at h
 |k+1,i,j,h,m,a,b=>by
  cases hp:p i with
  |true=>simp[dF,hp] at h; omega
  |false=>
   simp only[dF,hp,cond_false] at h
   rcases Nat.lt_or_ge i m with c|c
   · exact Bz h m (by omega) b
   · have:m=i:=by omega
     subst this; exact hp
def adX (n:Int):Int:=2 ^ (32 - max n 0).toNat
theorem Eo {s:Nat} (h:s≤32):(2:Int) ^ s≤4294967296∧0 < (2:Int) ^ s:=by
 constructor
 · have:(2:Int) ^ s≤2 ^ 32:=by exact_mod_cast Nat.pow_le_pow_right (by omega) h
   simpa using this
 · exact_mod_cast Nat.pow_pos (by omega:0 < 2)
theorem FP (a:Int):0≤((BitVec.toNat (BitVec.ofInt 64 a&&& BitVec.ofInt 64 4294967295):Nat):Int)∧((BitVec.toNat (BitVec.ofInt 64 a&&& BitVec.ofInt 64 4294967295):Nat):Int)≤4294967295:=by
 have h:BitVec.toNat (BitVec.ofInt 64 a&&& BitVec.ofInt 64 4294967295)≤4294967295:=by
  rw[BitVec.toNat_and]
  exact Nat.le_trans Nat.and_le_right (by decide)
 omega
theorem aaK {a n:Int} (h0:0≤n) (h1:n≤32):Ak a n=((BitVec.toNat (BitVec.ofInt 64 a&&& BitVec.ofInt 64 4294967295):Nat):Int) / 2 ^ (32 - n).toNat*2 ^ (32 - n).toNat:=by
 have hx:=FP a
 have hs:Fq n=32 - n:=by rw[Qa]; omega
 unfold Ak
 rw[hs,Nat.min_eq_left (show(32 - n).toNat≤64 by omega)]
 generalize ((BitVec.toNat (BitVec.ofInt 64 a&&& BitVec.ofInt 64 4294967295):Nat):Int)=y at hx ⊢
 obtain⟨p1,p2⟩:=Eo (s:=(32 - n).toNat) (by omega)
 generalize (2:Int) ^ (32 - n).toNat=p at p1 p2 ⊢
 have e1:IntKind.i64.wrap y=y:=wrap64 (by omega)
 rw[e1,Int.fdiv_eq_ediv_of_nonneg y (by omega)]
 have q1:=Int.ediv_mul_le y (show p≠0 by omega)
 have q2:0≤y / p*p:=Int.mul_nonneg (Int.ediv_nonneg hx.1 (by omega)) (by omega)
 rw[wrap64 (by omega)]
theorem Y2 {a n:Int} (h0:0≤n) (h1:n≤32):0≤Ak a n∧Ak a n≤4294967295:=by
 rw[aaK h0 h1]
 have hx:=FP a
 generalize ((BitVec.toNat (BitVec.ofInt 64 a&&& BitVec.ofInt 64 4294967295):Nat):Int)=y at hx ⊢
 obtain⟨p1,p2⟩:=Eo (s:=(32 - n).toNat) (by omega)
 generalize (2:Int) ^ (32 - n).toNat=p at p1 p2 ⊢
 have q1:=Int.ediv_mul_le y (show p≠0 by omega)
 have q2:0≤y / p*p:=Int.mul_nonneg (Int.ediv_nonneg hx.1 (by omega)) (by omega)
 omega
theorem yj {α κ:Type} [DecidableEq κ] {kf:α→κ} {q:α→Bool}:∀ {l:List α} {s:List κ},ji kf q s l=true↔∀ (i:Nat) (x:α),l[i]? =some x→(s++(l.take i).map kf).contains (kf x)=false∧q x=true
 | [],s=>by simp[ji]
 |y::l,s=>by
  unfold ji
  rw[Bool.and_eq_true,Bool.and_eq_true,yj]
  constructor
  · rintro⟨h1,h2,h3⟩ i x hx
    cases i with
    |zero=>
     simp only[List.getElem?_cons_zero,Option.some.injEq] at hx
     subst hx
     refine⟨?_,h2⟩
     simpa using h1
    |succ i=>
     have:=h3 i x (by simpa using hx)
     rw[List.take_succ_cons,List.map_cons]
     rw[List.append_assoc] at this
     exact this
  · intro h
    have h0:=h 0 y rfl
    refine⟨by simpa using h0.1,h0.2,fun i x hx=>?_⟩
    have:=h (i+1) x (by simpa using hx)
    rw[List.take_succ_cons,List.map_cons] at this
    rw[List.append_assoc]
    exact this
variable [Lv]
theorem ais {M:Nat} {n:Int} (hM:40≤M) (hn:aV n=true):ak env (M+1) 206 [i64 n]= .ok (i64 (adX n)):=by
 rw[asF,aX (gJ (aZ hn))]
 have hm:dh true [0] n=max n 0:=by
  simp only[dh,cond_true]
  split<;>omega
 rw[hm]
 have main:∀ (d k:Nat) (i m:Int),(32 - i).toNat=d→0≤i→i≤9223372036854775807→0≤m→m*2 ^ d≤4294967296→d < k→bF (aF env M 206 0 3) k (sSz m i)= .ok (.exit 0,⟨slots 14 [(3,.t (i64 (m*2 ^ d)))],[]⟩):=by
  intro d
  induction d with
  |zero=>
   intro k i m hd h0 h9 hm0 hm1 hk
   obtain⟨k,rfl⟩:∃ j,k=j+1:=⟨k - 1,by omega⟩
   have hb:aF env M 206 0 3 (sSz m i)= .ok (.exit 0,⟨slots 14 [(3,.t (i64 (m*2 ^ 0)))],[]⟩):=by
    rw[ael,decide_eq_false (by omega),Int.pow_zero,Int.mul_one]; rfl
   exact dV hb
  |succ d ih=>
   intro k i m hd h0 h9 hm0 hm1 hk
   obtain⟨k,rfl⟩:∃ j,k=j+1:=⟨k - 1,by omega⟩
   have hp:(1:Int)≤2 ^ d:=(by exact_mod_cast Nat.pow_pos (by omega:0 < 2):(0:Int) < 2 ^ d)
   have e:m*2 ^ (d+1)=(m*2)*2 ^ d:=by rw[Int.pow_succ,Int.mul_comm (2 ^ d) 2,Int.mul_assoc]
   have hle:m*2≤4294967296:=by
    rw[e] at hm1
    exact Int.le_trans (by have:=Int.mul_le_mul_of_nonneg_left hp (show 0≤m*2 by omega); omega) hm1
   have hb:aF env M 206 0 3 (sSz m i)= .ok (.norm,sSz (m*2) (i+1)):=by
    rw[ael,decide_eq_true (by omega),wrap64 (by omega),wrap64 (by omega)]; rfl
   rw[bf hb,e]
   exact ih k (i+1) (m*2) (by omega) (by omega) (by omega) (by omega) (by rw[←e]; exact hm1) (by omega)
 have hn':=iH.1 hn
 have hd:(32 - max n 0).toNat≤32:=by omega
 obtain⟨p1,p2⟩:=Eo hd
 have it:=main (32 - max n 0).toNat M (max n 0) 1 rfl (by omega) (by omega) (by omega) (by rw[Int.one_mul]; exact p1) (by omega)
 refine(aQ it).trans ((S9 M _).trans ?_)
 rw[Int.one_mul]; rfl
theorem aar {M:Nat} {a n:Int} (hM:42≤M) (ha:aV a=true) (hn:aV n=true) (h0:0≤n) (h1:n≤32):ak env (M+1) 189 [i64 a,i64 n]= .ok (i64 (Ak a n)):=by
 obtain⟨m,rfl⟩:=dJ (show 1≤M by omega)
 rw[asu,aX (dM (aZ ha) (aZ hn)),nG (ais (by omega) hn),aaK h0 h1]
 have hs:adX n=2 ^ (32 - n).toNat:=by unfold adX; rw[show max n 0=n by omega]
 rw[hs]
 have hx:=FP a
 generalize ((BitVec.toNat (BitVec.ofInt 64 a&&& BitVec.ofInt 64 4294967295):Nat):Int)=y at hx ⊢
 obtain⟨p1,p2⟩:=Eo (s:=(32 - n).toNat) (by omega)
 generalize (2:Int) ^ (32 - n).toNat=p at p1 p2 ⊢
 have hp:(p==0)=false:=beq_eq_false_iff_ne.2 (by omega)
 rw[hp,wrap64 (show -9223372036854775808≤y∧y≤9223372036854775807 by omega),Int.tmod_eq_emod_of_nonneg hx.1]
 have q1:=Int.ediv_mul_le y (show p≠0 by omega)
 have q2:0≤y / p*p:=Int.mul_nonneg (Int.ediv_nonneg hx.1 (by omega)) (by omega)
 have q3:y - y % p=y / p*p:=by have:=Int.emod_add_mul_ediv y p; rw[Int.mul_comm] at this; omega
 rw[q3,wrap64 (by omega)]
 rfl
theorem wH {M:Nat} {x:Px} (hM:44≤M) (h:x.ok):ak env (M+1) 145 [x.t]= .ok (.bool (dB x)):=by
 obtain⟨m,rfl⟩:=dJ (show 1≤M by omega)
 rw[arX,aX (gJ h.wf)]
 unfold dB
 by_cases h0:x.n≥0
 case neg=>rw[decide_eq_false h0]; rfl
 by_cases h1:x.n≤32
 case neg=>rw[decide_eq_true h0,decide_eq_false h1]; rfl
 have hr:=Y2 (a:=x.a) h0 h1
 rw[decide_eq_true h0,decide_eq_true h1]
 simp only[cond_true,Bool.true_and]
 by_cases h2:x.a≥0
 case neg=>rw[decide_eq_false h2,beq_eq_false_iff_ne.2 (show x.a≠Ak x.a x.n by omega)]; rfl
 by_cases h3:x.a≤4294967295
 case neg=>rw[decide_eq_true h2,decide_eq_false h3,beq_eq_false_iff_ne.2 (show x.a≠Ak x.a x.n by omega)]; rfl
 rw[decide_eq_true h2,decide_eq_true h3]
 simp only[cond_true]
 rw[nG (aar (by omega) h.a h.n h0 h1),Bool.beq_comm]
theorem ait {M:Nat} {x y:Px} (hM:46≤M) (h:x.ok) (h':y.ok):ak env (M+1) 207 [x.t,y.t]= .ok (.bool (ab8 x y)):=by
 obtain⟨m,rfl⟩:=dJ (show 1≤M by omega)
 rw[asG,aX (dM h.wf h'.wf),bJ (wH (by omega) h)]
 unfold ab8
 cases hx:dB x with
 |false=>rfl
 |true=>
 rw[cond_true,bJ (wH (by omega) h')]
 cases hy:dB y with
 |false=>rfl
 |true=>
 have hx2:0≤x.n∧x.n≤32:=by unfold dB at hx; simp only[Bool.and_eq_true,decide_eq_true_eq] at hx; exact⟨hx.1,hx.2.1⟩
 simp only[cond_true,Bool.true_and]
 by_cases h1:x.n≤y.n
 · rw[decide_eq_true (show y.n≥x.n from h1)]
   simp only[cond_true]
   rw[nG (aar (by omega) h'.a h.n hx2.1 hx2.2)]
   rfl
 · rw[decide_eq_false (show ¬ y.n≥x.n from h1)]; rfl
theorem DJ {n:Int}:decide (n≥1)=decide (n > 0):=decide_eq_decide.2 (by omega)
theorem dec_lt {n:Int}:decide (n≤399)=decide (n < 400):=decide_eq_decide.2 (by omega)
theorem ad1 {a b:Bool}:(bif a then rB b else rB false)= .ok (.bool (a&&b)):=by cases a<;>rfl
theorem aiA {M:Nat} {r:Ru} (hM:46≤M) (h:r.ok):ak env (M+1) 216 [r.t]= .ok (.bool (jG r)):=by
 obtain⟨m,rfl⟩:=dJ (show 1≤M by omega)
 rw[asO,aX (gJ h.wf)]
 unfold jG vZ
 by_cases h0:r.m=0
 · rw[h0,if_pos rfl]
   have:(r.v==0)=(decide (r.v≥0)&&decide (r.v≤0)):=by
    rw[Bool.eq_iff_iff,beq_iff_eq,Bool.and_eq_true,decide_eq_true_eq,decide_eq_true_eq]; omega
   rw[this]
   exact ad1
 rw[beq_eq_false_iff_ne.2 h0,if_neg h0]
 by_cases h1:r.m=1
 · rw[h1,if_pos rfl]
   simp only[cond_false,beq_self_eq_true,cond_true]
   rw[bJ (wH (by omega) h.x)]
   exact ad1
 rw[beq_eq_false_iff_ne.2 h1,if_neg h1]
 by_cases h2:r.m=2
 · rw[h2,if_pos rfl]
   simp only[cond_false,beq_self_eq_true,cond_true,jE]
 rw[beq_eq_false_iff_ne.2 h2,if_neg h2]
 by_cases h3:r.m=3
 · rw[h3,if_pos rfl]
   simp only[cond_false,beq_self_eq_true,cond_true,jE]
 rw[beq_eq_false_iff_ne.2 h3,if_neg h3]
 by_cases h4:r.m=4
 · rw[h4,if_pos rfl]
   simp only[cond_false,beq_self_eq_true,cond_true,jE]
 rw[beq_eq_false_iff_ne.2 h4,if_neg h4]
 rfl
theorem air {M:Nat} {r:Ru} {b:Bool} (hM:48≤M) (h:r.ok):ak env (M+1) 205 [r.t,.bool b]= .ok (.bool (pG r b)):=by
 obtain⟨m,rfl⟩:=dJ (show 1≤M by omega)
 rw[asE,aX (dM h.wf (Aw b)),bJ (aiA (by omega) h)]
 unfold pG
 cases jG r with
 |false=>rfl
 |true=>
 have key:(bif r.a==0 then rB (r.n==0) else bif r.a==1 then bif !b then rB (r.n==0) else rB false else bif r.a==2 then bif b then bif decide (r.n≥1) then rB (decide (r.n≤399)) else rB false else rB false else bif r.a==3 then bif !b then bif decide (r.n≥1) then rB (decide (r.n≤8)) else rB false else rB false else rB false)= .ok (.bool (FN r b)):=by
  unfold FN
  rw[DJ,dec_lt]
  by_cases h0:r.a=0
  · rw[h0,if_pos rfl]; rfl
  rw[beq_eq_false_iff_ne.2 h0,if_neg h0]
  by_cases h1:r.a=1
  · rw[h1,if_pos rfl]; simp only[cond_false,beq_self_eq_true,cond_true,jE]
  rw[beq_eq_false_iff_ne.2 h1,if_neg h1]
  by_cases h2:r.a=2
  · rw[h2,if_pos rfl]; simp only[cond_false,beq_self_eq_true,cond_true,jE]
  rw[beq_eq_false_iff_ne.2 h2,if_neg h2]
  by_cases h3:r.a=3
  · rw[h3,if_pos rfl]; simp only[cond_false,beq_self_eq_true,cond_true,jE]
  rw[beq_eq_false_iff_ne.2 h3,if_neg h3]
  rfl
 simp only[Bool.not_true,cond_false]
 rw[key]
 cases b with
 |false=>rfl
 |true=>cases r.m==4<;>rfl
theorem aiu {M:Nat} {l:List Int} {n:Int} (hM:big+1≤M) (hl:cO okI l) (hn:aV n=true):ak env (M+1) 208 [.sl 1 (ints l),i64 n]= .ok (.bool (l.contains n)):=by
 have hb:=hl.1
 rw[asH,aX (dM (qK hl) (aZ hn))]
 have it:=vH (B:=aF env M 208 0 2) (S:=fun i=>sHa l n i) (R:=⟨slots 18 [(4,.t (.bool true))],[]⟩) (X:=⟨slots 18 [],[]⟩) (id:=0) (fun x=>x==n) l (n:=M) (by omega) (fun j x hx=>by
  have hj:=(List.getElem?_eq_some_iff.1 hx).1
  rw[aem,decide_eq_true (by rw[bg,List.length_map]; omega)]
  simp only[cond_true]
  rw[aA (iV hx)]
  simp only[dI]
  rw[wrap_succ (show j≤big by omega)]) (by rw[aem,decide_eq_false (by rw[bg,List.length_map]; omega)]; rfl)
 have e:l.any (fun x=>x==n)=l.contains n:=by
  rw[Bool.eq_iff_iff,List.any_eq_true,List.contains_iff_mem]
  exact⟨fun⟨x,h,e⟩=>(beq_iff_eq.1 e) ▸ h,fun h=>⟨n,h,beq_self_eq_true n⟩⟩
 rw[e] at it
 cases hc:l.contains n with
 |true=>rw[hc] at it; exact(aQ it).trans (ZL M true)
 |false=>rw[hc] at it; exact(aQ it).trans (Tc M)
theorem aas {M:Nat} {r:Ru} {v:Vw} (hM:big+50≤M) (h:r.ok) (hv:v.ok):ak env (M+1) 190 [r.t,v.t]= .ok (.bool (rX v r)):=by
 obtain⟨m,rfl⟩:=dJ (show 1≤M by omega)
 rw[asv,aX (dM h.wf hv.wf)]
 unfold rX
 by_cases h0:r.m=0
 · rw[h0,if_pos rfl]; rfl
 rw[beq_eq_false_iff_ne.2 h0,if_neg h0]
 by_cases h1:r.m=1
 · rw[h1,if_pos rfl]
   simp only[cond_false,beq_self_eq_true,cond_true]
   rw[aH (ait (by omega) h.x hv.x)]
 rw[beq_eq_false_iff_ne.2 h1,if_neg h1]
 by_cases h2:r.m=2
 · rw[h2,if_pos rfl]
   simp only[cond_false,beq_self_eq_true,cond_true]
   rw[aH (aiu (by omega) hv.s h.v)]
 rw[beq_eq_false_iff_ne.2 h2,if_neg h2]
 by_cases h3:r.m=3
 · rw[h3,if_pos rfl,bg,List.length_map]; rfl
 rw[beq_eq_false_iff_ne.2 h3,if_neg h3]
 by_cases h4:r.m=4
 · rw[h4,if_pos rfl]; rfl
 rw[beq_eq_false_iff_ne.2 h4,if_neg h4]
 rfl
theorem aan {M:Nat} {l:List Ru} {v:Vw} (hM:big+52≤M) (hl:cO Ru.ok l) (hv:v.ok):ak env (M+1) 149 [.sl 6 (l.map Ru.t),v.t]= .ok (match kM l v with|some r=> .au [r.t,.bool true]|none=> .au [.agg [i64 0,i64 0,i64 0,i64 0,i64 0,i64 0],.bool false]):=by
 obtain⟨m,rfl⟩:=dJ (show 1≤M by omega)
 have hb:=hl.1
 rw[ar1,aX (dM (dD (fun _ h=>Ru.ok.wf h) hl) hv.wf)]
 have it:=fB (B:=aF env (m+1) 149 0 2) (S:=fun i=>sPk l v i) (R:=fun i=>⟨slots 24 [(4,.ptr 0 0),(5,.t (.bool true))],[.box 123 6 (.t ((l.map Ru.t).getD i .dS))]⟩) (X:=⟨slots 24 [(4,.ptr 0 0)],[.box 123 6 (.t (T.agg [i64 0,i64 0,i64 0,i64 0,i64 0,i64 0]))]⟩) (id:=0)
  (fun i=>match l[i]? with|some r=>rX v r|none=>false) l.length 0 (m+1) (by omega)
  (fun j h0 h1 hp=>by
   have hj:j < l.length:=by omega
   have e1:l[j]? =some l[j]:=List.getElem?_eq_getElem hj
   rw[e1] at hp
   simp only[] at hp
   rw[Xu,decide_eq_true (by rw[List.length_map]; omega)]
   simp only[cond_true]
   rw[aA (aC e1),bJ (aas (by omega) (hl.2 _ (List.mem_of_getElem? e1)) hv),hp,cond_true,aA (aC e1)]
   have:(l.map Ru.t).getD j .dS=l[j].t:=by rw[List.getD_eq_getElem?_getD,aC e1]; rfl
   rw[this]; rfl)
  (fun j h0 h1 hp=>by
   have hj:j < l.length:=by omega
   have e1:l[j]? =some l[j]:=List.getElem?_eq_getElem hj
   rw[e1] at hp
   simp only[] at hp
   rw[Xu,decide_eq_true (by rw[List.length_map]; omega)]
   simp only[cond_true]
   rw[aA (aC e1),bJ (aas (by omega) (hl.2 _ (List.mem_of_getElem? e1)) hv),hp,cond_false,wrap_succ (show j≤big by omega)]
   rfl)
  (by rw[Nat.zero_add,Xu,decide_eq_false (by rw[List.length_map]; omega)]; rfl)
 refine Eq.trans (show _=bC env (m+1) 149 2 (sPk l v 0) from rfl) ?_
 cases hk:dF (fun i=>match l[i]? with|some r=>rX v r|none=>false) 0 l.length with
 |some j=>
  rw[hk] at it
  obtain⟨_,hj,hp⟩:=iK hk
  have hj':j < l.length:=by omega
  have e1:l[j]? =some l[j]:=List.getElem?_eq_getElem hj'
  have hmin:∀ i,i < j→(match l[i]? with|some r=>rX v r|none=>false)=false:=fun i hi=>Bz hk i (by omega) hi
  have hf:kM l v=some l[j]:=by
   unfold kM
   rw[e1] at hp
   refine List.find?_eq_some_iff_getElem.2 ⟨hp,j,hj',rfl,fun i hi=>?_⟩
   have:=hmin i hi
   rw[List.getElem?_eq_getElem (show i < l.length by omega)] at this
   simpa using this
  rw[hf]
  have e2:(l.map Ru.t).getD j .dS=l[j].t:=by rw[List.getD_eq_getElem?_getD,aC e1]; rfl
  simp only[e2] at it
  exact(aQ it).trans (ZF (m+1) l[j])
 |none=>
  rw[hk] at it
  have hf:kM l v=none:=by
   unfold kM
   rw[List.find?_eq_none]
   intro x hx
   obtain⟨i,hi⟩:=List.getElem?_of_mem hx
   have:=gI hk i (by omega) (by have:=(List.getElem?_eq_some_iff.1 hi).1; omega)
   rw[hi] at this
   simpa using this
  rw[hf]
  exact(aQ it).trans (SL (m+1) _)
theorem ah0 {M:Nat} {n:Int} (hn:aV n=true):ak env (M+1) 140 [i64 n]= .ok (.bool (holdB n)):=by
 rw[arS,aX (gJ (aZ hn))]
 simp only[jE,Yh]
 rfl
theorem aaq {M:Nat} {l:List Ru} {b:Bool} (hM:big+50≤M) (hl:cO Ru.ok l):ak env (M+1) 187 [.sl 6 (l.map Ru.t),.bool b]= .ok (.bool (uI l b)):=by
 obtain⟨m,rfl⟩:=dJ (show 1≤M by omega)
 have hb:=hl.1
 rw[asq,aX (dM (dD (fun _ h=>Ru.ok.wf h) hl) (Aw b))]
 have it:=vH (B:=aF env (m+1) 187 0 2) (S:=fun i=>sRu l b i) (R:=⟨slots 22 [(4,.t (.bool false))],[]⟩) (X:=⟨slots 22 [(0,.t (.sl 6 (l.map Ru.t)))],[]⟩) (id:=0) (fun r=> !pG r b) l (n:=m+1) (by omega) (fun j x hx=>by
  have hj:=(List.getElem?_eq_some_iff.1 hx).1
  rw[aeh,decide_eq_true (by rw[List.length_map]; omega)]
  simp only[cond_true]
  rw[aA (aC hx),bJ (air (by omega) (hl.2 _ (List.mem_of_getElem? hx))),wrap_succ (show j≤big by omega)]) (by rw[aeh,decide_eq_false (by rw[List.length_map]; omega)]; rfl)
 unfold uI
 cases hc:l.any (fun r=> !pG r b) with
 |true=>rw[hc] at it; rw[Bool.not_true,Bool.and_false]; exact(aQ it).trans (ZI (m+1) false)
 |false=>rw[hc] at it; rw[Bool.not_false,Bool.and_true,←List.length_map (f:=Ru.t)]; exact(aQ it).trans (SS (m+1) l)
end
section
open Go.RowKit Go.Proofs
def MP (l:List Px) (i:Nat):Bool:=match l[i]? with|some x=> !dB x||(l.take i).contains x|none=>false
def CO (l:List Sd) (a:Int) (i:Nat):Bool:=match l[i]? with|some s=> !(nY s&& !(s.a==a))||((l.take i).map Sd.a).contains s.a|none=>false
theorem ajf {l:List Px}:(dF (MP l) 0 l.length).isNone=ji id dB [] l:=by
 rw[Bool.eq_iff_iff,yj,Option.isNone_iff_eq_none]
 constructor
 · intro h i x hx
   have:=gI h i (by omega) (by have:=(List.getElem?_eq_some_iff.1 hx).1; omega)
   unfold MP at this
   rw[hx] at this
   simp only[Bool.or_eq_false_iff,Bool.not_eq_false'] at this
   exact⟨by simpa using this.2,this.1⟩
 · intro h
   cases hk:dF (MP l) 0 l.length with
   |none=>rfl
   |some j=>
    obtain⟨_,hj,hp⟩:=iK hk
    have hx:=h j l[j] (List.getElem?_eq_getElem (by omega))
    unfold MP at hp
    rw[List.getElem?_eq_getElem (show j < l.length by omega)] at hp
    simp only[Bool.or_eq_true,Bool.not_eq_true'] at hp
    rcases hp with hp|hp
    · rw[hp] at hx; exact absurd hx.2 (by simp)
    · have:=hx.1; simp only[List.nil_append,List.map_id_fun,id] at this; rw[hp] at this; cases this
theorem agu {l:List Sd} {a:Int}:(dF (CO l a) 0 l.length).isNone=ji Sd.a nY [a] l:=by
 rw[Bool.eq_iff_iff,yj,Option.isNone_iff_eq_none]
 have key:∀ (i:Nat) (s:Sd),([a]++(l.take i).map Sd.a).contains s.a=(s.a==a||((l.take i).map Sd.a).contains s.a):=fun i s=>by rw[List.singleton_append,List.contains_cons]
 constructor
 · intro h i x hx
   have:=gI h i (by omega) (by have:=(List.getElem?_eq_some_iff.1 hx).1; omega)
   unfold CO at this
   rw[hx] at this
   simp only[Bool.or_eq_false_iff,Bool.not_eq_false',Bool.and_eq_true,Bool.not_eq_true'] at this
   rw[key,this.1.2,this.2]
   exact⟨rfl,this.1.1⟩
 · intro h
   cases hk:dF (CO l a) 0 l.length with
   |none=>rfl
   |some j=>
    obtain⟨_,hj,hp⟩:=iK hk
    have hx:=h j l[j] (List.getElem?_eq_getElem (by omega))
    rw[key,Bool.or_eq_false_iff] at hx
    unfold CO at hp
    rw[List.getElem?_eq_getElem (show j < l.length by omega)] at hp
    simp only[hx.1.1,hx.1.2,hx.2,Bool.not_false,Bool.and_self,Bool.not_true,Bool.or_self] at hp
    cases hp
variable [Lv]
theorem oH {N:Nat} {f:FuncId} {r q:Nat} {s s':St} {e:Ex} (h:bF (pq env N f 0 r q) N s= .ok (e,s')):qE env N f r q s=qF env N f 0 r q e s':=by
 unfold qE; rw[h]; rfl
theorem ajh {M i:Nat} {l:List Px} {x:Px} (hM:big+1≤M) (hl:l.length≤big) (hx:l[i]? =some x):qE env M 141 2 7 (acC l i 0)=bif (l.take i).contains x then .ok (.ret,⟨slots 34 [(2,.t (.bool false))],[]⟩) else .ok (.norm,sOw l (i+1:Nat)):=by
 have hi:=(List.getElem?_eq_some_iff.1 hx).1
 have it:=vH (B:=pq env M 141 0 2 7) (S:=fun k=>acC l i k) (R:=⟨slots 34 [(2,.t (.bool false))],[]⟩) (X:=sOw l i) (id:=2) (fun y=>y==x) (l.take i) (n:=M) (by rw[List.length_take]; omega) (fun j y hy=>by
  have hj:j < i:=by have:=(List.getElem?_eq_some_iff.1 hy).1; rw[List.length_take] at this; omega
  have hy':l[j]? =some y:=by rw[List.getElem?_take,if_pos hj] at hy; exact hy
  rw[Ub,decide_eq_true (by omega)]
  simp only[cond_true]
  rw[aA (aC hy'),aA (aC hx)]
  have e:T.eX [0,0] y.t.cells x.t.cells=some (y.a==x.a&&(y.n==x.n&&true)):=rfl
  have e2:(y.a==x.a&&(y.n==x.n&&true))=(y==x):=by
   rw[Bool.eq_iff_iff]; obtain⟨a,n⟩:=y; obtain⟨a',n'⟩:=x; simp
  rw[e,e2,wrap_succ (show j≤big by omega)])
  (by rw[List.length_take,Nat.min_eq_left (by omega),Ub,decide_eq_false (by omega)]; rfl)
 have e:(l.take i).any (fun y=>y==x)=(l.take i).contains x:=by
  rw[Bool.eq_iff_iff,List.any_eq_true,List.contains_iff_mem]
  exact⟨fun⟨y,h,e⟩=>(beq_iff_eq.1 e) ▸ h,fun h=>⟨x,h,beq_self_eq_true x⟩⟩
 rw[e] at it
 cases hc:(l.take i).contains x with
 |true=>rw[hc] at it; exact(oH it).trans (SB M false)
 |false=>rw[hc] at it; refine(oH it).trans ((Nl M l i).trans ?_); rw[wrap_succ (show i≤big by omega)]; rfl
theorem ah1 {M:Nat} {l:List Px} (hM:big+50≤M) (hl:cO Px.ok l):ak env (M+1) 141 [.sl 2 (l.map Px.t)]= .ok (.bool (decide (l.length≤8)&&ji id dB [] l)):=by
 obtain⟨m,rfl⟩:=dJ (show 1≤M by omega)
 have hb:=hl.1
 rw[arT,aX (gJ (dD (fun _ h=>Px.ok.wf h) hl)),←ajf]
 have rd:∀ j,j < l.length→aF env (m+1) 141 0 2 (sOw l j)=bif MP l j then .ok (.ret,⟨slots 34 [(2,.t (.bool false))],[]⟩) else .ok (.norm,sOw l (j+1:Nat)):=fun j hj=>by
  have e1:l[j]? =some l[j]:=List.getElem?_eq_getElem hj
  rw[aec,decide_eq_true (by rw[List.length_map]; omega)]
  simp only[cond_true]
  rw[aA (aC e1),bJ (wH (by omega) (hl.2 _ (List.mem_of_getElem? e1)))]
  have e2:MP l j=(!dB l[j]||(l.take j).contains l[j]):=by unfold MP; rw[e1]
  rw[e2]
  cases dB l[j] with
  |false=>rfl
  |true=>simp only[Bool.not_true,cond_false,Bool.false_or]; exact ajh (by omega) hb e1
 have it:=fB (B:=aF env (m+1) 141 0 2) (S:=fun i=>sOw l i) (R:=fun _=>⟨slots 34 [(2,.t (.bool false))],[]⟩) (X:=⟨slots 34 [(0,.t (.sl 2 (l.map Px.t)))],[]⟩) (id:=0) (MP l) l.length 0 (m+1) (by omega)
  (fun j h0 h1 hp=>by rw[rd j (by omega),hp]; rfl) (fun j h0 h1 hp=>by rw[rd j (by omega),hp]; rfl)
  (by rw[Nat.zero_add,aec,decide_eq_false (by rw[List.length_map]; omega)]; rfl)
 cases hk:dF (MP l) 0 l.length with
 |some j=>rw[hk] at it; rw[Option.isNone_some,Bool.and_false]; exact(aQ it).trans (ZA (m+1) false)
 |none=>
  rw[hk] at it
  rw[Option.isNone_none,Bool.and_true]
  refine(aQ it).trans ((SC (m+1) l).trans ?_)
  rw[List.length_map,show decide ((l.length:Int)≤8)=decide (l.length≤8) from decide_eq_decide.2 (by omega)]
theorem agw {M i:Nat} {l:List Sd} {a:Int} {x:Sd} (hM:big+1≤M) (hl:l.length≤big) (hx:l[i]? =some x):qE env M 142 2 8 (ag7 l a i x 0)=bif ((l.take i).map Sd.a).contains x.a then .ok (.ret,⟨slots 70 [(4,.t (.bool false))],[]⟩) else .ok (.norm,sSi l a (i+1:Nat)):=by
 have hi:=(List.getElem?_eq_some_iff.1 hx).1
 have it:=vH (B:=pq env M 142 0 2 8) (S:=fun k=>ag7 l a i x k) (R:=⟨slots 70 [(4,.t (.bool false))],[]⟩) (X:=sSi l a i) (id:=2) (fun y=>y.a==x.a) (l.take i) (n:=M) (by rw[List.length_take]; omega) (fun j y hy=>by
  have hj:j < i:=by have:=(List.getElem?_eq_some_iff.1 hy).1; rw[List.length_take] at this; omega
  have hy':l[j]? =some y:=by rw[List.getElem?_take,if_pos hj] at hy; exact hy
  rw[Uc,decide_eq_true (by omega)]
  simp only[cond_true]
  rw[aA (aC hy')]
  have e:y.t.ay 0 1 false=i64 y.a:=rfl
  rw[e]
  simp only[dI]
  rw[wrap_succ (show j≤big by omega)])
  (by rw[List.length_take,Nat.min_eq_left (by omega),Uc,decide_eq_false (by omega)]; rfl)
 have e:(l.take i).any (fun y=>y.a==x.a)=((l.take i).map Sd.a).contains x.a:=by
  rw[Bool.eq_iff_iff,List.any_eq_true,List.contains_iff_mem,List.mem_map]
  exact⟨fun⟨y,h,e⟩=>⟨y,h,beq_iff_eq.1 e⟩,fun⟨y,h,e⟩=>⟨y,h,beq_iff_eq.2 e⟩⟩
 rw[e] at it
 cases hc:((l.take i).map Sd.a).contains x.a with
 |true=>rw[hc] at it; exact(oH it).trans (SE M false)
 |false=>rw[hc] at it; refine(oH it).trans ((Np M l a i).trans ?_); rw[wrap_succ (show i≤big by omega)]; rfl
theorem ah2 {M:Nat} {l:List Sd} {a:Int} (hM:big+53≤M) (hl:cO Sd.ok l) (ha:aV a=true):ak env (M+1) 142 [.sl 4 (l.map Sd.t),i64 a]= .ok (.bool (decide (l.length≤8)&&ji Sd.a nY [a] l)):=by
 obtain⟨m,rfl⟩:=dJ (show 1≤M by omega)
 have hb:=hl.1
 rw[arU,aX (dM (dD (fun _ h=>Sd.ok.wf h) hl) (aZ ha)),←agu]
 have rd:∀ j,j < l.length→aF env (m+1) 142 0 2 (sSi l a j)=bif CO l a j then .ok (.ret,⟨slots 70 [(4,.t (.bool false))],[]⟩) else .ok (.norm,sSi l a (j+1:Nat)):=fun j hj=>by
  have e1:l[j]? =some l[j]:=List.getElem?_eq_getElem hj
  have ho:=hl.2 _ (List.mem_of_getElem? e1)
  have c1:(l[j].t.cells.length==4&& !l[j].t.aY)=true:=rfl
  have p0:l[j].t.ay 0 1 false=i64 l[j].a:=rfl
  have p1:l[j].t.ay 1 1 false=i64 l[j].r:=rfl
  have p2:l[j].t.ay 2 1 false= .sl 6 (l[j].i.map Ru.t):=rfl
  have p3:l[j].t.ay 3 1 false= .sl 6 (l[j].o.map Ru.t):=rfl
  have e2:CO l a j=(!(nY l[j]&& !(l[j].a==a))||((l.take j).map Sd.a).contains l[j].a):=by unfold CO; rw[e1]
  rw[aed,decide_eq_true (by rw[List.length_map]; omega)]
  simp only[cond_true]
  rw[aA (aC e1),c1,aN,p0,p1,p2,p3,e2]
  simp only[dI]
  unfold nY rG
  by_cases h1:l[j].a < 1
  · rw[decide_eq_true h1,decide_eq_false (show ¬ l[j].a > 0 by omega)]; rfl
  rw[decide_eq_false h1,decide_eq_true (show l[j].a > 0 by omega)]
  by_cases h2:l[j].a > 4294967295
  · rw[decide_eq_true h2,decide_eq_false (show ¬ l[j].a≤4294967295 by omega)]; rfl
  rw[decide_eq_false h2,decide_eq_true (show l[j].a≤4294967295 by omega)]
  cases h3:l[j].a==a with
  |true=>simp only[cond_false,cond_true,Bool.not_true,Bool.and_false,Bool.not_false,Bool.true_or]
  |false=>
  by_cases h4:l[j].r < 1
  · rw[decide_eq_true h4,decide_eq_false (show ¬ l[j].r≥1 by omega)]; rfl
  rw[decide_eq_false h4,decide_eq_true (show l[j].r≥1 by omega)]
  by_cases h5:l[j].r > 3
  · rw[decide_eq_true h5,decide_eq_false (show ¬ l[j].r≤3 by omega)]; rfl
  rw[decide_eq_false h5,decide_eq_true (show l[j].r≤3 by omega)]
  simp only[cond_false]
  rw[bJ (aaq (by omega) ho.i)]
  cases h6:uI l[j].i true with
  |false=>rfl
  |true=>
  simp only[Bool.not_true,cond_false]
  rw[bJ (aaq (by omega) ho.o)]
  cases h7:uI l[j].o false with
  |false=>rfl
  |true=>
  simp only[Bool.not_true,cond_false,Bool.and_self,Bool.not_false,Bool.and_true,Bool.false_or]
  exact agw (x:=l[j]) (by omega) hb e1
 have it:=fB (B:=aF env (m+1) 142 0 2) (S:=fun i=>sSi l a i) (R:=fun _=>⟨slots 70 [(4,.t (.bool false))],[]⟩) (X:=⟨slots 70 [(0,.t (.sl 4 (l.map Sd.t)))],[]⟩) (id:=0) (CO l a) l.length 0 (m+1) (by omega)
  (fun j h0 h1 hp=>by rw[rd j (by omega),hp]; rfl) (fun j h0 h1 hp=>by rw[rd j (by omega),hp]; rfl)
  (by rw[Nat.zero_add,aed,decide_eq_false (by rw[List.length_map]; omega)]; rfl)
 cases hk:dF (CO l a) 0 l.length with
 |some j=>rw[hk] at it; rw[Option.isNone_some,Bool.and_false]; exact(aQ it).trans (ZB (m+1) false)
 |none=>
  rw[hk] at it
  rw[Option.isNone_none,Bool.and_true]
  refine(aQ it).trans ((SG (m+1) l).trans ?_)
  rw[List.length_map,show decide ((l.length:Int)≤8)=decide (l.length≤8) from decide_eq_decide.2 (by omega)]
theorem Qr {M:Nat} {c:Cf} (hM:big+56≤M) (h:c.ok):ak env (M+1) 106 [c.t]= .ok (.bool (dH c)):=by
 obtain⟨m,rfl⟩:=dJ (show 1≤M by omega)
 rw[arw,aX (gJ h.wf)]
 unfold dH rG
 rw[DJ,DJ]
 by_cases h1:c.a > 0
 case neg=>rw[decide_eq_false h1]; rfl
 by_cases h2:c.a≤4294967295
 case neg=>rw[decide_eq_true h1,decide_eq_false h2]; rfl
 by_cases h3:c.d > 0
 case neg=>rw[decide_eq_true h1,decide_eq_true h2,decide_eq_false h3]; rfl
 by_cases h4:c.d≤4294967295
 case neg=>rw[decide_eq_true h1,decide_eq_true h2,decide_eq_true h3,decide_eq_false h4]; rfl
 rw[decide_eq_true h1,decide_eq_true h2,decide_eq_true h3,decide_eq_true h4]
 simp only[cond_true,Bool.and_self,Bool.true_and]
 rw[bJ (ah0 h.h)]
 cases holdB c.h with
 |false=>rfl
 |true=>
 simp only[cond_true,Bool.true_and]
 by_cases h5:c.k≥1
 case neg=>rw[decide_eq_false h5]; rfl
 by_cases h6:c.k≤1000
 case neg=>rw[decide_eq_true h5,decide_eq_false h6]; simp
 rw[decide_eq_true h5,decide_eq_true h6]
 simp only[cond_true,Bool.true_and]
 rw[bJ (ah1 (by omega) h.w)]
 by_cases h7:c.w.length≤8
 case neg=>rw[decide_eq_false h7]; rfl
 rw[decide_eq_true h7]
 simp only[Bool.true_and]
 cases hf:ji id dB [] c.w with
 |false=>simp
 |true=>
 simp only[cond_true,Bool.true_and]
 rw[aH (ah2 (by omega) h.s h.a)]
theorem Qw {M:Nat} {p:Pa} (hM:big+1≤M) (h:p.ok):ak env (M+1) 146 [p.t]= .ok (.bool (gY p)):=by
 have hb:=h.l
 rw[arY,aX (gJ h.wf)]
 have it:=vH (B:=aF env M 146 0 2) (S:=fun i=>sPs p i) (R:=⟨slots 59 [(2,.t (.bool false))],[]⟩) (X:=⟨slots 59 [(1,.ptr 0 0)],[.box 42 4 (.t p.t)]⟩) (id:=0) Md p.s (n:=M) (by omega) (fun j x hx=>by
  have hj:=(List.getElem?_eq_some_iff.1 hx).1
  rw[aee,decide_eq_true (by rw[bg,List.length_map]; omega)]
  simp only[cond_true]
  rw[aA (iV hx),aA (iV hx)]
  simp only[dI]
  rw[wrap_succ (show j≤big by omega)]
  unfold Md
  cases decide (x < 1)<;>cases decide (x > 4294967295)<;>rfl) (by rw[aee,decide_eq_false (by rw[bg,List.length_map]; omega)]; rfl)
 unfold gY
 cases hc:p.s.any Md with
 |true=>rw[hc] at it; exact(aQ it).trans (ZC M false)
 |false=>
  rw[hc] at it
  refine(aQ it).trans ((SH M p).trans ?_)
  rw[bg,List.length_map,show decide ((p.s.length:Int)≤255)=decide (p.s.length≤255) from decide_eq_decide.2 (by omega),DJ]
  simp only[jE]
  cases decide (p.o≥0)<;>cases decide (p.o≤2)<;>cases decide (p.s.length≤255)<;>rfl
theorem ah7 {M:Nat} {r:Rt} (hM:big+3≤M) (h:r.ok):ak env (M+1) 157 [r.t]= .ok (.bool (oh r)):=by
 obtain⟨m,rfl⟩:=dJ (show 1≤M by omega)
 rw[ar9,aX (gJ h.wf),bJ (Qw (by omega) h.p)]
 unfold oh
 cases gY r.p with
 |false=>rfl
 |true=>
 have hl:((ints r.p.s).length:Int)=(r.p.s.length:Int):=by rw[bg,List.length_map]
 rw[hl]
 by_cases h1:r.p.s.length≤32
 case neg=>rw[decide_eq_true (show(r.p.s.length:Int) > 32 by omega),decide_eq_false h1]; rfl
 rw[decide_eq_false (show ¬ (r.p.s.length:Int) > 32 by omega),decide_eq_true h1]
 simp only[Bool.not_true,cond_false,Bool.true_and]
 by_cases h2:r.f= -1
 · rw[beq_iff_eq.2 h2,if_pos h2]
   simp only[cond_true,jE]
   congr 2
   rw[Bool.eq_iff_iff,beq_iff_eq,AV]
   simp only[Bool.and_eq_true,beq_iff_eq]
   obtain⟨n,⟨o,s,hh,c⟩,f⟩:=r
   simp only[yA,Rt.mk.injEq,Pa.mk.injEq,true_and] at h2 ⊢
   constructor
   · rintro⟨a1,a2,a3,a4⟩
     exact⟨a1,⟨a3,List.eq_nil_of_length_eq_zero (by omega),a4⟩,h2⟩
   · rintro⟨a1,⟨a3,a2,a4⟩,_⟩
     exact⟨a1,by rw[a2]; rfl,a3,a4⟩
 · rw[beq_eq_false_iff_ne.2 h2,if_neg h2,DJ,dec_lt]
   simp only[cond_false,jE]
theorem ama {M:Nat} {a b:Rt} (hM:big+3≤M) (ha:a.ok) (hb:b.ok):ak env (M+1) 75 [a.t,b.t]= .ok (.bool (decide (a=b))):=by
 obtain⟨m,rfl⟩:=dJ (show 1≤M by omega)
 have e:decide (a=b)=(decide (a.n=b.n)&&(decide (a.f=b.f)&&decide (a.p=b.p))):=by
  rw[Bool.eq_iff_iff]
  simp only[decide_eq_true_eq,Bool.and_eq_true]
  obtain⟨n,p,f⟩:=a
  obtain⟨n',p',f'⟩:=b
  simp only[Rt.mk.injEq]
  constructor
  · rintro⟨h1,h2,h3⟩; exact⟨h1,h3,h2⟩
  · rintro⟨h1,h3,h2⟩; exact⟨h1,h2,h3⟩
 rw[e,q75,aX (dM ha.wf hb.wf)]
 by_cases h1:a.n=b.n
 case neg=>rw[beq_eq_false_iff_ne.2 h1,decide_eq_false h1]; rfl
 by_cases h2:a.f=b.f
 case neg=>rw[beq_iff_eq.2 h1,beq_eq_false_iff_ne.2 h2,decide_eq_true h1,decide_eq_false h2]; rfl
 rw[beq_iff_eq.2 h1,beq_iff_eq.2 h2,decide_eq_true h1,decide_eq_true h2]
 simp only[cond_true,Bool.true_and]
 rw[aH (amr (by omega) ha.p hb.p)]
theorem ah5 {M:Nat} {a b c:Int} (ha:aV a=true) (hb:aV b=true) (hc:aV c=true):ak env (M+1) 148 [i64 a,i64 b,i64 c]= .ok (.au [i64 ((og a b c).getD 0),.bool (og a b c).isSome]):=by
 rw[ar0,aX (yG (aZ ha) (aZ hb) (aZ hc))]
 unfold og PI
 by_cases h4:c=0
 · subst h4
   by_cases h1:a=1
   · subst h1; simp
   by_cases h2:a=2
   · subst h2; simp
   by_cases h3:a=3
   · subst h3; simp
   have h1':(a==1)=false:=beq_eq_false_iff_ne.2 h1
   have h2':(a==2)=false:=beq_eq_false_iff_ne.2 h2
   have h3':(a==3)=false:=beq_eq_false_iff_ne.2 h3
   simp[h1,h2,h3,h1',h2',h3']
 have h4':(c==0)=false:=beq_eq_false_iff_ne.2 h4
 have yu:(c !=0)=true:=bne_iff_ne.2 h4
 by_cases h5:c=b
 · subst h5
   by_cases h1:a=1
   · subst h1; simp[h4,h4',yu]
   by_cases h2:a=2
   · subst h2; simp[h4,h4',yu]
   by_cases h3:a=3
   · subst h3; simp[h4,h4',yu]
   have h1':(a==1)=false:=beq_eq_false_iff_ne.2 h1
   have h2':(a==2)=false:=beq_eq_false_iff_ne.2 h2
   have h3':(a==3)=false:=beq_eq_false_iff_ne.2 h3
   simp[h1,h2,h3,h1',h2',h3',h4,h4',yu]
 have h5':(c==b)=false:=beq_eq_false_iff_ne.2 h5
 by_cases h1:a=1
 · subst h1; simp[h4,h4',yu,h5,h5']
 by_cases h2:a=2
 · subst h2; simp[h4,h4',yu,h5,h5']
 by_cases h3:a=3
 · subst h3; simp[h4,h4',yu,h5,h5']
 have h1':(a==1)=false:=beq_eq_false_iff_ne.2 h1
 have h2':(a==2)=false:=beq_eq_false_iff_ne.2 h2
 have h3':(a==3)=false:=beq_eq_false_iff_ne.2 h3
 simp[h1,h2,h3,h1',h2',h3',h4,h4',yu,h5,h5']
theorem ah9 {M:Nat} {a b c:Int} (ha:aV a=true) (hb:aV b=true) (hc:aV c=true):ak env (M+1) 159 [i64 a,i64 b,i64 c]= .ok (.au [i64 ((kL a b c).getD 0),.bool (kL a b c).isSome]):=by
 rw[asb,aX (yG (aZ ha) (aZ hb) (aZ hc))]
 unfold kL PI
 by_cases h4:c=0
 · subst h4
   by_cases h1:a=1
   · subst h1; simp
   by_cases h2:a=2
   · subst h2; simp
   by_cases h3:a=3
   · subst h3; simp
   have h1':(a==1)=false:=beq_eq_false_iff_ne.2 h1
   have h2':(a==2)=false:=beq_eq_false_iff_ne.2 h2
   have h3':(a==3)=false:=beq_eq_false_iff_ne.2 h3
   simp[h1,h2,h3,h1',h2',h3']
 have h4':(c==0)=false:=beq_eq_false_iff_ne.2 h4
 have yu:(c !=0)=true:=bne_iff_ne.2 h4
 by_cases h5:c=b
 · subst h5
   by_cases h1:a=1
   · subst h1; simp[h4,h4',yu]
   by_cases h2:a=2
   · subst h2; simp[h4,h4',yu]
   by_cases h3:a=3
   · subst h3; simp[h4,h4',yu]
   have h1':(a==1)=false:=beq_eq_false_iff_ne.2 h1
   have h2':(a==2)=false:=beq_eq_false_iff_ne.2 h2
   have h3':(a==3)=false:=beq_eq_false_iff_ne.2 h3
   simp[h1,h2,h3,h1',h2',h3',h4,h4',yu]
 have h5':(c==b)=false:=beq_eq_false_iff_ne.2 h5
 by_cases h1:a=1
 · subst h1; simp[h4,h4',yu,h5,h5']
 by_cases h2:a=2
 · subst h2; simp[h4,h4',yu,h5,h5']
 by_cases h3:a=3
 · subst h3; simp[h4,h4',yu,h5,h5']
 have h1':(a==1)=false:=beq_eq_false_iff_ne.2 h1
 have h2':(a==2)=false:=beq_eq_false_iff_ne.2 h2
 have h3':(a==3)=false:=beq_eq_false_iff_ne.2 h3
 simp[h1,h2,h3,h1',h2',h3',h4,h4',yu,h5,h5']
theorem Qv {M:Nat} {c:Cf} {k:Int} (h:c.ok) (hk:aV k=true):ak env (M+1) 144 [c.t,i64 k]= .ok (.bool (hasB c k)):=by
 rw[arW,aX (dM h.wf (aZ hk)),jE,List.length_map]; rfl
theorem ah8 {M:Nat} {c:Cf} {k:Int} (hM:1≤M) (h:c.ok) (hk:aV k=true):ak env (M+1) 158 [c.t,i64 k]= .ok (i64 (eY c k)):=by
 obtain⟨m,rfl⟩:=dJ hM
 rw[asa,aX (dM h.wf (aZ hk)),bJ (Qv h hk)]
 cases hh:hasB c k with
 |false=>
  have:eY c k=0:=by
   unfold eY
   unfold hasB at hh
   split
   · rw[List.getElem?_eq_none (by simp at hh; omega)]
   · rfl
  rw[this]; rfl
 |true=>
  obtain⟨i,s,rfl,hi,hx⟩:=wI hh
  simp only[Bool.not_true,cond_false]
  rw[aA (aC hx),xZ hx]
  rfl
theorem ah4 {M:Nat} {l:List Int} {n:Int} (hM:big+1≤M) (hl:cO okI l) (hn:aV n=true):ak env (M+1) 147 [.sl 1 (ints l),i64 n]= .ok (.bool (l.contains n)):=by
 have hb:=hl.1
 rw[arZ,aX (dM (qK hl) (aZ hn))]
 have it:=vH (B:=aF env M 147 0 2) (S:=fun i=>sHb l n i) (R:=⟨slots 18 [(4,.t (.bool true))],[]⟩) (X:=⟨slots 18 [],[]⟩) (id:=0) (fun x=>x==n) l (n:=M) (by omega) (fun j x hx=>by
  have hj:=(List.getElem?_eq_some_iff.1 hx).1
  rw[aef,decide_eq_true (by rw[bg,List.length_map]; omega)]
  simp only[cond_true]
  rw[aA (iV hx)]
  simp only[dI]
  rw[wrap_succ (show j≤big by omega)]
  rfl) (by rw[aef,decide_eq_false (by rw[bg,List.length_map]; omega)]; rfl)
 have e:l.any (fun x=>x==n)=l.contains n:=by
  rw[Bool.eq_iff_iff,List.any_eq_true,List.contains_iff_mem]
  exact⟨fun⟨x,h,e⟩=>(beq_iff_eq.1 e) ▸ h,fun h=>⟨n,h,beq_self_eq_true n⟩⟩
 rw[e] at it
 refine Eq.trans (show _=bC env M 147 2 (sHb l n 0) from rfl) ?_
 cases hc:l.contains n with
 |true=>rw[hc] at it; exact(aQ it).trans (ZE M true)
 |false=>rw[hc] at it; exact(aQ it).trans (SK M)
end
section
open Go.RowKit Go.Proofs
variable [Lv]
def BN (t:List Cf) (i:Nat):Nat:=((t[i]?).map fun c=>c.s.length).getD 0
def Ya (t:List Cf) (q:Nat→Nat→Bool) (i:Nat):Bool:=(dF (q i) 0 (BN t i)).isSome
def xM (t:List Cf) (q:Nat→Nat→Bool):Option Nat:=dF (Ya t q) 0 t.length
def Gp (r:Option Nat):T:= .au [i64 ((r.getD 0:Nat):Int),.bool r.isSome]
def Ol (t:List Cf) (i:Nat):Bool:=match t[i]? with|some c=> !dH c|none=>false
def NG (c d:Cf):Bool:=d.a==c.a||d.d==c.d
def Au (t:List Cf) (i:Nat):Bool:=match t[i]? with|some c=>(t.take i).any (NG c)|none=>false
def Ym (t:List Cf) (i k:Nat):Int:=(((t[i]?).bind fun c=>c.s[k]?).map Sd.r).getD 0
def Iz (t:List Cf) (i k:Nat):Bool:=(gB t i k).isNone
def NC (t:List Cf) (i k:Nat):Bool:=match gB t i k with|some (j,m)=>Ym t i k+Ym t j m !=4|none=>false
def Nz (t:List Cf) (i k:Nat):Bool:=match gB t i k with|some (j,_)=>(match t[i]?,t[j]? with|some c,some d=> !uG c d|_,_=>false)|none=>false
noncomputable def Jg (t:List Cf):Nat×Int:=if t.length=0 then(0,1) else if 8 < t.length then(0,4) else match dF (Ol t) 0 t.length with
 |some i=>(i,2)
 |none=>match dF (Au t) 0 t.length with
  |some i=>(i,7)
  |none=>match xM t (Iz t) with
   |some i=>(i,8)
   |none=>match xM t (NC t) with
    |some i=>(i,9)
    |none=>match xM t (Nz t) with
     |some i=>(i,10)
     |none=>match uX t with
      |some i=>(i,11)
      |none=>(0,0)
def as8 (t:List Cf):St:=⟨slots 80 [(1,.ptr 0 0),(36,.t (.sl 6 (t.map Cf.t))),(37,.t (i64 (t.map Cf.t).length)),(38,.t (i64 (t.length:Int))),(39,.t (.bool false))],[.box 22 1 (.t (.sl 6 (t.map Cf.t)))]⟩
end
section
open Go.RowKit Go.Proofs
structure uK (t:List Cf):Prop where
 one:1≤t.length
 most:t.length≤8
 sane:∀ c∈t,dH c=true
 used:∀ (i j:Nat) (c d:Cf),t[i]? =some c→t[j]? =some d→j < i→d.a≠c.a∧d.d≠c.d
 side:∀ (i k:Nat) (c:Cf) (s:Sd),t[i]? =some c→c.s[k]? =some s→∃ (j m:Nat) (d:Cf) (u:Sd),gB t i k=some (j,m)∧t[j]? =some d∧d.s[m]? =some u∧j≠i∧u.a=c.a∧u.r+s.r=4∧uG c d=true∧gB t j m=some (i,k)
variable [Lv]
end
section
open Go.RowKit Go.Proofs
variable [Lv]
def FU (l:List Ch) (i:Nat):Bool:=match l[i]? with
 |some e=> !dB e.x||(decide (0 < i)&&match l[i - 1]? with|some d=>decide (kE d.x e.x≥0)|none=>false)
 |none=>false
def qB (l:List Ch):Bool:=(dF (FU l) 0 l.length).isNone
def uw (c:Cf) (k:Int) (l:List Ch):List En:=if qB l=true then l.filterMap fun e=>(jU c k e.x e.r).map (En.mk e.x) else[]
theorem zW {c:Cf} {k:Int} {l:List Ch} {e:En}:e∈uw c k l↔qB l=true∧∃ r,(⟨e.x,r⟩:Ch)∈l∧jU c k e.x r=some e.p:=by
 unfold uw
 by_cases h:qB l=true
 · rw[if_pos h,List.mem_filterMap]
   constructor
   · rintro⟨a,ha,h2⟩
     obtain⟨p,hp,rfl⟩:=Option.map_eq_some_iff.1 h2
     exact⟨h,a.r,ha,hp⟩
   · rintro⟨_,r,hr,hp⟩
     exact⟨_,hr,by rw[hp]; rfl⟩
 · rw[if_neg h]
   simp[h]
theorem Vz (c:Cf) (k:Int) (l:List Ch):(uw c k l).length≤l.length:=by
 unfold uw
 split
 · exact List.length_filterMap_le _ _
 · exact Nat.zero_le _
def lK (t:List Cf) (L:List (List Ch)) (i k:Nat):List En:=match gB t i k with
 |some (j,m)=>(match t[j]? with|some d=>uw d m (L.getD j [])|none=>[])
 |none=>[]
def jm (t:List Cf) (L:List (List Ch)) (i:Nat) (c:Cf):List (List En):=(List.range c.s.length).map (lK t L i)
def nextR (t:List Cf) (L:List (List Ch)):List (List Ch):=if t.length≤8 then t.zipIdx.map fun p=>iM p.1 (jm t L p.2 p.1) else[]
def oP (t:List Cf):List (List Ch):=if t.length≤8 then t.map fun c=>iM c (c.s.map fun _=>[]) else[]
theorem sV {t:List Cf} {L:List (List Ch)} (h8:t.length≤8):(nextR t L).length=t.length:=by unfold nextR; rw[if_pos h8]; simp
def yQ (t:List Cf) (x:Px) (i j:Nat) (r' r:Rt):Prop:=∃ (c d:Cf) (k m:Nat) (q:Pa),t[i]? =some c∧t[j]? =some d∧gB t i k=some (j,m)∧jU d m x r'=some q∧wK c k x q=some r
def D6 (t:List Cf) (x:Px) (i:Nat) (r:Rt):Prop:=∃ c,t[i]? =some c∧dH c=true∧x∈c.w∧r=yA c.d
theorem PL {c:Cf} {x:Px} (h:dH c=true) (hx:x∈c.w):dB x=true:=by
 have hf:ji id dB [] c.w=true:=by
  unfold dH at h
  simp only[Bool.and_eq_true] at h
  exact h.2.2.2.2.2.2.2.1
 obtain⟨i,hi,rfl⟩:=List.getElem_of_mem hx
 exact((yj.1 hf) i _ (List.getElem?_eq_getElem hi)).2
end
section
open Go.RowKit Go.Proofs
variable [Lv]
section
variable {t:List Cf} {x:Px}
structure Jf (t:List Cf) (x:Px) (f g:Nat→Option Rt):Prop where
 from_:∀ i r,g i=some r→D6 t x i r∨∃ j r',f j=some r'∧yQ t x i j r' r
 best:∀ i r,g i=some r→∀ r0,(D6 t x i r0∨∃ j r',f j=some r'∧yQ t x i j r' r0)→jy r r0≤0
 some_:∀ i r0,(D6 t x i r0∨∃ j r',f j=some r'∧yQ t x i j r' r0)→∃ r,g i=some r
theorem D6.lt {i:Nat} {r:Rt} (h:D6 t x i r):i < t.length:=by obtain⟨c,hc,_⟩:=h; exact(List.getElem?_eq_some_iff.1 hc).1
theorem yQ.lt {i j:Nat} {r' r:Rt} (h:yQ t x i j r' r):i < t.length∧j < t.length:=by
 obtain⟨c,d,k,m,q,hc,hd,_⟩:=h
 exact⟨(List.getElem?_eq_some_iff.1 hc).1,(List.getElem?_eq_some_iff.1 hd).1⟩
def Ip (t:List Cf) (x:Px) (j:Nat) (r:Rt):Prop:=∀ d,t[j]? =some d→(∃ k p,wK d k x p=some r)∨r=yA d.d
theorem D6.live {i:Nat} {r:Rt} (h:D6 t x i r):Ip t x i r:=fun d hd=>by
 obtain⟨c,hc,_,_,hr⟩:=h
 rw[hc] at hd; cases hd; exact .inr hr
theorem yQ.live {i j:Nat} {r' r:Rt} (h:yQ t x i j r' r):Ip t x i r:=fun d hd=>by
 obtain⟨c,_,k,m,q,hc,_,_,_,hi⟩:=h
 rw[hc] at hd; cases hd; exact .inl ⟨_,_,hi⟩
theorem Jf.live {f g:Nat→Option Rt} (h:Jf t x f g) {i:Nat} {r:Rt} (hr:g i=some r):Ip t x i r:=by
 rcases h.from_ i r hr with ho|⟨_,_,_,he⟩
 · exact ho.live
 · exact he.live
def qP (S:List Nat) (a:Nat→Option Rt) (T:Nat) (ρ:Nat→Nat→Option Rt):Prop:=∀ i∈S,∀ s,T≤s→ρ s i=a i
def uJ (t:List Cf) (x:Px) (S:List Nat) (a:Nat→Option Rt) (u:Nat) (r:Rt):Prop:=D6 t x u r∨∃ j∈S,∃ r',a j=some r'∧yQ t x u j r' r
def XY (C:Option Rt) (r:Rt):Prop:=∀ b,C=some b→ ¬ jy b r≤0
structure Ad (t:List Cf) (x:Px) (ρ:Nat→Nat→Option Rt):Prop where
 turn:∀ s,Jf t x (ρ s) (ρ (s+1))
 live:∀ s j r,ρ s j=some r→Ip t x j r
 lt:∀ s j r,ρ s j=some r→j < t.length
theorem D6.dB {i:Nat} {r:Rt} (h:D6 t x i r):dB x=true:=by obtain⟨c,_,h0,hx,_⟩:=h; exact PL h0 hx
theorem yQ.dB {i j:Nat} {r' r:Rt} (h:yQ t x i j r' r):dB x=true:=by obtain⟨_,_,_,_,_,_,_,_,_,hi⟩:=h; exact(mQ hi).2.1
theorem uJ.dB {S:List Nat} {a:Nat→Option Rt} {u:Nat} {r:Rt} (h:uJ t x S a u r):Go.aT.dB x=true:=by
 rcases h with h|⟨_,_,_,_,h⟩
 · exact h.dB
 · exact h.dB
theorem uJ.lt {S:List Nat} {a:Nat→Option Rt} {u:Nat} {r:Rt} (h:uJ t x S a u r):u < t.length:=by
 rcases h with h|⟨_,_,_,_,h⟩
 · exact h.lt
 · exact h.lt.1
def BP (t:List Cf) (x:Px) (S:List Nat) (a:Nat→Option Rt):List (List Ch):=(List.range t.length).map fun j=>if j∈S then(match a j with|some r=>[⟨x,r⟩]|none=>[]) else[]
end
def yN {α:Type} (f:α→α):Nat→α→α
 |0,a=>a
 |n+1,a=>f (yN f n a)
theorem aaD {α:Type} (f:α→α) (m:Nat) (a:α):∀ n,yN f (m+n) a=yN f n (yN f m a)
 |0=>rfl
 |n+1=>by show f (yN f (m+n) a)=f (yN f n (yN f m a)); rw[aaD f m a n]
def TN (t:List Cf) (x:Px) (L:List (List Ch)) (s i:Nat):Option Rt:=pz ((yN (nextR t) (s+1) L).getD i []) x
end
end Go.aT
