/- The texts of a proof, one behind the other: an interpreter and its soundness, what the functions of the program answer, and plain laws on that. -/
import Derived.Maps.AppendAt
import Derived.Below
import Derived.KernelRfl
import Derived.Orders
import Derived.Laws.StructEq
import Derived.Laws.CopyRow
import Derived.Laws.Slices
set_option linter.unusedVariables false
set_option linter.unusedSimpArgs false
set_option linter.unnecessarySimpa false
set_option linter.unusedSectionVars false
set_option maxRecDepth 100000
namespace Go.aT
section
open Go.RowKit
inductive T where
 |int (k:IntKind) (n:Int)
 |bool (b:Bool)
 |str (s:ByteArray)
 |dS
 |ref (x:T)
 |sl (k:Nat) (xs:List T)
 |agg (cs:List T)
 |fn (f:FuncId) (fs cs:List T)
 |mW
 |iface (t:TypeId) (v:T)
 |qU
 |au (xs:List T)
 deriving Inhabited
def T.cells:T→List T
 | .agg cs=>cs
 |x=>[x]
def T.isAgg:T→Bool
 | .agg _=>true
 |_=>false
def big:Nat:=140737488355328
def kindOk (k:IntKind) (n:Int):Bool:=decide (k.min≤n)&&decide (n≤k.max)
mutual
def T.wf:T→Bool
 | .int k n=>kindOk k n
 | .bool _=>true
 | .str s=>decide (s.size≤big)
 | .dS=>true
 | .ref x=>x.wf
 | .sl _ xs=>decide (xs.length≤big)&&T.wfs xs
 | .agg cs=>T.wfs cs
 | .fn _ fs cs=>T.wfs fs&&T.wfs cs
 | .mW=>true
 | .iface _ v=>v.wf
 | .qU=>true
 | .au xs=>T.wfs xs
def T.wfs:List T→Bool
 | []=>true
 |x::xs=>x.wf&&T.wfs xs
end
theorem T.nC:∀ {xs:List T},T.wfs xs=true↔∀ x∈xs,x.wf=true
 | []=>by simp[T.wfs]
 |x::xs=>by simp[T.wfs,T.nC (xs:=xs)]
def T.scalar:T→Bool
 | .int _ _| .bool _| .str _| .dS| .mW| .qU=>true
 |_=>false
def T.plain:T→Bool
 | .au xs=>xs.all T.scalar
 | .agg xs=>xs.all T.scalar
 |x=>x.scalar
inductive PV where
 |t (x:T)
 |nil (e:TypeId) (k:Nat)
 |agg (cs:List PV)
 |ptr (l o:Nat)
 |own (l:Nat)
 |iC (l k i o:Nat)
 |view (l k lo hi:Nat)
 |fn (f:FuncId) (fs cs:List PV)
 |au (xs:List PV)
 |full (k:Nat) (xs:List T)
 |rp (k:Nat) (x:T) (o:Nat)
 |mp (l:Nat)
 |junk
 deriving Inhabited
inductive aj where
 |box (e:TypeId) (n:Nat) (v:PV)
 |ng (e:TypeId) (n:Nat) (v:T)
 |row (e:TypeId) (k:Nat) (xs:List T)
 |jT (e:TypeId) (k:Nat) (xs:List T)
 |vec (e:TypeId) (k n:Nat) (xs:List PV)
 |map (es:List (T×T×Nat)) (c:Nat)
 |iter (m since:Nat) (seen:List Nat) (last:Nat)
 |dead
 deriving Inhabited
structure St where
 tmps:List PV
 heap:List aj
inductive ah (α:Type) where
 |ok (a:α)
 |absurd
 |stuck
 deriving Inhabited
def ah.bind {α β:Type}:ah α→(α→ah β)→ah β
 | .ok a,f=>f a
 | .absurd,_=> .absurd
 | .stuck,_=> .stuck
def ah.le {α:Type}:ah α→α→Prop
 | .ok a,b=>a=b
 | .absurd,_=>True
 | .stuck,_=>False
@[simp] theorem ah.bind_ok {α β:Type} (a:α) (f:α→ah β):(ah.ok a).bind f=f a:=rfl
@[simp] theorem ah.alb {α β:Type} (f:α→ah β):(ah.absurd:ah α).bind f= .absurd:=rfl
@[simp] theorem ah.anv {α β:Type} (f:α→ah β):(ah.stuck:ah α).bind f= .stuck:=rfl
end
section
open Go.RowKit
def T.cell (x:T) (i:Nat):T:=x.cells.getD i .dS
def T.ay (x:T) (o s:Nat) (a:Bool):T:=bif a then .agg ((x.cells.drop o).take s) else x.cell o
def T.akW (x:T) (o:Nat) (ys:List T):T:= .agg (x.cells.take o++ys++x.cells.drop (o+ys.length))
section
variable {β:Type}
def bT (x:T) (K:Bool→ah β):ah β:=match x with| .bool b=>K b|_=> .stuck
def iT (k:IntKind) (x:T) (K:Int→ah β):ah β:=match x with| .int k' n=>if k'=k then K n else .stuck|_=> .stuck
def o9 (x:T) (K:Int→ah β):ah β:=match x with| .int _ n=>K n|_=> .stuck
def qW (k:Nat) (x:T) (K:List T→ah β):ah β:=match x with| .sl k' xs=>if k'=k then K xs else .stuck|_=> .stuck
def Qd (x:T) (K:ByteArray→ah β):ah β:=match x with| .str s=>K s|_=> .stuck
def Yd (x:T) (K:Int→ah β):ah β:=match x with| .sl _ xs=>K xs.length| .str s=>K s.size|_=> .stuck
def iO (x:T) (K:Int→ah β):ah β:=match x with| .sl _ xs=>K xs.length|_=> .stuck
def akX (x:T) (K:Nat→T→ah β):ah β:=match x with| .ref y=>K y.cells.length y|_=> .stuck
def aG (x:T) (i:Nat) (K:T→ah β):ah β:=match x with| .au l=>(match l[i]? with|some y=>K y|none=> .stuck)|_=> .stuck
def bK (xs:List T) (i:Int) (K:T→ah β):ah β:=if 0≤i then(match xs[i.toNat]? with|some e=>K e|none=> .stuck) else .stuck
def chk (b:Bool) (r:ah β):ah β:=bif b then r else .stuck
def bW {α:Type} (f:α→Bool) (xs:List α) (r:ah β):ah β:=match xs with| []=>r|x::xs=>chk (f x) (bW f xs r)
def PS (x:T) (Kn:ah β) (K:T→ah β):ah β:=match x with| .dS=>Kn| .ref y=>K y|_=> .stuck
end
def T.eX:List Nat→List T→List T→Option Bool
 | [],[],[]=>some true
 |0::l,.int k a::xs,.int k' b::ys=>if k=k' then(T.eX l xs ys).map ((a==b)&& ·) else none
 |1::l,.bool a::xs,.bool b::ys=>(T.eX l xs ys).map ((a==b)&& ·)
 |2::l,.str a::xs,.str b::ys=>(T.eX l xs ys).map ((a==b)&& ·)
 |_,_,_=>none
def T.flat (l:List Nat) (x:T):List T:=match l with| [_]=>[x]|_=>x.cells
def eqT {β:Type} (l:List Nat) (x y:T) (K:Bool→ah β):ah β:=match T.eX l (x.flat l) (y.flat l) with|some b=>K b|none=> .stuck
def kJ (P:Program) (t:TypeId):Option Nat:=(P.info? t).map (·.size)
def Oq (P:Program) (t:TypeId):Option Nat:=(P.info? t).map (·.bytes)
def lM (P:Program) (t:TypeId):Option Bool:=match P.underlying t with
 |some (.struct _)=>some true
 |some (.array _ _)=>some true
 |some _=>some false
 |none=>none
def AY (P:Program) (t:TypeId):Option TypeId:=match P.underlying t with|some (.slice e)=>some e|_=>none
def qC (P:Program) (t:TypeId):Option IntKind:=match P.underlying t with|some (.int k)=>some k|_=>none
def yh (P:Program) (t:TypeId) (i:Nat):Option (Nat×TypeId):=match P.underlying t with
 |some (.struct fs)=>(fs[i]?).map fun f=>(f.offset,f.type)
 |_=>none
def Iu (P:Program) (f:TypeId→Option (List Nat)):List Field→Nat→Option (List Nat)
 | [],_=>some []
 |fd::r,off=>bif fd.name== "_" || !(fd.offset==off) then none else match f fd.type,kJ P fd.type,lM P fd.type with
  |some l,some s,some a=>bif l.length==s&&(a||s==1) then(Iu P f r (off+s)).map (l++ ·) else none
  |_,_,_=>none
def BR (P:Program):Nat→TypeId→Option (List Nat)
 |0,_=>none
 |d+1,t=>match P.underlying t with
  |some (.int _)=>some [0]
  |some .bool=>some [1]
  |some .string=>some [2]
  |some (.struct fs)=>bif P.stoodInHeld t then none else Iu P (BR P d) fs.toList 0
  |_=>none
def QE (P:Program):Nat→TypeId→Option (List TypeId)
 |0,_=>none
 |d+1,t=>match P.underlying t with
  |some (.struct fs)=>fs.toList.foldr (fun f acc=>match QE P d f.type,acc with|some a,some b=>some (a++b)|_,_=>none) (some [])
  |some (.array n e)=>(QE P d e).map fun l=>(List.replicate n l).flatten
  |some _=>some [t]
  |none=>none
def adM (P:Program):Nat→TypeId→Bool
 |0,_=>false
 |d+1,t=>match P.underlying t with
  |some (.int _)|some .bool|some .string=>true
  |some (.tuple ts)=>ts.toList.all (adM P d)
  |some (.struct fs)=>fs.toList.all fun f=>adM P d f.type
  |_=>false
def dY:PV:= .au []
def allT:List PV→Option (List T)
 | []=>some []
 | .t x::r=>(allT r).map (x:: ·)
 |_::_=>none
def xR (cs:List PV):PV:=match allT cs with|some ts=> .t (.agg ts)|none=> .agg cs
def PV.cells (n:Nat):PV→List PV
 | .agg cs=>cs
 | .t x=>(List.range n).map fun i=> .t (x.cell i)
 | .junk=>List.replicate n .junk
 |p=>[p]
def T.aY:T→Bool
 | .au _=>true
 |_=>false
def PV.okS (s:Nat):PV→Bool
 | .t x=>x.cells.length==s&& !x.aY
 | .agg cs=>cs.length==s
 | .au _=>false
 | .junk=>false
 |_=>s==1
def T.mF (k:Nat) (x:T):Bool:=x.cells.length==k&& !x.aY&&(!(k==1)|| !x.isAgg)
def PV.part (p:PV) (o s:Nat) (a:Bool):PV:=match p with
 | .t x=> .t (x.ay o s a)
 | .agg cs=>bif a then xR ((cs.drop o).take s) else cs.getD o .junk
 |p=>p
mutual
def PV.o7 (H:List aj):PV→Option T
 | .t x=>some x
 | .nil _ k=>some (.sl k [])
 | .agg cs=>(PV.lF H cs).map .agg
 | .au cs=>(PV.lF H cs).map .au
 | .own l=>match H[l]? with
  |some (.row _ k xs)=>some (.sl k xs)
  |some (.jT _ k xs)=>some (.sl k xs)
  |_=>none
 | .fn f fs cs=>match PV.lF H fs,PV.lF H cs with|some a,some b=>some (.fn f a b)|_,_=>none
 | .full k xs=>some (.sl k xs)
 | .rp _ _ _=>none
 | .mp _=>none
 | .ptr l o=>match H[l]? with
  |some (.ng _ n v)=>if o=0 then some (.ref v) else none
  |_=>none
 | .iC _ _ _ _=>none
 | .view l k lo hi=>match H[l]? with
  |some (.row _ k' xs)=>bif k'==k&&decide (lo≤hi)&&decide (hi≤xs.length) then some (.sl k ((xs.take hi).drop lo)) else none
  |some (.jT _ k' xs)=>bif k'==k&&decide (lo≤hi)&&decide (hi≤xs.length) then some (.sl k ((xs.take hi).drop lo)) else none
  |_=>none
 | .junk=>none
def PV.lF (H:List aj):List PV→Option (List T)
 | []=>some []
 |p::r=>match p.o7 H,PV.lF H r with|some x,some xs=>some (x::xs)|_,_=>none
end
end
section
open Go.RowKit
structure Env where
 P:Program
 hint:FuncId→Nat→List Nat×List Nat
 mode:FuncId→Nat
 ext:FuncId→Option (List T→ah T)
 agH:FuncId→Bool
 zM:FuncId→Option (List aj→List T→List PV→ah (List T))
inductive Ex where
 |norm
 |exit (id:Nat)
 |ret
def Ex.k {γ:Type} (e:Ex) (n:γ) (x:Nat→γ) (r:γ):γ:=match e with
 | .norm=>n
 | .exit i=>x i
 | .ret=>r
mutual
def PV.kill (p:Nat→Bool):PV→PV
 | .own l=>bif p l then .junk else .own l
 | .iC l k i o=>bif p l then .junk else .iC l k i o
 | .view l k lo hi=>bif p l then .junk else .view l k lo hi
 | .agg cs=> .agg (PV.kills p cs)
 | .au cs=> .au (PV.kills p cs)
 | .fn f fs cs=> .fn f (PV.kills p fs) (PV.kills p cs)
 |q=>q
def PV.kills (p:Nat→Bool):List PV→List PV
 | []=>[]
 |q::r=>q.kill p::PV.kills p r
end
def aj.kill (p:Nat→Bool):aj→aj
 | .box e n v=> .box e n (v.kill p)
 | .vec e k n xs=> .vec e k n (PV.kills p xs)
 |o=>o
mutual
def PV.gq:PV→List Nat
 | .own l=>[l]
 | .iC l _ _ _=>[l]
 | .view l _ _ _=>[l]
 | .ptr l _=>[l]
 | .mp l=>[l]
 | .agg cs=>PV.qR cs
 | .au cs=>PV.qR cs
 | .fn _ fs cs=>PV.qR fs++PV.qR cs
 |_=>[]
def PV.qR:List PV→List Nat
 | []=>[]
 |q::r=>q.gq++PV.qR r
end
mutual
def PV.rows:PV→List Nat
 | .own l=>[l]
 | .iC l _ _ _=>[l]
 | .view l _ _ _=>[l]
 | .agg cs=>PV.dU cs
 | .au cs=>PV.dU cs
 | .fn _ fs cs=>PV.dU fs++PV.dU cs
 |_=>[]
def PV.dU:List PV→List Nat
 | []=>[]
 |q::r=>q.rows++PV.dU r
end
def aj.gq:aj→List Nat
 | .box _ _ v=>v.gq
 | .vec _ _ _ xs=>PV.qR xs
 | .iter m _ _ _=>[m]
 |_=>[]
def aj.rows:aj→List Nat
 | .box _ _ v=>v.rows
 | .vec _ _ _ xs=>PV.dU xs
 |_=>[]
mutual
def PV.ren (f:Nat→Nat):PV→PV
 | .own l=> .own (f l)
 | .iC l k i o=> .iC (f l) k i o
 | .view l k lo hi=> .view (f l) k lo hi
 | .ptr l o=> .ptr (f l) o
 | .mp l=> .mp (f l)
 | .agg cs=> .agg (PV.CB f cs)
 | .au cs=> .au (PV.CB f cs)
 | .fn g fs cs=> .fn g (PV.CB f fs) (PV.CB f cs)
 |q=>q
def PV.CB (f:Nat→Nat):List PV→List PV
 | []=>[]
 |q::r=>q.ren f::PV.CB f r
end
def aj.ren (f:Nat→Nat):aj→aj
 | .box e n v=> .box e n (v.ren f)
 | .vec e k n xs=> .vec e k n (PV.CB f xs)
 | .iter m a b c=> .iter (f m) a b c
 |o=>o
mutual
def PV.prom (H:List aj):PV→PV×List aj
 | .nil e k=>(.own H.length,H++ [.row e k []])
 | .agg cs=>let r:=PV.oK H cs; (.agg r.1,r.2)
 |q=>(q,H)
def PV.oK (H:List aj):List PV→List PV×List aj
 | []=>([],H)
 |q::r=>let a:=q.prom H; let b:=PV.oK a.2 r; (a.1::b.1,b.2)
end
def qh:Nat→Nat→List aj→List aj
 |_,0,H=>H
 |i,n+1,H=>match H[i]? with
  |some (.box e m v)=>let r:=v.prom H; qh (i+1) n (r.2.set i (.box e m r.1))
  |_=>qh (i+1) n H
def reach (H:List aj):Nat→List Nat→List Nat→List Nat
 |0,_,done=>done
 |n+1,todo,done=>
  let new:=(todo.filter fun l=> !done.contains l).eraseDups
  match new with
  | []=>done
  |_=>reach H n (new.flatMap fun l=>(H.getD l .dead).gq) (done++new)
def dP (live:List Nat) (tm:List PV):List PV:=tm.zipIdx.map fun(p,i)=>bif live.contains i then p else .junk
def idx:List Nat→Nat→Nat
 | [],_=>0
 |x::xs,l=>bif x==l then 0 else idx xs l+1
def nodupB:List Nat→Bool
 | []=>true
 |x::xs=> !xs.contains x&&nodupB xs
def QI (base:Nat) (order:List Nat) (tm:List PV) (H:List aj):Bool:=
 nodupB order&&order.all (fun l=>decide (l < H.length)&&(H.getD l .dead).gq.all (order.contains ·))&&(PV.qR tm).all (order.contains ·)&&order.take base==List.range base&&decide (base≤order.length)
def Qh (base:Nat) (order:List Nat) (tm:List PV) (H:List aj):St:=
 bif QI base order tm H then⟨PV.CB (idx order) tm,order.map fun l=>(H.getD l .dead).ren (idx order)⟩ else⟨tm,H⟩
def canon (base:Nat) (live:List Nat) (st:St):St:=
 let r:=PV.oK st.heap (dP live st.tmps)
 let H:=qh 0 st.heap.length r.2
 Qh base (reach H (H.length+1) (PV.qR r.1) (List.range base)) r.1 H
def E5 (f:TypeId→Value→Option PV):List TypeId→List Value→Option (List PV)
 | [],[]=>some []
 |t::ts,v::vs=>match f t v,E5 f ts vs with|some p,some ps=>some (p::ps)|_,_=>none
 |_,_=>none
def BM (P:Program) (t:TypeId):Value→Option PV
 | .int k n=>bif kindOk k n then some (.t (.int k n)) else none
 | .bool b=>some (.t (.bool b))
 | .string s=>bif decide (s.size≤big) then some (.t (.str s)) else none
 | .pointer none=>some (.t .dS)
 | .nilFunc=>some (.t .mW)
 | .nilIface=>some (.t .qU)
 | .slice none 0 0=>match AY P t with
  |some e=>(kJ P e).map (PV.nil e ·)
  |none=>none
 |_=>none
def l9 (P:Program) (t:TypeId):Value→Option PV
 | .agg vs=>match QE P 20 t with
  |some ts=>(E5 (BM P) ts vs.toList).map xR
  |none=>none
 | .tuple vs=>bif vs.isEmpty then some dY else none
 |v=>BM P t v
def bV (P:Program) (tm:List PV) (t:TypeId):Operand→Option PV
 | .tmp i=>some (tm.getD i dY)
 | .const v=>l9 P t v
 | .global _=>none
 | .func f=>some (.t (.fn f [] []))
def jF (P:Program) (tm:List PV) (ty:Nat→TypeId):Nat→List Operand→Option (List PV)
 |_,[]=>some []
 |i,o::r=>match bV P tm (ty i) o,jF P tm ty (i+1) r with|some p,some ps=>some (p::ps)|_,_=>none
section ops
variable {β:Type} (E:Env)
def akz {α γ:Type} (o:Option α) (K:α→Option γ):Option γ:=match o with|some a=>K a|none=>none
def aS {α:Type} (o:Option α) (K:α→ah β):ah β:=match o with|some a=>K a|none=> .stuck
def uj (st:St) (t:TypeId) (p:PV) (K:PV→ah β):ah β:=
 match kJ E.P t,lM E.P t with
 |some s,some a=>
  bif !((a&&decide (2≤s))||(!a&&s==1)) then .stuck else
  match p with
  | .ptr l o=>match st.heap[l]? with
   |some (.box _ n v)=>bif o==0&&s==n&&decide (2≤n) then K v else bif decide (o+s≤n) then K (v.part o s a) else .stuck
   |some (.ng _ n v)=>bif o==0&&s==n then K (.t v) else bif decide (o+s≤n) then K (.t (v.ay o s a)) else .stuck
   |_=> .stuck
  | .iC l k i o=>match st.heap[l]? with
   |some (.row _ k' xs)=>bif k'==k then(bif o==0&&s==k then K (.t (xs.getD i .dS)) else bif decide (o+s≤k) then K (.t ((xs.getD i .dS).ay o s a)) else .stuck) else .stuck
   |some (.jT _ k' xs)=>bif k'==k then(bif o==0&&s==k then K (.t (xs.getD i .dS)) else bif decide (o+s≤k) then K (.t ((xs.getD i .dS).ay o s a)) else .stuck) else .stuck
   |some (.vec _ k' _ xs)=>bif k'==k&&decide (o+s≤k) then K (bif a then xR ((xs.drop (i*k+o)).take s) else xs.getD (i*k+o) .junk) else .stuck
   |_=> .stuck
  | .rp k x o=>bif o==0&&s==k then K (.t x) else bif decide (o+s≤k) then K (.t (x.ay o s a)) else .stuck
  | .t x=>PS x .stuck fun y=>chk (y.cells.length==s) (K (.t y))
  |_=> .stuck
 |_,_=> .stuck
def aI (ls:List Nat) (H:List aj):List aj:=ls.foldl (fun(H:List aj) (l:Nat)=>match H[l]? with|some (aj.row e k xs)=>H.set l (aj.jT e k xs)|_=>H) H
def wU (st:St) (t:TypeId) (p v:PV) (K:St→ah β):ah β:=
 match kJ E.P t,lM E.P t with
 |some s,some a=>
  bif !((a&&decide (2≤s))||(!a&&s==1)) then .stuck else chk (v.okS s) <|
  match p with
  | .ptr l o=>match st.heap[l]? with
   |some (.box e n w)=>
    bif o==0&&s==n then K ⟨st.tmps,st.heap.set l (.box e n v)⟩ else
    bif decide (o+s≤n) then K ⟨st.tmps,st.heap.set l (.box e n (xR ((w.cells n).take o++v.cells s++(w.cells n).drop (o+s))))⟩ else .stuck
   |_=> .stuck
  | .iC l k i o=>match st.heap[l]? with
   |some (.row e k' xs)=>bif !(k'==k) then .stuck else aS (v.o7 st.heap) fun y=>
    bif v.rows.contains l then .stuck else
    bif o==0&&s==k then chk (!(k==1)|| !y.isAgg) (K ⟨st.tmps,(aI v.rows st.heap).set l (.row e k' (xs.set i y))⟩) else
    bif decide (o+s≤k) then K ⟨st.tmps,(aI v.rows st.heap).set l (.row e k' (xs.set i ((xs.getD i .dS).akW o (y.cells))))⟩ else .stuck
   |some (.vec e k' n xs)=>bif k'==k&&decide (o+s≤k) then K ⟨st.tmps,st.heap.set l (.vec e k' n (xs.take (i*k+o)++v.cells s++xs.drop (i*k+o+s)))⟩ else .stuck
   |_=> .stuck
  |_=> .stuck
 |_,_=> .stuck
def sK (st:St) (k:Nat) (p:PV) (K:List T→ah β):ah β:=match p with
 | .nil _ _=>K []
 | .own l=>match st.heap[l]? with
  |some (.row _ k' xs)=>bif k'==k then K xs else .stuck
  |some (.jT _ k' xs)=>bif k'==k then K xs else .stuck
  |_=> .stuck
 | .view l k0 lo hi=>match st.heap[l]? with
  |some (.row _ k' xs)=>bif k'==k&&k0==k&&decide (lo≤hi)&&decide (hi≤xs.length) then K ((xs.take hi).drop lo) else .stuck
  |some (.jT _ k' xs)=>bif k'==k&&k0==k&&decide (lo≤hi)&&decide (hi≤xs.length) then K ((xs.take hi).drop lo) else .stuck
  |_=> .stuck
 | .full k' xs=>bif k'==k then K xs else .stuck
 | .t x=>qW k x K
 |_=> .stuck
def pY (st:St) (t:TypeId) (p:PV) (ix:PV) (K:PV→ah β):ah β:=
 match AY E.P t with
 |none=> .stuck
 |some e=>match kJ E.P e with
  |none=> .stuck
  |some k=>match ix with
   | .t iv=>o9 iv fun i=>match p with
    | .own l=>match st.heap[l]? with
     |some (.row _ k' xs)=>bif k'==k then chk (decide (0≤i)&&decide (i < xs.length)) (K (.iC l k i.toNat 0)) else .stuck
     |some (.jT _ k' xs)=>bif k'==k then chk (decide (0≤i)&&decide (i < xs.length)) (K (.iC l k i.toNat 0)) else .stuck
     |some (.vec _ k' n _)=>bif k'==k then chk (decide (0≤i)&&decide (i < n)) (K (.iC l k i.toNat 0)) else .stuck
     |_=> .stuck
    | .view l k0 lo hi=>match st.heap[l]? with
     |some (.row _ k' xs)=>bif k'==k&&k0==k&&decide (hi≤xs.length) then chk (decide (0≤i)&&decide (lo+i.toNat < hi)) (K (.iC l k (lo+i.toNat) 0)) else .stuck
     |_=> .stuck
    | .full k' xs=>bif k'==k then bK xs i fun e=>K (.rp k e 0) else .stuck
    | .t x=>qW k x fun xs=>bK xs i fun e=>K (.rp k e 0)
    |_=> .stuck
   |_=> .stuck
def kH (t:TypeId) (f:Nat) (p:PV) (K:PV→ah β):ah β:=
 match yh E.P t f with
 |none=> .stuck
 |some (off,ft)=>match kJ E.P ft with
  |some (_+1)=>match p with
   | .ptr l o=>K (.ptr l (o+off))
   | .iC l k i o=>K (.iC l k i (o+off))
   | .rp k x o=>K (.rp k x (o+off))
   | .t x=>match kJ E.P t with
    |some n=>PS x .stuck fun y=>chk (y.cells.length==n) (K (.rp n y off))
    |none=> .stuck
   |_=> .stuck
  |_=> .stuck
def wF (op:BinOp) (k:IntKind) (a b:Int) (K:T→ah β):ah β:=match op with
 | .add=>K (.int k (k.wrap (a+b)))
 | .sub=>K (.int k (k.wrap (a - b)))
 | .mul=>K (.int k (k.wrap (a*b)))
 | .quo=>chk (!(b==0)) (K (.int k (k.wrap (a.tdiv b))))
 | .rem=>chk (!(b==0)) (K (.int k (a.tmod b)))
 | .and=>K (.int k (k.wrap (BitVec.ofInt k.bits a&&& BitVec.ofInt k.bits b).toNat))
 | .or=>K (.int k (k.wrap (BitVec.ofInt k.bits a|||BitVec.ofInt k.bits b).toNat))
 | .xor=>K (.int k (k.wrap (BitVec.ofInt k.bits a ^^^ BitVec.ofInt k.bits b).toNat))
 | .andNot=>K (.int k (k.wrap (BitVec.ofInt k.bits a&&& ~~~ BitVec.ofInt k.bits b).toNat))
 | .eql=>K (.bool (a==b))
 | .neq=>K (.bool (a !=b))
 | .lss=>K (.bool (decide (a < b)))
 | .leq=>K (.bool (decide (a≤b)))
 | .gtr=>K (.bool (decide (a > b)))
 | .geq=>K (.bool (decide (a≥b)))
 |_=> .stuck
def wR (op:BinOp) (k:IntKind) (a b:Int) (K:T→ah β):ah β:=match op with
 | .shl=>chk (decide (0≤b)) (K (.int k (k.wrap (a*2 ^ (min b.toNat k.bits)))))
 | .shr=>chk (decide (0≤b)) (K (.int k (a.fdiv (2 ^ (min b.toNat k.bits)))))
 |_=> .stuck
def X8 (P:Program) (t:TypeId):Option (List Nat):=bif P.eqGuardType P.depth t then none else match BR P 20 t,lM P t,kJ P t with
 |some l,some a,some s=>bif l.length==s&&((a&&decide (2≤s))||(!a&&s==1)) then some l else none
 |_,_,_=>none
def DX (P:Program) (t:TypeId):Option Nat:=match P.underlying t with
 |some (.pointer _)=>some 0
 |some (.func _ _ _)=>some 1
 |some (.interface _)=>some 2
 |some (.slice _)=>some 3
 |_=>none
def agJ (k:Nat) (x:T) (K:Bool→ah β):ah β:=match k with
 |0=>(match x with| .dS=>K true| .ref _=>K false|_=> .stuck)
 |1=>(match x with| .mW=>K true| .fn _ _ _=>K false|_=> .stuck)
 |2=>(match x with| .qU=>K true| .iface _ _=>K false|_=> .stuck)
 |_=> .stuck
def Ci (k:Nat) (p:PV) (K:Bool→ah β):ah β:=match p with
 | .ptr _ _=>bif k==0 then K false else .stuck
 | .iC _ _ _ _=>bif k==0 then K false else .stuck
 | .rp _ _ _=>bif k==0 then K false else .stuck
 | .fn _ _ _=>bif k==1 then K false else .stuck
 | .nil _ _=>bif k==3 then K true else .stuck
 | .t x=>agJ k x K
 |_=> .stuck
def Jj (k:Nat):Operand→Bool
 | .const (.pointer none)=>k==0
 | .const .nilFunc=>k==1
 | .const .nilIface=>k==2
 | .const (.slice none 0 0)=>k==3
 |_=>false
def eqK (t:TypeId) (x y:Operand) (px py:PV) (K:Bool→ah β):ah β:=
 match DX E.P t with
 |some k=>bif Jj k y then Ci k px K else bif Jj k x then Ci k py K else .stuck
 |none=>aS (X8 E.P t) fun l=>(match px,py with| .t a,.t b=>eqT l a b K|_,_=> .stuck)
def FW (op:BinOp) (t t':TypeId) (x y:Operand) (px py:PV) (K:PV→ah β):ah β:=
 match qC E.P t with
 |some k=>match op with
  | .shl| .shr=>match qC E.P t' with
   |some k'=>match px,py with
    | .t a,.t b=>iT k a fun a=>iT k' b fun b=>wR op k a b fun r=>K (.t r)
    |_,_=> .stuck
   |none=> .stuck
  |_=>match px,py with
   | .t a,.t b=>iT k a fun a=>iT k b fun b=>wF op k a b fun r=>K (.t r)
   |_,_=> .stuck
 |none=>match op with
  | .eql=>eqK E t x y px py fun b=>K (.t (.bool b))
  | .neq=>eqK E t x y px py fun b=>K (.t (.bool !b))
  |_=> .stuck
def unK (op:UnOp) (t:TypeId) (px:PV) (K:PV→ah β):ah β:=match op,px with
 | .not,.t x=>bT x fun b=>K (.t (.bool !b))
 | .neg,.t x=>aS (qC E.P t) fun k=>iT k x fun n=>K (.t (.int k (k.wrap (0 - n))))
 |_,_=> .stuck
def Ir (src dst:TypeId) (px:PV) (K:PV→ah β):ah β:=match px with
 | .t x=>aS (qC E.P src) fun k=>aS (qC E.P dst) fun k'=>iT k x fun n=>K (.t (.int k' (k'.wrap n)))
 |_=> .stuck
def EY (s:Nat) (a:Bool) (n o:Nat) (p:PV) (K:PV→ah β):ah β:=
 bif !((a&&decide (2≤s))||(!a&&s==1)) then .stuck else chk (p.okS n&&decide (2≤n)&&decide (o+s≤n)) (K (p.part o s a))
def TD (t:TypeId) (p i:PV) (K:PV→ah β):ah β:=match E.P.underlying t with
 |some (.array n e)=>match kJ E.P e,lM E.P e,i with
  |some s,some a,.t iv=>o9 iv fun i=>chk (decide (0≤i)&&decide (i < n)) (EY s a (n*s) (i.toNat*s) p K)
  |_,_,_=> .stuck
 |some .string=>match p,i with
  | .t pv,.t iv=>Qd pv fun s=>o9 iv fun i=>chk (decide (0≤i)) (aS s[i.toNat]? fun b=>K (.t (.int .u8 b.toNat)))
  |_,_=> .stuck
 |_=> .stuck
def TF (t:TypeId) (f:Nat) (p:PV) (K:PV→ah β):ah β:=match yh E.P t f with
 |some (off,ft)=>match kJ E.P ft,lM E.P ft,kJ E.P t with
  |some s,some a,some n=>EY s a n off p K
  |_,_,_=> .stuck
 |none=> .stuck
def mG (n:Nat) (d:Nat) (p:Option PV) (K:Nat→ah β):ah β:=match p with
 |none=>K d
 |some (.t x)=>o9 x fun i=>chk (decide (0≤i)&&decide (i≤n)) (K i.toNat)
 |some _=> .stuck
def qJ (H:List aj):PV→Option (Nat×Nat×Nat×Nat×Bool)
 | .own l=>match H[l]? with
  |some (.row _ k xs)=>some (l,k,0,xs.length,true)
  |_=>none
 | .view l k a b=>match H[l]? with
  |some (.row _ _ _)=>some (l,k,a,b,false)
  |_=>none
 |_=>none
def rowLen (H:List aj) (l:Nat):Nat:=match H[l]? with
 |some (.row _ _ xs)=>xs.length
 |_=>0
def wS (dr:Bool) (st:St) (t:TypeId) (p:PV) (lo hi mx:Option PV) (K:PV→St→ah β):ah β:=
 match E.P.underlying t with
 |some .string=>match p,mx with
  | .t x,none=>Qd x fun s=>mG s.size s.size hi fun h=>mG h 0 lo fun l=>K (.t (.str (s.extract l h))) st
  |_,_=> .stuck
 |some (.slice e)=>match kJ E.P e with
  |none=> .stuck
  |some k=>match qJ st.heap p with
   |some (l,k',a,b,full)=>bif !(k'==k) then .stuck else(match mx with
    |none=>mG (rowLen st.heap l - a) (b - a) hi fun h=>mG h 0 lo fun l'=>K (.view l k (a+l') (a+h)) st
    |some m=>bif hi.isNone|| !full then .stuck else mG b b (some m) fun m=>mG m b hi fun h=>mG h 0 lo fun _=>K .junk st)
   |none=>bif dr&& !p.rows.isEmpty then .stuck else sK st k p fun xs=>
    let H:=aI p.rows st.heap
    match mx with
    |none=>mG xs.length xs.length hi fun h=>mG h 0 lo fun l=>K (.t (.sl k ((xs.take h).drop l))) ⟨st.tmps,H⟩
    |some m=>bif hi.isNone then .stuck else mG xs.length xs.length (some m) fun m=>mG m xs.length hi fun h=>mG h 0 lo fun l=>
     bif decide (m=h) then K (.full k ((xs.take h).drop l)) ⟨st.tmps,H⟩ else K (.t (.sl k ((xs.take h).drop l))) ⟨st.tmps,H⟩
 |_=> .stuck
def fQ (xs:List T) (a:Nat) (ys:List T):List T:=xs.take a++ys++xs.drop (a+ys.length)
def nJ (P:Program) (e:TypeId) (k:Nat):Bool:=match (P.info? e).bind (·.zero) with|some z=>z.cells.size==k|none=>false
def qI (st:St) (t t':TypeId) (s x:PV) (K:PV→St→ah β):ah β:=
 match AY E.P t with
 |some e=>match kJ E.P e,Oq E.P e with
  |some (k+1),some (b+1)=>bif t==t'&&nJ E.P e (k+1) then sK st (k+1) x fun ys=>match s with
   | .nil _ _=>chk (decide (ys.length*(b+1)≤big)) (K (.own st.heap.length) ⟨st.tmps,st.heap++ [.row e (k+1) ys]⟩)
   | .own l=>match st.heap[l]? with
    |some (.row e₀ k₀ xs)=>bif e₀==e&&k₀==k+1 then
     chk (decide ((xs.length+ys.length)*(b+1)≤big)) (K (.own l) ⟨PV.kills (· ==l) st.tmps,(st.heap.map (aj.kill (· ==l))).set l (.row e (k+1) (xs++ys))⟩) else .stuck
    |_=> .stuck
   | .view l k0 lo hi=>match st.heap[l]? with
    |some (.row e₀ k₀ xs)=>bif e₀==e&&k₀==k+1&&k0==k+1 then
     chk (decide (lo≤hi)&&decide (hi+ys.length≤xs.length)) (K (.view l k0 lo (hi+ys.length)) ⟨st.tmps,st.heap.set l (.row e (k+1) (fQ xs hi ys))⟩) else .stuck
    |_=> .stuck
   | .full k₀ xs=>bif k₀==k+1 then chk (decide ((xs.length+ys.length)*(b+1)≤big)) (K (.t (.sl (k+1) (xs++ys))) st) else .stuck
   |_=> .stuck
   else .stuck
  |_,_=> .stuck
 |_=> .stuck
def BI (st:St) (t:TypeId) (p:PV) (K:St→ah β):ah β:=
 match AY E.P t with
 |some e=>match kJ E.P e,((E.P.info? e).bind (·.zero)).bind (l9 E.P e) with
  |some (k+1),some z=>aS (z.o7 []) fun z=>chk (nJ E.P e (k+1)&&z.mF (k+1)) <|
   match qJ st.heap p with
   |some (l,k',a,b,_)=>match st.heap[l]? with
    |some (.row e₀ k₀ xs)=>bif e₀==e&&k₀==k+1&&k'==k+1 then chk (decide (a≤b)&&decide (b≤xs.length)) (K ⟨st.tmps,st.heap.set l (.row e (k+1) (fQ xs a (List.replicate (b - a) z)))⟩) else .stuck
    |_=> .stuck
   |none=> .stuck
  |_,_=> .stuck
 |none=> .stuck
def zh (st:St) (t t':TypeId) (p x:PV) (K:PV→St→ah β):ah β:=
 match AY E.P t with
 |some e=>match kJ E.P e with
  |some (k+1)=>bif t==t' then sK st (k+1) x fun ys=>
   match qJ st.heap p with
   |some (l,k',a,b,_)=>match st.heap[l]? with
    |some (.row e₀ k₀ xs)=>bif e₀==e&&k₀==k+1&&k'==k+1 then chk (decide (a≤b)&&decide (b≤xs.length))
     (K (.t (.int .i64 (min ys.length (b - a):Nat))) ⟨st.tmps,st.heap.set l (.row e (k+1) (fQ xs a (ys.take (b - a))))⟩) else .stuck
    |_=> .stuck
   |none=> .stuck
   else .stuck
  |_=> .stuck
 |none=> .stuck
def pO (st:St) (t:TypeId) (n c:PV) (K:PV→St→ah β):ah β:=
 match AY E.P t,n,c with
 |some e,.t n,.t c=>match kJ E.P e,Oq E.P e,((E.P.info? e).bind (·.zero)).bind (l9 E.P e) with
  |some (k+1),some (b+1),some z=>aS (z.o7 []) fun z=>iT .i64 n fun n=>iT .i64 c fun c=>
   chk (nJ E.P e (k+1)&&z.mF (k+1)) <| chk (decide (0≤n)&&decide (n≤c)&&decide (c.toNat*(b+1)≤big)) (K (.own st.heap.length) ⟨st.tmps,st.heap++ [.row e (k+1) (List.replicate n.toNat z)]⟩)
  |_,_,_=> .stuck
 |_,_,_=> .stuck
def IV (P:Program) (t:TypeId):Option (TypeId×TypeId):=match P.underlying t with|some (.map k e)=>some (k,e)|_=>none
def akR (P:Program) (t:TypeId):Option (List Nat):=match P.underlying t with
 |some (.int _)=>some [0]
 |some (.struct fs)=>bif fs.toList.all (fun f=>(qC P f.type).isSome) then akz (X8 P t) fun l=>bif decide (2≤l.length)&&l.all (· ==0) then some l else none else none
 |_=>none
def keyS:List Nat→T→Bool
 | [_],.int _ _=>true
 |_::_::_,.agg _=>true
 |_,_=>false
def T.isInt:T→Bool
 | .int _ _=>true
 |_=>false
def jB (l:List Nat) (k:T):Bool:=keyS l k&&((k.flat l).length==l.length&&(k.flat l).all T.isInt)
def jh (l:List Nat) (k:T):List (T×T×Nat)→Nat→Option (Option (Nat×T×Nat))
 | [],_=>some none
 |e::r,i=>match T.eX l (k.flat l) (e.1.flat l) with
  |some true=>some (some (i,e.2.1,e.2.2))
  |some false=>jh l k r (i+1)
  |none=>none
def fA (l:List Nat) (k:T) (es:List (T×T×Nat)) (Kn:ah β) (K:Nat→T→Nat→ah β):ah β:=match jh l k es 0 with
 |some none=>Kn
 |some (some (i,v,b))=>K i v b
 |none=> .stuck
def YH (P:Program) (t:TypeId):Option T:=(((P.info? t).bind (·.zero)).bind (l9 P t)).bind (PV.o7 [])
def Ee (st:St) (t:TypeId) (p ix:PV) (K:List Nat→Nat→List (T×T×Nat)→Nat→T→ah β):ah β:=match IV E.P t with
 |some (kt,_)=>aS (akR E.P kt) fun l=>match p,ix with
  | .mp m,.t k=>match st.heap[m]? with
   |some (.map es c)=>chk (jB l k) (K l m es c k)
   |_=> .stuck
  |_,_=> .stuck
 |none=> .stuck
def adQ (ok:Bool) (v:T) (b:Bool):PV:=bif ok then .t (.au [v,.bool b]) else .t v
def elT (P:Program) (t:TypeId):Option T:=match IV P t with|some (_,e)=>YH P e|none=>none
def rE (st:St) (t:TypeId) (p ix:PV) (ok:Bool) (K:PV→ah β):ah β:=
 aS (elT E.P t) fun z=>Ee E st t p ix fun l _ es _ k=>fA l k es (K (adQ ok z false)) fun _ v _=>K (adQ ok v true)
def wQ (st:St) (t:TypeId) (p ix v:PV) (K:St→ah β):ah β:=
 Ee E st t p ix fun l m es c k=>aS (v.o7 st.heap) fun x=>bif v.rows.isEmpty then
  fA l k es (K ⟨st.tmps,st.heap.set m (.map (es++ [(k,x,c)]) (c+1))⟩) fun i _ b=>K ⟨st.tmps,st.heap.set m (.map (es.set i (k,x,b)) c)⟩ else .stuck
def ny (st:St) (t:TypeId) (p ix:PV) (K:PV→St→ah β):ah β:=
 aS (elT E.P t) fun z=>Ee E st t p ix fun l m es c k=>
  fA l k es (chk (decide (c≤big)) (K (.t (.au [z,.int .i64 (c:Int)])) ⟨st.tmps,st.heap.set m (.map (es++ [(k,z,c)]) (c+1))⟩)) fun _ v b=>chk (decide (b≤big)) (K (.t (.au [v,.int .i64 (b:Int)])) st)
def iR (es:List (T×T×Nat)) (n:Int):Option Nat:=es.findIdx? fun e=>(e.2.2:Int)==n
def oz (st:St) (p s v:PV) (K:St→ah β):ah β:=match p,s with
 | .mp m,.t n=>iT .i64 n fun n=>match st.heap[m]? with
  |some (.map es c)=>aS (v.o7 st.heap) fun x=>bif v.rows.isEmpty then aS (iR es n) fun i=>match es[i]? with
   |some (k,_,b)=>K ⟨st.tmps,st.heap.set m (.map (es.set i (k,x,b)) c)⟩
   |none=> .stuck
   else .stuck
  |_=> .stuck
 |_,_=> .stuck
def yH (st:St) (t:TypeId) (p ix:PV) (K:St→ah β):ah β:=
 Ee E st t p ix fun l m es c k=>fA l k es (K st) fun i _ _=>K ⟨st.tmps,st.heap.set m (.map (es.eraseIdx i) c)⟩
def Ag (n:Nat) (place:Nat→Option (Nat×Nat)):List PV→List (Nat×PV)→(List PV→ah β)→ah β
 |cs,[],K=>K cs
 |cs,(i,p)::r,K=>match place i with
  |some (o,s)=>bif decide (o+s≤n) then chk (p.okS s) (Ag n place (cs.take o++p.cells s++cs.drop (o+s)) r K) else .stuck
  |none=> .stuck
def aaT (P:Program) (t:TypeId):Option (Nat→Option (Nat×Nat)):=match P.underlying t with
 |some (.struct fs)=>(fs.toList.mapM (fun f=>(P.info? f.type).map fun i=>(f.offset,i.size))).map fun places i=>places[i]?
 |some (.array _ e)=>(P.info? e).map fun ie i=>some (i*ie.size,ie.size)
 |_=>none
def BG (t:TypeId) (parts:List (Nat×PV)) (K:PV→ah β):ah β:=
 match kJ E.P t,((E.P.info? t).bind (·.zero)).bind (l9 E.P t) with
 |some n,some z=>aS (aaT E.P t) fun place=>chk (z.okS n) (Ag n place (z.cells n) parts fun cs=>K (xR cs))
 |_,_=> .stuck
def jX (dr:Bool) (st:St) (t:TypeId) (n:Nat) (parts:List (Nat×PV)) (K:PV→St→ah β):ah β:=
 match AY E.P t with
 |some e=>match kJ E.P e with
  |some (k+1)=>
   bif !(decide (n*(k+1)≤1024)&&nJ E.P e (k+1)&&parts.map (·.1)==List.range n) then .stuck else
   let els:=parts.map (·.2)
   match PV.lF st.heap els with
   |some xs=>bif dr&& !(PV.dU els).isEmpty then .stuck else
    bW (T.mF (k+1)) xs (bif dr then K (.full (k+1) xs) st else K (.own st.heap.length) ⟨st.tmps,aI (PV.dU els) st.heap++ [.row e (k+1) xs]⟩)
   |none=>bif k==0&& !dr then bW (fun p=>p.okS 1&& !(p matches .agg _)&& !(match p with| .t x=>x.isAgg|_=>false)) els (K (.own st.heap.length) ⟨st.tmps,st.heap++ [.vec e 1 els.length els]⟩) else .stuck
  |_=> .stuck
 |none=> .stuck
end ops
end
section
open Go.RowKit
structure Caller where
 pure:FuncId→List T→ah T
 go:(β:Type)→FuncId→List PV→List aj→(PV→List aj→ah β)→ah β
section
variable {β:Type} (E:Env) (rc:Caller)
def aaW (f:FuncId):Bool:=match E.P.funcs[f]? with
 |some fn=>fn.resultTypes.toList.all (adM E.P 20)
 |none=>false
def lu (f:FuncId):Option (TypeId×Nat):=match E.P.funcs[f]? with
 |some fn=>(fn.resultTypes[0]?).bind fun t=>(AY E.P t).bind fun e=>(kJ E.P e).map fun k=>(e,k)
 |none=>none
def sZ (f:FuncId):Nat:=match E.P.funcs[f]? with|some fn=>fn.resultTypes.size|none=>0
def zA (x:T) (i:Nat):Nat→(List PV→ah β)→ah β
 |0,K=>K []
 |n+1,K=>aG x i fun y=>zA x (i+1) n fun ys=>K (.t y::ys)
def exposed (args:List PV) (H:List aj):List Nat:=PV.dU args++H.flatMap aj.rows
def lJ (ex:List Nat) (H:List aj):List aj:=H.zipIdx.map fun(o,i)=>match o with
 | .row e k xs=>bif ex.contains i then .row e k xs else .dead
 |o=>o
def tu (ex:List Nat) (H H':List aj):List aj:=H'.zipIdx.map fun(o,i)=>match H[i]? with
 |some (.row e k xs)=>bif ex.contains i then o else .row e k xs
 |_=>o
def IE (p:PV) (st:St) (K:PV→St→ah β):ah β:=match p with
 | .view l k 0 hi=>(match st.heap[l]? with
  |some (.row e k' xs)=>bif k'==k&&decide (hi≤xs.length) then K (.own l) ⟨PV.kills (· ==l) st.tmps,(st.heap.map (aj.kill (· ==l))).set l (.row e k (xs.take hi))⟩ else K p st
  |_=>K p st)
 |_=>K p st
def Ai (dr:Bool) (f:FuncId) (g:List aj→List T→List PV→ah (List T)) (l:Nat) (rest:List PV) (st:St) (K:PV→St→ah β):ah β:=match st.heap[l]? with
 |some (.row e k xs)=>bif !dr&&lu E f==some (e,k)&& !(PV.dU rest).contains l then
  (g st.heap xs rest).bind fun ys=>K (.own l) ⟨PV.kills (· ==l) st.tmps,((aI (PV.dU rest) st.heap).map (aj.kill (· ==l))).set l (.row e k ys)⟩ else .stuck
 |_=> .stuck
def BZ (dr:Bool) (f:FuncId) (g:List aj→List T→List PV→ah (List T)) (args:List PV) (st:St) (K:PV→St→ah β):ah β:=match args with
 | .own l::rest=>Ai E dr f g l rest st K
 | .nil _ _::rest=>match lu E f with
  |some (e,k)=>Ai E dr f g st.heap.length rest ⟨st.tmps,st.heap++ [.row e k []]⟩ K
  |none=> .stuck
 |_=> .stuck
def mD (dr:Bool) (f:FuncId) (args:List PV) (st:St) (K:PV→St→ah β):ah β:=
 match E.zM f with
 |some g=>BZ E dr f g args st K
 |none=>
 match bif E.mode f==3 then none else PV.lF st.heap args with
 |some ts=>
  let rows:=PV.dU args
  match E.mode f with
  |0=>(rc.pure f ts).bind fun x=>
   bif rows.isEmpty then K (.t x) st else bif aaW E f then chk x.plain (K (.t x) st) else bif dr then .stuck else K (.t x) ⟨st.tmps,aI rows st.heap⟩
  |1=>bif dr then .stuck else aS (lu E f) fun(e,k)=>(rc.pure f ts).bind fun x=>qW k x fun xs=>
   K (.own st.heap.length) ⟨st.tmps,aI rows st.heap++ [.row e k xs]⟩
  |_=>bif dr then .stuck else aS (lu E f) fun(e,k)=>(rc.pure f ts).bind fun x=>aG x 0 fun y=>qW k y fun xs=>zA x 1 (sZ E f - 1) fun ys=>
   K (.au (.own st.heap.length::ys)) ⟨st.tmps,aI rows st.heap++ [.row e k xs]⟩
 |none=>bif dr||(E.ext f).isSome then .stuck else
  let ex:=exposed args st.heap
  rc.go β f args (lJ ex st.heap) fun r H'=>IE r ⟨PV.kills (ex.contains ·) st.tmps,tu ex st.heap H'⟩ K
def oJ (x:T) (ts:List T) (K:T→ah β):ah β:=match x with
 | .fn g fs cs=>bif E.mode g==0 then(rc.pure g (fs++ts++cs)).bind K else .stuck
 |_=> .stuck
def funcOf:Fn→Option FuncId
 | .func f=>some f
 |_=>none
def capture (H:List aj):PV→Option (T×List aj)
 | .ptr l 0=>match H[l]? with
  |some (.box e n v)=>match v.o7 H with
   |some x=>bif x.cells.length==n&&(!(n==1)|| !x.isAgg) then some (.ref x,(aI v.rows H).set l (.ng e n x)) else none
   |none=>none
  |some (.ng _ _ x)=>some (.ref x,H)
  |_=>none
 | .t x=>some (x,H)
 |_=>none
def captures (H:List aj):List PV→Option (List T×List aj)
 | []=>some ([],H)
 |p::r=>match capture H p with
  |some (x,H1)=>match captures H1 r with
   |some (xs,H2)=>some (x::xs,H2)
   |none=>none
  |none=>none
def dh (mx:Bool):List Int→Int→Int
 | [],m=>m
 |x::r,m=>dh mx r (bif mx then(if x > m then x else m) else(if x < m then x else m))
def Cb (k:IntKind):List PV→(List Int→ah β)→ah β
 | [],K=>K []
 | .t x::r,K=>iT k x fun n=>Cb k r fun ns=>K (n::ns)
 |_::_,_=> .stuck
def lH (b:Builtin) (tys:List TypeId) (args:List PV) (st:St) (K:PV→St→ah β):ah β:=
 match b,tys,args with
 | .len,[t],[p]=>match E.P.underlying t with
  |some (.slice _)=>(match p with
   | .nil _ _=>K (.t (.int .i64 0)) st
   | .own l=>match st.heap[l]? with
    |some (.row _ _ xs)=>K (.t (.int .i64 xs.length)) st
    |some (.jT _ _ xs)=>K (.t (.int .i64 xs.length)) st
    |some (.vec _ _ n _)=>K (.t (.int .i64 n)) st
    |_=> .stuck
   | .view _ _ lo hi=>K (.t (.int .i64 ((hi - lo:Nat):Int))) st
   | .full _ xs=>K (.t (.int .i64 xs.length)) st
   | .t x=>iO x fun n=>K (.t (.int .i64 n)) st
   |_=> .stuck)
  |some .string=>(match p with
   | .t x=>Qd x fun s=>K (.t (.int .i64 s.size)) st
   |_=> .stuck)
  |some (.map _ _)=>(match p with
   | .mp l=>(match st.heap[l]? with
    |some (.map es _)=>chk (decide (es.length≤big)) (K (.t (.int .i64 es.length)) st)
    |_=> .stuck)
   |_=> .stuck)
  |_=> .stuck
 | .append,[t,t'],[s,x]=>qI E st t t' s x K
 | .delete,[t,_],[p,i]=>yH E st t p i fun st=>K dY st
 | .clear,[t],[p]=>BI E st t p fun st=>K dY st
 | .copy,[t,t'],[p,x]=>zh E st t t' p x K
 | .max,t::_,.t x::r=>aS (qC E.P t) fun k=>iT k x fun n=>Cb k r fun ns=>K (.t (.int k (dh true ns n))) st
 | .min,t::_,.t x::r=>aS (qC E.P t) fun k=>iT k x fun n=>Cb k r fun ns=>K (.t (.int k (dh false ns n))) st
 |_,_,_=> .stuck
def aj2 (P:Program) (t:TypeId):Bool:=match P.underlying t with|some (.interface _)=>false|some _=>true|none=>false
def partsOf (P:Program) (tm:List PV) (ty:Nat→TypeId):List (Nat×Operand)→Option (List (Nat×PV))
 | []=>some []
 |(i,o)::r=>match bV P tm (ty i) o,partsOf P tm ty r with|some p,some ps=>some ((i,p)::ps)|_,_=>none
def MO (P:Program) (tm:List PV):Option Operand→Option (Option PV)
 |none=>some none
 |some o=>(bV P tm 0 o).map some
def kY (dr:Bool) (o:Oper) (st:St) (K:PV→St→ah β):ah β:=
 match o.op with
 | .move x=>aS (bV E.P st.tmps o.type x) fun p=>K p st
 | .assign x=>aS (bV E.P st.tmps o.type x) fun p=>K p st
 | .pick c a b=>aS (bV E.P st.tmps 0 c) fun c=>match c with
  | .t x=>bT x fun c=>bif c then aS (bV E.P st.tmps o.type a) fun p=>K p st else aS (bV E.P st.tmps o.type b) fun p=>K p st
  |_=> .stuck
 | .alloc e=>aS (kJ E.P e) fun n=>aS (((E.P.info? e).bind (·.zero)).bind (l9 E.P e)) fun z=>
  chk (nJ E.P e n&&z.okS n) (K (.ptr st.heap.length 0) ⟨st.tmps,st.heap++ [.box e n z]⟩)
 | .box e x=>aS (kJ E.P e) fun n=>aS (bV E.P st.tmps e x) fun p=>
  chk (p.okS n) (K (.ptr st.heap.length 0) ⟨st.tmps,st.heap++ [.box e n p]⟩)
 | .build t parts=>aS (partsOf E.P st.tmps (fun i=>(match E.P.underlying t with|some (.array _ e)=>e|_=>((yh E.P t i).map (·.2)).getD 0)) parts.toList) fun ps=>
  BG E t ps fun p=>K p st
 | .buildSlice t n parts=>aS (partsOf E.P st.tmps (fun _=>(AY E.P t).getD 0) parts.toList) fun ps=>
  jX E dr st t n ps K
 | .load t a=>aS (bV E.P st.tmps 0 a) fun p=>uj E st t p fun v=>K v st
 | .store t a x=>aS (bV E.P st.tmps 0 a) fun p=>aS (bV E.P st.tmps t x) fun v=>wU E st t p v fun st=>K dY st
 | .makeMap _ r=>bif r.isNone then K (.mp st.heap.length) ⟨st.tmps,st.heap++ [.map [] 0]⟩ else .stuck
 | .lookup t x ix ok=>aS (bV E.P st.tmps t x) fun p=>aS (bV E.P st.tmps 0 ix) fun i=>rE E st t p i ok fun q=>K q st
 | .mapUpdate t m k x=>aS (bV E.P st.tmps t m) fun p=>aS (bV E.P st.tmps 0 k) fun i=>aS (bV E.P st.tmps 0 x) fun v=>wQ E st t p i v fun st=>K dY st
 | .insert t m k x=>aS (bV E.P st.tmps t m) fun p=>aS (bV E.P st.tmps 0 k) fun i=>aS (bV E.P st.tmps 0 x) fun v=>wQ E st t p i v fun st=>K dY st
 | .mapEntry t m k=>aS (bV E.P st.tmps t m) fun p=>aS (bV E.P st.tmps 0 k) fun i=>ny E st t p i K
 | .entryStore t m s x=>aS (bV E.P st.tmps t m) fun p=>aS (bV E.P st.tmps 0 s) fun i=>aS (bV E.P st.tmps 0 x) fun v=>oz st p i v fun st=>K dY st
 | .nilCheck x=>aS (bV E.P st.tmps 0 x) fun p=>match p with
  | .ptr _ _=>K p st
  | .iC _ _ _ _=>K p st
  | .rp _ _ _=>K p st
  | .t x=>PS x .stuck fun _=>K p st
  |_=> .stuck
 | .binOp op t x y t'=>aS (bV E.P st.tmps t x) fun px=>aS (bV E.P st.tmps t' y) fun py=>FW E op t t' x y px py fun p=>K p st
 | .unOp op t x=>aS (bV E.P st.tmps t x) fun p=>unK E op t p fun p=>K p st
 | .convert s d x=>aS (bV E.P st.tmps s x) fun p=>Ir E s d p fun p=>K p st
 | .makeInterface t x=>bif !aj2 E.P t then .stuck else aS (bV E.P st.tmps t x) fun p=>aS (p.o7 st.heap) fun x=>bif p.rows.isEmpty then K (.t (.iface t x)) st else bif dr then .stuck else K (.t (.iface t x)) ⟨st.tmps,aI p.rows st.heap⟩
 | .makeFunc fn first captured=>aS (funcOf fn) fun f=>
  aS (jF E.P st.tmps (fun _=>0) 0 first.toList) fun fs=>aS (jF E.P st.tmps (fun _=>0) 0 captured.toList) fun cs=>
   bif E.agH f then K (.fn f fs cs) st else aS (captures st.heap fs) fun(xs,H1)=>aS (captures H1 cs) fun(ys,H2)=>K (.t (.fn f xs ys)) ⟨st.tmps,H2⟩
 | .makeSlice t n c=>aS (bV E.P st.tmps 0 n) fun n=>aS (bV E.P st.tmps 0 c) fun c=>pO E st t n c K
 | .slice t x lo hi mx=>aS (bV E.P st.tmps t x) fun p=>aS (MO E.P st.tmps lo) fun lo=>aS (MO E.P st.tmps hi) fun hi=>aS (MO E.P st.tmps mx) fun mx=>
  wS E dr st t p lo hi mx K
 | .fieldAddr t x f=>aS (bV E.P st.tmps 0 x) fun p=>kH E t f p fun p=>K p st
 | .indexAddr t x ix=>aS (bV E.P st.tmps t x) fun p=>aS (bV E.P st.tmps 0 ix) fun i=>pY E st t p i fun p=>K p st
 | .index t x ix=>aS (bV E.P st.tmps t x) fun p=>aS (bV E.P st.tmps 0 ix) fun i=>TD E t p i fun q=>K q st
 | .field t x f=>aS (bV E.P st.tmps t x) fun p=>TF E t f p fun q=>K q st
 | .extract x i=>aS (bV E.P st.tmps 0 x) fun p=>match p with
  | .au ps=>aS ps[i]? fun q=>K q st
  | .t x=>aG x i fun y=>K (.t y) st
  |_=> .stuck
 | .call c=>match c.callee with
  | .builtin b=>aS (jF E.P st.tmps (fun i=>c.argTypes.getD i 0) 0 c.args.toList) fun args=>lH E b c.argTypes.toList args st K
  | .value (.func f)=>aS (jF E.P st.tmps (fun i=>c.argTypes.getD i 0) 0 c.args.toList) fun args=>mD E rc dr f args st K
  | .value fo=>aS (bV E.P st.tmps 0 fo) fun p=>aS (jF E.P st.tmps (fun i=>c.argTypes.getD i 0) 0 c.args.toList) fun args=>match p with
   | .t x=>aS (PV.lF st.heap args) fun ts=>bif (PV.dU args).isEmpty then oJ E rc x ts fun r=>K (.t r) st else .stuck
   | .fn f fs cs=>mD E rc dr f (fs++args++cs) st K
   |_=> .stuck
  |_=> .stuck
 |_=> .stuck
def dL (tm:List PV) (d:Option Tmp) (p:PV):List PV:=match d with|some d=>tm.set d p|none=>tm
def bn (ops:Array Oper):List (Oper×Bool)→St→(St→ah β)→ah β
 | [],st,K=>K st
 |(o,dr)::r,st,K=>
  match o.guard with
  |none=>kY E rc dr o st fun p st'=>bn ops r ⟨dL st'.tmps o.dst p,st'.heap⟩ K
  |some (j,want)=>
   match (ops[j]?).bind (·.dst) with
   |none=>bn ops r ⟨dL st.tmps o.dst dY,st.heap⟩ K
   |some d=>match st.tmps.getD d .junk with
    | .au []=>bn ops r ⟨dL st.tmps o.dst dY,st.heap⟩ K
    | .t x=>bT x fun b=>
     bif b then(bif want then kY E rc dr o ⟨st.tmps.set d (.t (.bool true)),st.heap⟩ fun p st'=>bn ops r ⟨dL st'.tmps o.dst p,st'.heap⟩ K
      else bn ops r ⟨dL (st.tmps.set d (.t (.bool true))) o.dst dY,st.heap⟩ K)
     else(bif want then bn ops r ⟨dL (st.tmps.set d (.t (.bool false))) o.dst dY,st.heap⟩ K
      else kY E rc dr o ⟨st.tmps.set d (.t (.bool false)),st.heap⟩ fun p st'=>bn ops r ⟨dL st'.tmps o.dst p,st'.heap⟩ K)
    |_=> .stuck
end
def gV:Op→Bool
 | .move _| .assign _| .pick .. | .build .. | .buildSlice .. | .load .. | .lookup .. | .nilCheck _| .binOp .. | .unOp .. | .convert .. | .makeInterface .. | .slice .. | .fieldAddr ..
 | .indexAddr .. | .index .. | .field .. | .extract .. =>true
 | .call c=>match c.callee with
  | .builtin b=> !(b matches .append)&& !(b matches .clear)&& !(b matches .copy)&& !(b matches .delete)
  |_=>true
 |_=>false
def qM:Op→Bool
 | .move _| .assign _| .pick .. | .binOp .. | .unOp .. | .convert .. | .extract .. =>true
 |_=>false
def JU (t:TypeId) (m k:Nat):Op→Bool
 | .lookup t' (.tmp m') (.tmp k') ok=> !ok&&t'==t&&m'==m&&k'==k
 |_=>false
def OG (x y:Op):Bool:=match y with
 | .mapEntry t (.tmp m) (.tmp k)=>qM x||JU t m k x
 |_=>false
def DT:Op→Bool
 | .store .. =>true
 | .call c=>match c.callee with
  | .builtin b=>(b matches .copy)
  |_=>false
 |_=>false
def D5:Op→Bool
 | .move _| .assign _| .pick .. | .build .. | .load .. | .nilCheck _| .binOp .. | .unOp .. | .convert .. | .fieldAddr .. | .indexAddr .. | .index .. | .field .. | .extract .. =>true
 | .call c=>match c.callee with
  | .value (.func _)=>true
  |_=>false
 |_=>false
def QC:Op→Bool
 | .alloc _=>true
 |_=>false
def vM (x y:Op):Bool:=OG x y||(DT y&&qM x||DT x&&qM y)||(QC y&&D5 x)
def ordered (b:Array Nat) (i j:Nat):Bool:=(b.getD j 0).testBit i||(b.getD i 0).testBit j
def beside (b:Array Nat) (n i:Nat):Bool:=(List.range n).any fun j=> !(i==j)&& !ordered b i j
def sJ (ops:Array Oper):Bool:=
 let b:=Region.before ops
 let l:=ops.toList.zipIdx
 (l.all fun(o,i)=>o.after.all fun e=> !Region.binds .any e||decide (e.on < i))&&l.all fun(y,j)=>l.all fun(x,i)=> !decide (i < j)||(b.getD j 0).testBit i||(!(b.getD i 0).testBit j&&(gV x.op&&gV y.op||vM x.op y.op)&&x.apart ops y)
def dG (ops:Array Oper):List (Oper×Bool):=let b:=Region.before ops; ops.toList.zipIdx.map fun(o,i)=>(o,beside b ops.size i)
def bG:Code→Nat
 | .region id _ _=>id
 | .seq a _=>bG a
 | .block _ c=>bG c
 | .loop c=>bG c
 | .cond _ a _=>bG a
 | .scope c=>bG c
 |_=>0
def bF (B:St→ah (Ex×St)):Nat→St→ah (Ex×St)
 |0,_=> .stuck
 |n+1,st=>(B st).bind fun p=>p.1.k (bF B n p.2) (fun i=> .ok (.exit i,p.2)) (.ok (.ret,p.2))
def lD (fn:Func):List Nat:=fn.results.toList.map fun| .tmp t=>t| .cell a _=>a
def iZ {β:Type} (E:Env) (st:St):List ResultVar→(List PV→ah β)→ah β
 | [],K=>K []
 | .tmp t::r,K=>iZ E st r fun ps=>K (st.tmps.getD t dY::ps)
 | .cell a t::r,K=>uj E st t (st.tmps.getD a dY) fun p=>iZ E st r fun ps=>K (p::ps)
section
variable (E:Env) (rc:Caller) (f:FuncId) (fn:Func) (n:Nat) (base:Nat)
def dA:{β:Type}→Code→St→(Ex→St→ah β)→ah β
 |_,.skip,st,K=>K .norm st
 |_,.region _ ops dr,st,K=>bif dr then(bif sJ ops then bn E rc ops (dG ops) st fun st=>K .norm st else .stuck) else bn E rc ops (ops.toList.map fun o=>(o,false)) st fun st=>K .norm st
 |_,.seq a b,st,K=>dA a st fun e st=>e.k (dA b st K) (fun i=>K (.exit i) st) (K .ret st)
 |_,.cond c a b,st,K=>aS (bV E.P st.tmps 0 c) fun p=>match p with
  | .t x=>bT x fun v=>bif v then dA a st K else dA b st K
  |_=> .stuck
 |_,.block id c,st,K=>dA c st fun e st=>e.k (K .norm st) (fun i=>if i=id then K .norm st else K (.exit i) st) (K .ret st)
 |_,.loop c,st,K=>
  (bF (fun st=>dA c st fun e st=>e.k (.ok (.norm,canon base (E.hint f (bG c)).1 st))
   (fun i=> .ok (.exit i,canon base (E.hint f (bG c)).2 st)) (.ok (.ret,canon base (lD fn) st))) n (canon base (E.hint f (bG c)).1 st)).bind fun p=>K p.1 p.2
 |_,.exit id,st,K=>K (.exit id) st
 |_,.scope c,st,K=>dA c st K
 |_,.label _,st,K=>K .norm st
 |_,.ret,st,K=>K .ret st
 |_,_,_,_=> .stuck
end
def wY:List PV→PV
 | [p]=>p
 |ps=> .au ps
def fU {β:Type} (E:Env) (rc:Caller) (n:Nat) (f:FuncId) (args:List PV) (H:List aj) (K:PV→List aj→ah β):ah β:=
 match E.P.funcs[f]? with
 |none=> .stuck
 |some fn=>match fn.body with
  |none=> .stuck
  |some c=>dA E rc f fn n H.length c ⟨args++List.replicate (fn.ntmps - args.length) dY,H⟩ fun e st=>
   e.k (iZ E st fn.results.toList fun ps=>K (wY ps) st.heap) (fun _=> .stuck) (iZ E st fn.results.toList fun ps=>K (wY ps) st.heap)
def aW (E:Env) (f:FuncId) (p:PV) (H:List aj):ah T:=match E.mode f with
 |0=>aS (p.o7 H) fun x=> .ok x
 |1=>match p with
  | .own l=>match H[l]? with
   |some (.row e k xs)=>bif lu E f==some (e,k) then .ok (.sl k xs) else .stuck
   |_=> .stuck
  | .nil e k=>bif lu E f==some (e,k) then .ok (.sl k []) else .stuck
  | .view l k lo hi=>match H[l]? with
   |some (.row e k' xs)=>bif lu E f==some (e,k)&&k'==k&&lo==0&&decide (hi≤xs.length) then .ok (.sl k (xs.take hi)) else .stuck
   |_=> .stuck
  |_=> .stuck
 |_=>match p with
  | .au (.own l::ps)=>match H[l]? with
   |some (.row e k xs)=>bif (PV.dU ps).contains l then .stuck else aS (PV.lF H ps) fun ys=>bif lu E f==some (e,k)&&ys.length+1==sZ E f then .ok (.au (.sl k xs::ys)) else .stuck
   |_=> .stuck
  | .au (.nil e k::ps)=>aS (PV.lF H ps) fun ys=>bif lu E f==some (e,k)&&ys.length+1==sZ E f then .ok (.au (.sl k []::ys)) else .stuck
  |_=> .stuck
def jY (E:Env) (run:(β:Type)→FuncId→List PV→List aj→(PV→List aj→ah β)→ah β) (f:FuncId) (ts:List T):ah T:=
 bif T.wfs ts then(match E.ext f with
  |some e=>e ts
  |none=>run T f (ts.map .t) [] (aW E f)) else .absurd
def runK (E:Env):Nat→(β:Type)→FuncId→List PV→List aj→(PV→List aj→ah β)→ah β
 |0,_,_,_,_,_=> .stuck
 |n+1,_,f,args,H,K=>fU E ⟨jY E (runK E n),runK E n⟩ n f args H K
def ak (E:Env) (n:Nat) (f:FuncId) (ts:List T):ah T:=jY E (runK E n) f ts
def aJ (E:Env) (n:Nat):Caller:=⟨ak E n,runK E n⟩
end
section
open Go.RowKit
inductive Rd (F:Nat→Prop) (w:World):T→Value→Prop
 |int {k:IntKind} {n:Int} (h:kindOk k n=true):Rd F w (.int k n) (.int k n)
 |bool {b:Bool}:Rd F w (.bool b) (.bool b)
 |str {s:ByteArray} (h:s.size≤big):Rd F w (.str s) (.string s)
 |dS:Rd F w .dS (.pointer none)
 |mW:Rd F w .mW .nilFunc
 |qU:Rd F w .qU .nilIface
 |ref {x:T} {b o:Nat} (val:Nat→Value) (hF:F b) (hs:x.cells.length=1→x.isAgg=false) (h1:∀ j,j < x.cells.length→(val j).oneCell'=true)
  (hc:∀ j,j < x.cells.length→w.cell? ⟨b,o+j,none⟩=some (val j)) (hr:∀ j y,x.cells[j]? =some y→Rd F w y (val j)):Rd F w (.ref x) (.pointer (some ⟨b,o,none⟩))
 |sl {k:Nat} {xs:List T} {A:Option Addr} {c:Nat} (b o:Nat) (val:Nat→Nat→Value) (hn:xs.length≤c) (hb:xs.length≤big)
  (hk:∀ x∈xs,x.cells.length=k∧(k=1→x.isAgg=false)) (hA:0 < xs.length→A=some ⟨b,o,none⟩∧F b)
  (h1:∀ i j,i < xs.length→j < k→(val i j).oneCell'=true)
  (hc:∀ i j,i < xs.length→j < k→w.cell? ⟨b,o+i*k+j,none⟩=some (val i j))
  (hr:∀ i x j y,xs[i]? =some x→x.cells[j]? =some y→Rd F w y (val i j)):Rd F w (.sl k xs) (.slice A xs.length c)
 |agg {cs:List T} {vs:List Value} (hl:vs.length=cs.length) (h1:∀ v∈vs,v.oneCell'=true) (hr:∀ (i:Nat) (x:T) (v:Value),cs[i]? =some x→vs[i]? =some v→Rd F w x v):Rd F w (.agg cs) (.agg vs.toArray)
 |au {cs:List T} {vs:List Value} (hl:vs.length=cs.length) (hr:∀ (i:Nat) (x:T) (v:Value),cs[i]? =some x→vs[i]? =some v→Rd F w x v):Rd F w (.au cs) (.tuple vs.toArray)
 |fn {f:FuncId} {fs cs:List T} {vf vc:List Value} (hlf:vf.length=fs.length) (hlc:vc.length=cs.length)
  (hrf:∀ (i:Nat) (x:T) (v:Value),fs[i]? =some x→vf[i]? =some v→Rd F w x v) (hrc:∀ (i:Nat) (x:T) (v:Value),cs[i]? =some x→vc[i]? =some v→Rd F w x v):
  Rd F w (.fn f fs cs) (.func (.func f) vf.toArray vc.toArray)
 |iface {t:TypeId} {x:T} {v:Value} (h:Rd F w x v):Rd F w (.iface t x) (.iface t v)
theorem AU {w w':World} {b o:Nat} (h:w'.heap[b]? =w.heap[b]?):w'.cell? ⟨b,o,none⟩=w.cell? ⟨b,o,none⟩:=World.cell?_of_block (a:=⟨b,o,none⟩) h
theorem Rd.mono {F F':Nat→Prop} {w w':World} (hF:∀ b,F b→F' b) (hw:∀ b,F b→w'.heap[b]? =w.heap[b]?) {x:T} {v:Value} (h:Rd F w x v):Rd F' w' x v:=by
 induction h with
 |int h=>exact .int h
 |bool=>exact .bool
 |str h=>exact .str h
 |dS=>exact .dS
 |mW=>exact .mW
 |qU=>exact .qU
 |ref val tZ hs h1 hc _ ih=>exact .ref val (hF _ tZ) hs h1 (fun j hj=>(AU (hw _ tZ)).trans (hc j hj)) ih
 | @sl k xs A c b o val hn hb hk hA h1 hc _ ih=>
  refine .sl b o val hn hb hk (fun h=>⟨(hA h).1,hF _ (hA h).2⟩) h1 (fun i j hi hj=>?_) ih
  exact(AU (hw _ (hA (by omega)).2)).trans (hc i j hi hj)
 |agg hl h1 _ ih=>exact .agg hl h1 ih
 |au hl _ ih=>exact .au hl ih
 |fn h1 h2 _ _ i1 i2=>exact .fn h1 h2 i1 i2
 |iface _ ih=>exact .iface ih
theorem Rd.scalar {F F':Nat→Prop} {w w':World} {x:T} {v:Value} (hx:x.scalar=true) (h:Rd F w x v):Rd F' w' x v:=by
 cases h<;>simp[T.scalar] at hx<;>constructor<;>assumption
theorem Rd.plain {F F':Nat→Prop} {w w':World} {x:T} {v:Value} (hx:x.plain=true) (h:Rd F w x v):Rd F' w' x v:=by
 cases h with
 |agg hl h1 hr=>
  simp only[T.plain,List.all_eq_true] at hx
  exact .agg hl h1 fun i x v h1 h2=>(hr i x v h1 h2).scalar (hx x (List.mem_of_getElem? h1))
 |au hl hr=>
  simp only[T.plain,List.all_eq_true] at hx
  exact .au hl fun i x v h1 h2=>(hr i x v h1 h2).scalar (hx x (List.mem_of_getElem? h1))
 |int h=>exact .int h
 |bool=>exact .bool
 |str h=>exact .str h
 |dS=>exact .dS
 |mW=>exact .mW
 |qU=>exact .qU
 |ref=>simp[T.plain,T.scalar] at hx
 |sl=>simp[T.plain,T.scalar] at hx
 |fn=>simp[T.plain,T.scalar] at hx
 |iface=>simp[T.plain,T.scalar] at hx
theorem Rd.wf {F:Nat→Prop} {w:World} {x:T} {v:Value} (h:Rd F w x v):x.wf=true:=by
 induction h with
 |int h=>simpa[T.wf] using h
 |bool|dS|mW|qU=>simp[T.wf]
 |str h=>simpa[T.wf] using h
 | @ref x b o val tZ hs h1 hc hr ih=>
  simp only[T.wf]
  cases x with
  |agg cs=>
   simp only[T.wf,T.nC]
   intro y hy
   obtain⟨j,hj⟩:=List.getElem?_of_mem hy
   exact ih j y hj
  |_=>exact ih 0 _ rfl
 | @sl k xs A c b o val hn hb hk hA h1 hc hr ih=>
  simp only[T.wf,Bool.and_eq_true,decide_eq_true_eq,T.nC]
  refine⟨hb,fun x hx=>?_⟩
  obtain⟨i,hi⟩:=List.getElem?_of_mem hx
  cases x with
  |agg cs=>
   simp only[T.wf,T.nC]
   intro y hy
   obtain⟨j,hj⟩:=List.getElem?_of_mem hy
   exact ih i _ j y hi hj
  |_=>exact ih i _ 0 _ hi rfl
 | @agg cs vs hl h1 hr ih=>
  simp only[T.wf,T.nC]
  intro y hy
  obtain⟨j,hj⟩:=List.getElem?_of_mem hy
  have hlt:j < vs.length:=by rw[hl]; exact(List.getElem?_eq_some_iff.1 hj).1
  exact ih j y vs[j] hj (List.getElem?_eq_getElem hlt)
 | @au cs vs hl hr ih=>
  simp only[T.wf,T.nC]
  intro y hy
  obtain⟨j,hj⟩:=List.getElem?_of_mem hy
  have hlt:j < vs.length:=by rw[hl]; exact(List.getElem?_eq_some_iff.1 hj).1
  exact ih j y vs[j] hj (List.getElem?_eq_getElem hlt)
 | @fn f fs cs vf vc h1 h2 r1 r2 i1 i2=>
  simp only[T.wf,Bool.and_eq_true,T.nC]
  constructor
  · intro y hy
    obtain⟨j,hj⟩:=List.getElem?_of_mem hy
    have hlt:j < vf.length:=by rw[h1]; exact(List.getElem?_eq_some_iff.1 hj).1
    exact i1 j y vf[j] hj (List.getElem?_eq_getElem hlt)
  · intro y hy
    obtain⟨j,hj⟩:=List.getElem?_of_mem hy
    have hlt:j < vc.length:=by rw[h2]; exact(List.getElem?_eq_some_iff.1 hj).1
    exact i2 j y vc[j] hj (List.getElem?_eq_getElem hlt)
 |iface _ ih=>simpa[T.wf] using ih
def QV (r v:Value) (k lo hi:Nat):Prop:=∃ A n c A',(r= .slice A n c∧n≤big)∧v= .slice A' (hi - lo) (c - lo)∧lo≤hi∧hi≤n∧((A=none∧A'=none)∨∃ b o,A=some ⟨b,0,none⟩∧A'=some ⟨b,o,none⟩∧(lo < c∨lo=0→o=lo*k))
inductive RP (F:Nat→Prop) (κ:Nat→Value) (N:Nat) (w:World):PV→Value→Prop
 |t {x:T} {v:Value} (h:Rd F w x v):RP F κ N w (.t x) v
 |nil {e:TypeId} {k:Nat}:RP F κ N w (.nil e k) (.slice none 0 0)
 |agg {cs:List PV} {vs:List Value} (hl:vs.length=cs.length) (h1:∀ v∈vs,v.oneCell'=true) (hr:∀ (i:Nat) (p:PV) (v:Value),cs[i]? =some p→vs[i]? =some v→RP F κ N w p v):RP F κ N w (.agg cs) (.agg vs.toArray)
 |au {cs:List PV} {vs:List Value} (hl:vs.length=cs.length) (hr:∀ (i:Nat) (p:PV) (v:Value),cs[i]? =some p→vs[i]? =some v→RP F κ N w p v):RP F κ N w (.au cs) (.tuple vs.toArray)
 |fn {f:FuncId} {fs cs:List PV} {vf vc:List Value} (hlf:vf.length=fs.length) (hlc:vc.length=cs.length)
  (hrf:∀ (i:Nat) (p:PV) (v:Value),fs[i]? =some p→vf[i]? =some v→RP F κ N w p v) (hrc:∀ (i:Nat) (p:PV) (v:Value),cs[i]? =some p→vc[i]? =some v→RP F κ N w p v):
  RP F κ N w (.fn f fs cs) (.func (.func f) vf.toArray vc.toArray)
 |ptr {l o b:Nat} (hN:l < N) (h:κ l= .pointer (some ⟨b,0,none⟩)):RP F κ N w (.ptr l o) (.pointer (some ⟨b,o,none⟩))
 |own {l:Nat} {A:Option Addr} {n c:Nat} (hN:l < N) (h:κ l= .slice A n c):RP F κ N w (.own l) (.slice A n c)
 |iC {l k i o b n c:Nat} (hN:l < N) (h:κ l= .slice (some ⟨b,0,none⟩) n c) (hi:i < n):RP F κ N w (.iC l k i o) (.pointer (some ⟨b,i*k+o,none⟩))
 |view {l k lo hi:Nat} {A:Option Addr} {n c:Nat} (hN:l < N) (h:QV (κ l) (.slice A n c) k lo hi):RP F κ N w (.view l k lo hi) (.slice A n c)
 |full {k:Nat} {xs:List T} {A:Option Addr} (h:Rd F w (.sl k xs) (.slice A xs.length xs.length)):RP F κ N w (.full k xs) (.slice A xs.length xs.length)
 |rp {k:Nat} {x:T} {o b p:Nat} (val:Nat→Value) (hF:F b) (hk:x.cells.length=k) (hs:k=1→x.isAgg=false) (h1:∀ j,j < k→(val j).oneCell'=true)
  (hc:∀ j,j < k→w.cell? ⟨b,p+j,none⟩=some (val j)) (hr:∀ j y,x.cells[j]? =some y→Rd F w y (val j)):RP F κ N w (.rp k x o) (.pointer (some ⟨b,p+o,none⟩))
 |mp {l b:Nat} (hN:l < N) (h:κ l= .map (some b)):RP F κ N w (.mp l) (.map (some b))
 |junk {v:Value}:RP F κ N w .junk v
mutual
theorem PV.NZ (p:Nat→Bool):∀ q:PV,∀ l∈(q.kill p).gq,l∈q.gq
 | .own l'=>by intro l h; simp only[PV.kill] at h; cases hp:p l'<;>simp[hp,PV.gq] at h ⊢; exact h
 | .iC l' _ _ _=>by intro l h; simp only[PV.kill] at h; cases hp:p l'<;>simp[hp,PV.gq] at h ⊢; exact h
 | .view l' _ _ _=>by intro l h; simp only[PV.kill] at h; cases hp:p l'<;>simp[hp,PV.gq] at h ⊢; exact h
 | .agg cs=>by intro l h; simp only[PV.kill,PV.gq] at h ⊢; exact PV.nH p cs l h
 | .au cs=>by intro l h; simp only[PV.kill,PV.gq] at h ⊢; exact PV.nH p cs l h
 | .fn f fs cs=>by
  intro l h
  simp only[PV.kill,PV.gq,List.mem_append] at h ⊢
  exact h.imp (PV.nH p fs l) (PV.nH p cs l)
 | .t _| .nil _ _| .ptr _ _| .mp _| .full _ _| .rp _ _ _| .junk=>by intro l h; simpa[PV.kill] using h
theorem PV.nH (p:Nat→Bool):∀ qs:List PV,∀ l∈PV.qR (PV.kills p qs),l∈PV.qR qs
 | []=>by intro l h; simpa[PV.kills] using h
 |q::r=>by
  intro l h
  simp only[PV.kills,PV.qR,List.mem_append] at h ⊢
  exact h.imp (PV.NZ p q l) (PV.nH p r l)
end
theorem lW {q:PV} {qs:List PV} {l:Nat} (hq:q∈qs) (hl:l∈q.gq):l∈PV.qR qs:=by
 induction qs with
 |nil=>cases hq
 |cons a r ih=>
  simp only[PV.qR,List.mem_append]
  rcases List.mem_cons.1 hq with rfl|h
  · exact .inl hl
  · exact .inr (ih h)
theorem uP {q:PV} {qs:List PV} {l:Nat} (hq:q∈qs) (hl:l∈q.rows):l∈PV.dU qs:=by
 induction qs with
 |nil=>cases hq
 |cons a r ih=>
  simp only[PV.dU,List.mem_append]
  rcases List.mem_cons.1 hq with rfl|h
  · exact .inl hl
  · exact .inr (ih h)
theorem RP.bound {F:Nat→Prop} {κ:Nat→Value} {N:Nat} {w:World} {p:PV} {v:Value} (h:RP F κ N w p v):∀ l∈p.gq,l < N:=by
 have aux:∀ (cs:List PV) (vs:List Value),vs.length=cs.length→(∀ (i:Nat) (p:PV) (v:Value),cs[i]? =some p→vs[i]? =some v→∀ l∈p.gq,l < N)→∀ l∈PV.qR cs,l < N:=by
  intro cs
  induction cs with
  |nil=>intro vs _ _ l hl; simp[PV.qR] at hl
  |cons p r ih=>
   intro vs hl hr l hm
   cases vs with
   |nil=>simp at hl
   |cons v vs=>
    simp only[PV.qR,List.mem_append] at hm
    rcases hm with hm|hm
    · exact hr 0 p v rfl rfl l hm
    · exact ih vs (by simpa using hl) (fun i p v h1 h2=>hr (i+1) p v (by simpa using h1) (by simpa using h2)) l hm
 induction h with
 |agg hl _ _ ih=>intro l hm; exact aux _ _ hl ih l (by simpa[PV.gq] using hm)
 |au hl _ ih=>intro l hm; exact aux _ _ hl ih l (by simpa[PV.gq] using hm)
 |fn h1 h2 _ _ i1 i2=>
  intro l hm
  simp only[PV.gq,List.mem_append] at hm
  exact hm.elim (aux _ _ h1 i1 l) (aux _ _ h2 i2 l)
 |ptr hN _=>intro l hm; simp[PV.gq] at hm; omega
 |mp hN _=>intro l hm; simp[PV.gq] at hm; omega
 |own hN _=>intro l hm; simp[PV.gq] at hm; omega
 |iC hN _ _=>intro l hm; simp[PV.gq] at hm; omega
 |view hN _=>intro l hm; simp[PV.gq] at hm; omega
 |_=>intro l hm; simp[PV.gq] at hm
theorem RP.mono {F F':Nat→Prop} {κ κ':Nat→Value} {N N':Nat} {w w':World} (hF:∀ b,F b→F' b) (hw:∀ b,F b→w'.heap[b]? =w.heap[b]?) {p:PV} {v:Value} (h:RP F κ N w p v):
 (∀ l∈p.gq,κ' l=κ l∧l < N')→RP F' κ' N' w' p v:=by
 induction h with
 |t h=>exact fun _=> .t (h.mono hF hw)
 |nil=>exact fun _=> .nil
 |agg hl h1 _ ih=>exact fun hk=> .agg hl h1 fun i p v h1 h2=>ih i p v h1 h2 fun l hl=>hk l (lW (List.mem_of_getElem? h1) hl)
 |au hl _ ih=>exact fun hk=> .au hl fun i p v h1 h2=>ih i p v h1 h2 fun l hl=>hk l (lW (List.mem_of_getElem? h1) hl)
 |fn h1 h2 _ _ i1 i2=>
  refine fun hk=> .fn h1 h2 (fun i p v a b=>i1 i p v a b fun l hl=>hk l ?_) (fun i p v a b=>i2 i p v a b fun l hl=>hk l ?_)
  · simp only[PV.gq,List.mem_append]; exact .inl (lW (List.mem_of_getElem? a) hl)
  · simp only[PV.gq,List.mem_append]; exact .inr (lW (List.mem_of_getElem? a) hl)
 |ptr _ h=>exact fun hk=> .ptr (hk _ (by simp[PV.gq])).2 ((hk _ (by simp[PV.gq])).1.trans h)
 |own _ h=>exact fun hk=> .own (hk _ (by simp[PV.gq])).2 ((hk _ (by simp[PV.gq])).1.trans h)
 |mp _ h=>exact fun hk=> .mp (hk _ (by simp[PV.gq])).2 ((hk _ (by simp[PV.gq])).1.trans h)
 |iC _ h hi=>exact fun hk=> .iC (hk _ (by simp[PV.gq])).2 ((hk _ (by simp[PV.gq])).1.trans h) hi
 |view _ h=>exact fun hk=> .view (hk _ (by simp[PV.gq])).2 (by rw[(hk _ (by simp[PV.gq])).1]; exact h)
 |full h=>exact fun _=> .full (h.mono hF hw)
 |rp val tZ hk hs h1 hc hr=>exact fun _=> .rp val (hF _ tZ) hk hs h1 (fun j hj=>(AU (hw _ tZ)).trans (hc j hj)) fun j y hy=>(hr j y hy).mono hF hw
 |junk=>exact fun _=> .junk
end
section
open Go.RowKit
theorem FQ {α:Type}:∀ (k:Ask α) (w:World),w.drawn≤(w.ask k).2.drawn
 | .done a,w=>Nat.le_refl _
 | .ask what range k,w=>by
  unfold World.ask
  simp only[]
  split
  · exact FQ _ _
  · exact Nat.le_trans (Nat.le_succ _) (FQ (k _) {w with drawn:=w.drawn+1})
theorem acS (w:World) (c:Sys):w.drawn≤(w.sys c).2.drawn:=by
 have h:=FQ (Kernel.perform c w.os) w
 unfold World.sys
 split
 · exact Nat.le_refl _
 · rename_i r os w' hne heq
   rw[heq] at h
   exact h
theorem ZW {p:Program} {w:World} {at_:Addr} {u:TypeId} {k:Addr} {v:Value} {atomic:Bool} {r:World×List Addr} (h:w.viewStore p at_ u k v atomic= .ok r):r.1.drawn=w.drawn:=by
 unfold World.viewStore at h
 simp only[bind,Except.bind,pure,Except.pure,throw,throwThe,MonadExceptOf.throw] at h
 repeat' split at h
 all_goals first|(cases h; rfl)|(cases h; done)
theorem fK {α:Type} (p:Program):∀ (m:Sem α) (w:World) {v:α} {w':World},m.run p w= .ok v w'→w.drawn≤w'.drawn
 | .pure a,w,v,w',h=>by
  simp only[Sem.run,Result.ok.injEq] at h
  rw[h.2]; exact Nat.le_refl _
 | .load m a k,w,v,w',h=>by
  simp only[Sem.run] at h
  split at h
  · exact fK p _ _ h
  · split at h
    · exact fK p _ _ h
    · cases h
 | .store m a u k,w,v,w',h=>by
  have key:(match w.cell? a with
   |some _=>if w.frozen? a then(.halt (.unsupported (.unsafePointer "a write to bytes that a string shares")) w:Result α) else k.run p (w.setCell a u)
   |none=>match w.farStore p a u (m==Mode.atomic) with
    | .ok (w,_)=>k.run p w
    | .error h=> .halt h w)= .ok v w'→w.drawn≤w'.drawn:=by
   intro h
   split at h
   · split at h
     · cases h
     · exact fK p k (w.setCell a u) h
   · split at h
     · rename_i w2 l heq
       have h2:=fK p k w2 h
       unfold World.farStore at heq
       split at heq
       · split at heq
         · rename_i r hr
           injection heq with heq
           have:=ZW hr
           rw[heq] at this
           simp only at this
           omega
         · cases heq
       · cases heq
     · cases h
  cases u<;>simp only[Sem.run] at h<;>first|exact key h|cases h
 | .new o k,w,v,w',h=>by simp only[Sem.run] at h; exact fK p (k w.heap.size) {w with heap:=w.heap.push o} h
 | .shape r k,w,v,w',h=>by simp only[Sem.run] at h; exact fK p _ _ h
 | .freeze a n k,w,v,w',h=>by
  simp only[Sem.run] at h
  have h2:=fK p k (w.freeze a n) h
  have:(w.freeze a n).drawn=w.drawn:=by unfold World.freeze; split<;>rfl
  omega
 | .frozen a k,w,v,w',h=>by simp only[Sem.run] at h; exact fK p _ _ h
 | .getObj r k,w,v,w',h=>by
  simp only[Sem.run] at h
  split at h
  · cases h
  · exact fK p _ _ h
  · cases h
 | .setObj r o k,w,v,w',h=>by
  simp only[Sem.run] at h
  split at h
  · cases h
  · exact fK p k {w with heap:=w.heap.setIfInBounds r o} h
  · cases h
 | .choose q k,w,v,w',h=>by
  simp only[Sem.run] at h
  split at h
  · exact fK p _ _ h
  · exact Nat.le_trans (Nat.le_succ _) (fK p (k _) {w with drawn:=w.drawn+1} h)
 | .sys c k,w,v,w',h=>by simp only[Sem.run] at h; exact Nat.le_trans (acS w c) (fK p _ _ h)
 | .program k,w,v,w',h=>by simp only[Sem.run] at h; exact fK p _ _ h
 | .mark _ k,w,v,w',h=>by simp only[Sem.run] at h; exact fK p k w h
 | .halt _,w,v,w',h=>by simp only[Sem.run] at h; cases h
end
end Go.aT
