/- The texts of a proof, one behind the other: an interpreter and its soundness, what the functions of the program answer, and plain laws on that. -/
import Derived.Test.YtckfafoabnfbpaaX4
import Derived.Test.YtckfafoabnfbpaaX1
import Derived.Test.YtckfafoabnfbpaaK10
import Derived.Test.YtckfafoabnfbpaaX9
import Derived.Test.YtckfafoabnfbpaaX3
set_option linter.unusedVariables false
set_option linter.unusedSimpArgs false
set_option linter.unnecessarySimpa false
set_option linter.unusedSectionVars false
set_option maxRecDepth 100000
namespace Go.aO
section
open Go.RowKit Go.Proofs
structure Tn (t:List Cf):Prop where
 one:1≤t.length
 most:t.length≤8
 sane:∀ c∈t,dZ c=true
 used:∀ (i j:Nat) (c d:Cf),t[i]? =some c→t[j]? =some d→j < i→d.a≠c.a∧d.d≠c.d
 side:∀ (i k:Nat) (c:Cf) (s:Sd),t[i]? =some c→c.s[k]? =some s→∃ (j m:Nat) (d:Cf) (u:Sd),iE t i k=some (j,m)∧t[j]? =some d∧d.s[m]? =some u∧j≠i∧u.a=c.a∧u.r+s.r=4∧zZ c d=true∧iE t j m=some (i,k)
variable [Lv]
end
section
open Go.RowKit Go.Proofs
variable [Lv]
def RN (t:List Cf) (i:Int):St:=⟨slots 176 [(0,.t (.sl 6 (t.map Cf.t))),(3,.t (.bool true)),(6,.t (i64 i))],[]⟩
def sFw (t:List Cf) (i:Int):St:=⟨slots 19 [(0,.t (.sl 6 (t.map Cf.t))),(3,.t (i64 i))],[]⟩
def V9 (t:List Cf) (i j:Int):St:=⟨slots 176 [(0,.t (.sl 6 (t.map Cf.t))),(3,.t (.bool true)),(6,.t (i64 i)),(7,.t (i64 j))],[]⟩
def RQ (t:List Cf) (i k:Int):St:=⟨slots 176 [(0,.t (.sl 6 (t.map Cf.t))),(3,.t (.bool true)),(6,.t (i64 i)),(8,.t (i64 k))],[]⟩
theorem aaz (N:Nat) (t:List Cf) (i:Int):aT env N 11 0 2 (sFw t i)=bif decide (i < (↑(List.map Cf.t t).length:Int)) then dF (List.map Cf.t t) i fun e=>jJ N 26 [e] fun b=>bif !b then aj.ok (Ex.ret,{tmps:=slots 19 [(2,PV.t (T.bool false))],heap:=[]}) else aj.ok (Ex.norm,sFw t (IntKind.i64.wrap (i+1))) else aj.ok (Ex.exit 0,{tmps:=slots 19 [(0,PV.t (T.sl 6 (List.map Cf.t t)))],heap:=[]}):=by kernel_rfl
theorem LU (N:Nat) (t:List Cf):bK env N 11 0 2 (bU env 11) (.exit 0) (⟨slots 19 [(0,.t (.sl 6 (t.map Cf.t)))],[]⟩)=rB (decide ((↑(List.map Cf.t t).length:Int)≤10)):=by kernel_rfl
theorem RY (N:Nat):bK env N 11 0 2 (bU env 11) (.ret) (⟨slots 19 [(2,.t (.bool false))],[]⟩)=rB false:=by kernel_rfl
end
section
open Go.RowKit Go.Proofs
variable [Lv]
def sTK (t:List Cf) (i k:Int) (d:Nat→PV):St:=⟨slots 176 [(0,.t (.sl 6 (t.map Cf.t))),(3,.t (.bool true)),(6,.t (i64 i)),(8,.t (i64 k)),(69,d 69),(70,d 70),(71,d 71),(72,d 72),(73,d 73),(74,d 74),(75,d 75),(76,d 76)],[]⟩
def Wh (t:List Cf) (i k j m:Int) (d:Nat→PV):St:=⟨slots 176 [(0,.t (.sl 6 (t.map Cf.t))),(3,.t (.bool true)),(6,.t (i64 i)),(8,.t (i64 k)),(9,.t (i64 j)),(10,.t (i64 m)),(11,.t (.bool true)),(69,d 69),(70,d 70),(71,d 71),(72,d 72),(73,d 73),(74,d 74),(75,d 75),(76,d 76),(79,d 79),(80,d 80),(81,d 81),(82,d 82),(83,d 83),(84,d 84),(85,d 85),(86,d 86)],[]⟩
def abH (t:List Cf) (i k j m:Int) (d:Nat→PV):St:=⟨slots 176 [(0,.t (.sl 6 (t.map Cf.t))),(3,.t (.bool true)),(6,.t (i64 i)),(8,.t (i64 k)),(9,.t (i64 j)),(10,.t (i64 m)),(11,.t (.bool true)),(69,d 69),(70,d 70),(71,d 71),(72,d 72),(73,d 73),(74,d 74),(75,d 75),(76,d 76),(79,d 79),(80,d 80),(81,d 81),(82,d 82),(83,d 83),(84,d 84),(85,d 85),(86,d 86),(87,d 87),(88,d 88),(89,d 89),(90,d 90),(91,d 91),(92,d 92),(93,d 93),(94,d 94),(95,d 95),(96,d 96),(97,d 97),(98,d 98),(99,d 99),(100,d 100),(101,d 101),(102,d 102),(103,d 103),(104,d 104),(105,d 105),(106,d 106),(107,d 107),(108,d 108),(109,d 109),(110,d 110),(111,d 111),(112,d 112),(113,d 113),(114,d 114),(115,d 115),(116,d 116),(117,d 117),(118,d 118),(119,d 119),(120,d 120),(121,d 121),(122,d 122),(123,d 123),(124,d 124),(125,d 125),(126,d 126),(127,d 127),(128,d 128),(129,d 129),(130,d 130),(131,d 131),(132,d 132),(133,d 133),(134,d 134),(135,d 135),(136,d 136),(137,d 137),(138,d 138),(139,d 139),(140,d 140),(141,d 141),(142,d 142),(143,d 143),(144,.t (.bool false))],[]⟩
end
section
open Go.RowKit Go.Proofs
attribute [local irreducible] aG gI
def Cm (t:List Cf):Bool:=t.all vI&&decide (t.length≤10)
theorem TY {M:Nat} {t:List Cf} (hM:big+10≤M) (ht:dN Cf.ok t):aB env (M+1) 11 [.sl 6 (t.map Cf.t)]= .ok (.bool (Cm t)):=by
 have hb:=ht.1
 have hbg:=bH
 obtain⟨m,rfl⟩:=gV (show 1≤M by omega)
 rw[q11,dA (jD (jR ht))]
 have hf:∀ i (h:i < t.length),aT env (m+1) 11 0 2 (sFw t (i:Nat))=bif !vI t[i] then aj.ok (Ex.ret,⟨slots 19 [(2,PV.t (T.bool false))],[]⟩) else aj.ok (Ex.norm,sFw t (i+1:Nat)):=fun i h=>by
  have hc:t[i]? =some t[i]:=List.getElem?_eq_getElem h
  rw[aaz,decide_eq_true (by rw[List.length_map]; omega),cond_true,aF (aI hc),dM (acf (by omega) (ht.2 _ (List.mem_of_getElem? hc))),wrap_succ (show i≤big by omega)]
 have it:=fZ (B:=aT env (m+1) 11 0 2) (S:=fun i=>sFw t (i:Nat)) (R:=fun _=>⟨slots 19 [(2,PV.t (T.bool false))],[]⟩) (X:=⟨slots 19 [(0,PV.t (T.sl 6 (List.map Cf.t t)))],[]⟩) (id:=0) (fun i=>match t[i]? with|some c=> !vI c|none=>false) t.length 0 (m+1) (by omega)
  (fun i h0 h1 hp=>by
   have hi:i < t.length:=by omega
   rw[List.getElem?_eq_getElem hi] at hp
   simp only at hp
   rw[hf i hi,hp]; rfl)
  (fun i h0 h1 hp=>by
   have hi:i < t.length:=by omega
   rw[List.getElem?_eq_getElem hi] at hp
   simp only at hp
   rw[hf i hi,hp]; rfl)
  (by rw[Nat.zero_add,aaz,decide_eq_false (by rw[List.length_map]; omega)]; rfl)
 unfold Cm
 cases hk:dH (fun i=>match t[i]? with|some c=> !vI c|none=>false) 0 t.length with
 |some i=>
  rw[hk] at it
  refine(aN it).trans ((RY (m+1)).trans ?_)
  obtain⟨_,h1,h2⟩:=lW hk
  have hi:i < t.length:=by omega
  rw[List.getElem?_eq_getElem hi] at h2
  have:t.all vI=false:=List.all_eq_false.2 ⟨t[i],List.getElem_mem _,by simpa using h2⟩
  rw[this]; rfl
 |none=>
  rw[hk] at it
  refine(aN it).trans ((LU (m+1) t).trans ?_)
  have:t.all vI=true:=List.all_eq_true.2 fun c hc=>by
   obtain⟨i,hi,rfl⟩:=List.getElem_of_mem hc
   have:=iI hk i (Nat.zero_le _) (by omega)
   rw[List.getElem?_eq_getElem hi] at this
   simpa using this
  rw[this,List.length_map,Bool.true_and]
  show rB _=rB _
  congr 1
  exact decide_eq_decide.2 (by omega)
end
section
open Go.RowKit Go.Proofs
variable [Lv]
def sJf (t:List Cf) (a i:Int):St:=⟨slots 21 [(0,.t (.sl 6 (t.map Cf.t))),(1,.t (i64 a)),(6,.t (i64 i))],[]⟩
theorem q13 (N:Nat) (t:List Cf) (a:Int):aB env (N+1) 13 [.sl 6 (t.map Cf.t),i64 a]=W [.sl 6 (t.map Cf.t),i64 a] (eG env N 13 2 (sJf t a 0)):=by kernel_rfl
theorem aaA (N:Nat) (t:List Cf) (a i:Int):aT env N 13 0 2 (sJf t a i)=bif decide (i < (↑(List.map Cf.t t).length:Int)) then dF (List.map Cf.t t) i fun e=>iT IntKind.i64 (e.ah 0 1 false) fun a_1=>bif a_1==a then aj.ok (Ex.ret,{tmps:=slots 21 [(4,PV.t (i64 i)),(5,PV.t (T.bool true))],heap:=[]}) else aj.ok (Ex.norm,sJf t a (IntKind.i64.wrap (i+1))) else aj.ok (Ex.exit 0,{tmps:=slots 21 [],heap:=[]}):=by kernel_rfl
theorem RZ (N:Nat) (v:Int) (b:Bool):bK env N 13 0 2 (bU env 13) (.ret) (⟨slots 21 [(4,.t (i64 v)),(5,.t (.bool b))],[]⟩)=aj.ok (T.ak [i64 v,T.bool b]):=by kernel_rfl
theorem LV (N:Nat):bK env N 13 0 2 (bU env 13) (.exit 0) (⟨slots 21 [],[]⟩)=aj.ok (T.ak [i64 0,T.bool false]):=by kernel_rfl
theorem q15 (N:Nat) (t:List Cf) (i k:Int):aB env (N+1) 15 [.sl 6 (t.map Cf.t),i64 i,i64 k]=W [.sl 6 (t.map Cf.t),i64 i,i64 k] (bif decide (i < 0) then aj.ok (T.ak [i64 0,i64 0,T.bool false]) else bif decide (i≥(↑(List.map Cf.t t).length:Int)) then aj.ok (T.ak [i64 0,i64 0,T.bool false]) else bif decide (k < 0) then aj.ok (T.ak [i64 0,i64 0,T.bool false]) else dF (List.map Cf.t t) i fun e=>jF (e.ah 5 1 false) fun n=>bif decide (k≥n) then aj.ok (T.ak [i64 0,i64 0,T.bool false]) else dF (List.map Cf.t t) i fun e=>nD 4 (e.ah 5 1 false) fun xs=>dF xs k fun e=>cl N 13 [T.sl 6 (List.map Cf.t t),e.ah 0 1 false] fun x=>aH x 0 fun y=>aH x 1 fun y_1=>bT y_1 fun b=>bif !b then aj.ok (T.ak [i64 0,i64 0,T.bool false]) else qB y fun kV=>dF (List.map Cf.t t) kV fun e=>dF (List.map Cf.t t) i fun e_1=>cl N 30 [e,e_1.ah 0 1 false] fun x=>aH x 0 fun sZ=>aH x 1 fun Cc=>bT Cc fun b=>bif !b then aj.ok (T.ak [i64 0,i64 0,T.bool false]) else aj.ok (T.ak [y,sZ,T.bool true])):=by kernel_rfl
def sJs (c:Cf) (a i:Int):St:=⟨slots 23 [(1,.t (i64 a)),(2,.ptr 0 0),(6,.t (i64 i))],[.box 45 6 (.t c.t)]⟩
theorem q30 (N:Nat) (c:Cf) (a:Int):aB env (N+1) 30 [c.t,i64 a]=W [c.t,i64 a] (eG env N 30 2 (sJs c a 0)):=by kernel_rfl
theorem aaG (N:Nat) (c:Cf) (a i:Int):aT env N 30 0 2 (sJs c a i)=bif decide (i < (↑(List.map Sd.t c.s).length:Int)) then dF (List.map Sd.t c.s) i fun e=>iT IntKind.i64 (e.ah 0 1 false) fun a_1=>bif a_1==a then aj.ok (Ex.ret,{tmps:=slots 23 [(4,PV.t (i64 i)),(5,PV.t (T.bool true))],heap:=[]}) else aj.ok (Ex.norm,sJs c a (IntKind.i64.wrap (i+1))) else aj.ok (Ex.exit 0,{tmps:=slots 23 [],heap:=[]}):=by kernel_rfl
theorem Sz (N:Nat) (v:Int) (b:Bool):bK env N 30 0 2 (bU env 30) (.ret) (⟨slots 23 [(4,.t (i64 v)),(5,.t (.bool b))],[]⟩)=aj.ok (T.ak [i64 v,T.bool b]):=by kernel_rfl
theorem Md (N:Nat):bK env N 30 0 2 (bU env 30) (.exit 0) (⟨slots 23 [],[]⟩)=aj.ok (T.ak [i64 0,T.bool false]):=by kernel_rfl
def sJa (t:List Cf) (i j k:Int):St:=⟨slots 52 [(0,.t (.sl 6 (t.map Cf.t))),(1,.t (i64 i)),(2,.t (i64 j)),(7,.t (i64 k))],[]⟩
theorem q56 (N:Nat) (t:List Cf) (i j:Int):aB env (N+1) 56 [.sl 6 (t.map Cf.t),i64 i,i64 j]=W [.sl 6 (t.map Cf.t),i64 i,i64 j] (eG env N 56 2 (sJa t i j 0)):=by kernel_rfl
theorem aaL (N:Nat) (t:List Cf) (i j k:Int):aT env N 56 0 2 (sJa t i j k)=dF (List.map Cf.t t) i fun e=>jF (e.ah 5 1 false) fun n=>bif decide (k < n) then dF (List.map Cf.t t) i fun e=>nD 4 (e.ah 5 1 false) fun xs=>dF xs k fun e=>cl N 13 [T.sl 6 (List.map Cf.t t),e.ah 0 1 false] fun x=>aH x 0 fun y=>aH x 1 fun y_1=>bT y_1 fun b=>bif b then iT IntKind.i64 y fun a=>bif a==j then dF (List.map Cf.t t) i fun e=>nD 4 (e.ah 5 1 false) fun xs=>dF xs k fun e=>iT IntKind.i64 (e.ah 1 1 false) fun a=>bif a==3 then aj.ok (Ex.ret,{tmps:=slots 52 [(6,PV.t (T.bool true))],heap:=[]}) else aj.ok (Ex.norm,sJa t i j (IntKind.i64.wrap (k+1))) else aj.ok (Ex.norm,sJa t i j (IntKind.i64.wrap (k+1))) else aj.ok (Ex.norm,sJa t i j (IntKind.i64.wrap (k+1))) else aj.ok (Ex.exit 0,{tmps:=slots 52 [],heap:=[]}):=by kernel_rfl
theorem SG (N:Nat) (b:Bool):bK env N 56 0 2 (bU env 56) (.ret) (⟨slots 52 [(6,.t (.bool b))],[]⟩)=rB b:=by kernel_rfl
theorem MK (N:Nat):bK env N 56 0 2 (bU env 56) (.exit 0) (⟨slots 52 [],[]⟩)=rB false:=by kernel_rfl
def UF (t:List Cf) (n:Int) (l:List Bool) (ys:List T) (a:Int):St:=⟨slots 44 [(0,.t (.sl 6 (t.map Cf.t))),(1,.t (i64 n)),(2,.t (.sl 1 (l.map T.bool))),(7,.own 0),(8,.t (i64 a))],[.row 4 1 ys]⟩
def Bg (t:List Cf) (n:Int) (l:List Bool) (ys:List T) (a b:Int):St:=⟨slots 44 [(0,.t (.sl 6 (t.map Cf.t))),(1,.t (i64 n)),(2,.t (.sl 1 (l.map T.bool))),(7,.own 0),(8,.t (i64 a)),(9,.t (i64 b))],[.row 4 1 ys]⟩
theorem q39 (N:Nat) (t:List Cf) (n:Int) (l:List Bool):aB env (N+1) 39 [.sl 6 (t.map Cf.t),i64 n,.sl 1 (l.map T.bool)]=W [.sl 6 (t.map Cf.t),i64 n,.sl 1 (l.map T.bool)] (jk (T.DC 1) [] (chk (decide ((0+(List.map T.bool l).length)*1≤140737488355328)) (eG env N 39 3 (UF t n l (List.map T.bool l) 0)))):=by kernel_rfl
theorem aaJ (N:Nat) (t:List Cf) (n:Int) (l:List Bool) (ys:List T) (a:Int):aT env N 39 0 3 (UF t n l ys a)=bif decide (a < (↑(List.map Cf.t t).length:Int)) then oq env N 39 3 6 (Bg t n l ys a 0) else aj.ok (Ex.exit 0,{tmps:=slots 44 [(7,PV.own 0)],heap:=[au.row 4 1 ys]}):=by kernel_rfl
theorem PI (N:Nat) (t:List Cf) (n:Int) (l:List Bool) (ys:List T) (a b:Int):kE env N 39 0 3 6 (Bg t n l ys a b)=bif decide (b < (↑(List.map Cf.t t).length:Int)) then bif a==n then jJ N 56 [T.sl 6 (List.map Cf.t t),i64 a,i64 b] fun v=>bif v then chk (decide (0≤b)&&decide (b < (↑ys.length:Int))) (aj.ok (Ex.norm,Bg t n l (ys.set b.toNat (T.bool true)) a (IntKind.i64.wrap (b+1)))) else aj.ok (Ex.norm,Bg t n l ys a (IntKind.i64.wrap (b+1))) else dF (List.map T.bool l) a fun e=>bT e fun b_1=>bif b_1 then jJ N 56 [T.sl 6 (List.map Cf.t t),i64 a,i64 b] fun v=>bif v then chk (decide (0≤b)&&decide (b < (↑ys.length:Int))) (aj.ok (Ex.norm,Bg t n l (ys.set b.toNat (T.bool true)) a (IntKind.i64.wrap (b+1)))) else aj.ok (Ex.norm,Bg t n l ys a (IntKind.i64.wrap (b+1))) else aj.ok (Ex.norm,Bg t n l ys a (IntKind.i64.wrap (b+1))) else aj.ok (Ex.exit 2,UF t n l ys a):=by kernel_rfl
theorem Gw (N:Nat) (t:List Cf) (n:Int) (l:List Bool) (ys:List T) (a:Int):nR env N 39 0 3 6 (.exit 2) (UF t n l ys a)=aj.ok (Ex.norm,UF t n l ys (IntKind.i64.wrap (a+1))):=by kernel_rfl
theorem MG (N:Nat) (ys:List T):bK env N 39 0 3 (bU env 39) (.exit 0) (⟨slots 44 [(7,.own 0)],[.row 4 1 ys]⟩)=aj.ok (T.sl 1 ys):=by kernel_rfl
def sJr (t:List Cf) (i:Int):St:=⟨slots 31 [(0,.t (.sl 6 (t.map Cf.t))),(4,.t (i64 i))],[]⟩
def Rz (t:List Cf) (i:Int) (ys:List T) (k:Int):St:=⟨slots 31 [(0,.t (.sl 6 (t.map Cf.t))),(4,.t (i64 i)),(5,.own 0),(6,.t (i64 k))],[.row 4 1 ys]⟩
def RD (t:List Cf) (i:Int) (ys:List T) (k:Int):St:=⟨slots 31 [(0,.t (.sl 6 (t.map Cf.t))),(4,.t (i64 i)),(5,.t (.sl 1 ys)),(6,.t (i64 k))],[]⟩
theorem q19 (N:Nat) (t:List Cf):aB env (N+1) 19 [.sl 6 (t.map Cf.t)]=W [.sl 6 (t.map Cf.t)] (eG env N 19 2 (sJr t 0)):=by kernel_rfl
theorem aaC (N:Nat) (t:List Cf) (i:Int):aT env N 19 0 2 (sJr t i)=bif decide (i < (↑(List.map Cf.t t).length:Int)) then chk (decide ((↑(List.map Cf.t t).length:Int)≤(↑(List.map Cf.t t).length:Int))&&decide ((↑(List.map Cf.t t).length:Int).toNat*1≤140737488355328)) (oq env N 19 2 6 (Rz t i (List.replicate (↑(List.map Cf.t t).length:Int).toNat (T.bool false)) 0)) else aj.ok (Ex.exit 0,{tmps:=slots 31 [],heap:=[]}):=by kernel_rfl
theorem WM (N:Nat) (t:List Cf) (i:Int) (ys:List T) (k:Int):kE env N 19 0 2 6 (Rz t i ys k)=bif decide (k < (↑(List.map Cf.t t).length:Int)) then cl N 39 [T.sl 6 (List.map Cf.t t),i64 i,T.sl 1 ys] fun x=>aj.ok (Ex.norm,{tmps:=slots 31 [(0,PV.t (T.sl 6 (List.map Cf.t t))),(4,PV.t (i64 i)),(5,PV.t x),(6,PV.t (i64 (IntKind.i64.wrap (k+1))))],heap:=[]}) else aj.ok (Ex.exit 2,{tmps:=slots 31 [(0,PV.t (T.sl 6 (List.map Cf.t t))),(4,PV.t (i64 i)),(5,PV.own 0)],heap:=[au.row 4 1 ys]}):=by kernel_rfl
theorem GN (N:Nat) (t:List Cf) (i:Int) (ys:List T) (k:Int):kE env N 19 0 2 6 (RD t i ys k)=bif decide (k < (↑(List.map Cf.t t).length:Int)) then cl N 39 [T.sl 6 (List.map Cf.t t),i64 i,T.sl 1 ys] fun x=>aj.ok (Ex.norm,{tmps:=slots 31 [(0,PV.t (T.sl 6 (List.map Cf.t t))),(4,PV.t (i64 i)),(5,PV.t x),(6,PV.t (i64 (IntKind.i64.wrap (k+1))))],heap:=[]}) else aj.ok (Ex.exit 2,{tmps:=slots 31 [(0,PV.t (T.sl 6 (List.map Cf.t t))),(4,PV.t (i64 i)),(5,PV.t (T.sl 1 ys))],heap:=[]}):=by kernel_rfl
theorem Gu (N:Nat) (t:List Cf) (i:Int) (ys:List T):nR env N 19 0 2 6 (.exit 2) (⟨slots 31 [(0,.t (.sl 6 (t.map Cf.t))),(4,.t (i64 i)),(5,.t (.sl 1 ys))],[]⟩)=dF ys i fun e=>bT e fun v=>bif v then aj.ok (Ex.ret,{tmps:=slots 31 [(2,PV.t (i64 i)),(3,PV.t (T.bool true))],heap:=[]}) else aj.ok (Ex.norm,sJr t (IntKind.i64.wrap (i+1))):=by kernel_rfl
theorem Sj (N:Nat) (i:Int) (b:Bool):bK env N 19 0 2 (bU env 19) (.ret) (⟨slots 31 [(2,.t (i64 i)),(3,.t (.bool b))],[]⟩)=aj.ok (T.ak [i64 i,T.bool b]):=by kernel_rfl
theorem LY (N:Nat):bK env N 19 0 2 (bU env 19) (.exit 0) (⟨slots 31 [],[]⟩)=aj.ok (T.ak [i64 0,T.bool false]):=by kernel_rfl
def sJw (t:List Cf) (i:Int) (c:Cf) (j:Int):St:=⟨slots 95 [(0,.t (.sl 6 (t.map Cf.t))),(1,.t (i64 i)),(7,.ptr 0 0),(8,.t (i64 j))],[.box 45 6 (.t c.t)]⟩
def Bh (t:List Cf) (i e:Int) (c:Cf) (k:Int):St:=⟨slots 95 [(0,.t (.sl 6 (t.map Cf.t))),(1,.t (i64 i)),(2,.t (i64 e)),(7,.ptr 0 0),(9,.t (i64 k))],[.box 45 6 (.t c.t)]⟩
theorem q37 (N:Nat) (t:List Cf) (i e:Int):aB env (N+1) 37 [.sl 6 (t.map Cf.t),i64 i,i64 e]=W [.sl 6 (t.map Cf.t),i64 i,i64 e] (dF (List.map Cf.t t) i fun e_1=>chk (e_1.cells.length==6&& !e_1.dS) (bif e==0 then jJ N 54 [e_1] fun b=>rB !b else bif e==1 then eG env N 37 6 {tmps:=slots 95 [(0,PV.t (T.sl 6 (List.map Cf.t t))),(1,PV.t (i64 i)),(7,PV.ptr 0 0),(8,PV.t (i64 0))],heap:=[au.box 45 6 (PV.t e_1)]} else eG env N 37 12 {tmps:=slots 95 [(0,PV.t (T.sl 6 (List.map Cf.t t))),(1,PV.t (i64 i)),(2,PV.t (i64 e)),(7,PV.ptr 0 0),(9,PV.t (i64 0))],heap:=[au.box 45 6 (PV.t e_1)]})):=by kernel_rfl
theorem aaH (N:Nat) (t:List Cf) (i:Int) (c:Cf) (j:Int):aT env N 37 0 6 (sJw t i c j)=bif decide (j < i) then dF (List.map Cf.t t) j fun e=>iT IntKind.i64 (e.ah 0 1 false) fun a=>bif a==c.a then aj.ok (Ex.ret,{tmps:=slots 95 [(6,PV.t (T.bool true))],heap:=[]}) else dF (List.map Cf.t t) j fun e=>iT IntKind.i64 (e.ah 1 1 false) fun a=>bif a==c.d then aj.ok (Ex.ret,{tmps:=slots 95 [(6,PV.t (T.bool true))],heap:=[]}) else aj.ok (Ex.norm,sJw t i c (IntKind.i64.wrap (j+1))) else aj.ok (Ex.exit 0,{tmps:=slots 95 [],heap:=[]}):=by kernel_rfl
theorem TU (N:Nat) (t:List Cf) (i:Int) (c:Cf) (k:Int):aT env N 37 0 12 (Bh t i 2 c k)=bif decide (k < (↑(List.map Sd.t c.s).length:Int)) then cl N 15 [T.sl 6 (List.map Cf.t t),i64 i,i64 k] fun x=>aH x 0 fun y=>aH x 1 fun y=>aH x 2 fun y=>bT y fun b=>bif !b then aj.ok (Ex.ret,{tmps:=slots 95 [(6,PV.t (T.bool true))],heap:=[]}) else aj.ok (Ex.norm,Bh t i 2 c (IntKind.i64.wrap (k+1))) else aj.ok (Ex.exit 2,{tmps:=slots 95 [],heap:=[]}):=by kernel_rfl
theorem JM (N:Nat) (t:List Cf) (i:Int) (c:Cf) (k:Int):aT env N 37 0 12 (Bh t i 3 c k)=bif decide (k < (↑(List.map Sd.t c.s).length:Int)) then cl N 15 [T.sl 6 (List.map Cf.t t),i64 i,i64 k] fun x=>aH x 0 fun y=>aH x 1 fun y_1=>aH x 2 fun sZ=>qB y fun kV=>dF (List.map Cf.t t) kV fun e=>qB y_1 fun i_2=>nD 4 (e.ah 5 1 false) fun xs=>dF xs i_2 fun e=>dF (List.map Sd.t c.s) k fun e_1=>iT IntKind.i64 (e_1.ah 1 1 false) fun b=>iT IntKind.i64 (e.ah 1 1 false) fun a=>bif a !=IntKind.i64.wrap (4 - b) then aj.ok (Ex.ret,{tmps:=slots 95 [(6,PV.t (T.bool true))],heap:=[]}) else aj.ok (Ex.norm,Bh t i 3 c (IntKind.i64.wrap (k+1))) else aj.ok (Ex.exit 2,{tmps:=slots 95 [],heap:=[]}):=by kernel_rfl
theorem JO (N:Nat) (t:List Cf) (i:Int) (c:Cf) (k:Int):aT env N 37 0 12 (Bh t i 4 c k)=bif decide (k < (↑(List.map Sd.t c.s).length:Int)) then cl N 15 [T.sl 6 (List.map Cf.t t),i64 i,i64 k] fun x=>aH x 0 fun y=>aH x 1 fun y_1=>aH x 2 fun sZ=>qB y fun kV=>dF (List.map Cf.t t) kV fun e=>jJ N 55 [c.t,e] fun b=>bif !b then aj.ok (Ex.ret,{tmps:=slots 95 [(6,PV.t (T.bool true))],heap:=[]}) else aj.ok (Ex.norm,Bh t i 4 c (IntKind.i64.wrap (k+1))) else aj.ok (Ex.exit 2,{tmps:=slots 95 [],heap:=[]}):=by kernel_rfl
theorem SB (N:Nat) (b:Bool):bK env N 37 0 6 (bU env 37) (.ret) (⟨slots 95 [(6,.t (.bool b))],[]⟩)=rB b:=by kernel_rfl
theorem MC (N:Nat):bK env N 37 0 6 (bU env 37) (.exit 0) (⟨slots 95 [],[]⟩)=rB false:=by kernel_rfl
theorem Pm (N:Nat) (b:Bool):bK env N 37 0 12 (bU env 37) (.ret) (⟨slots 95 [(6,.t (.bool b))],[]⟩)=rB b:=by kernel_rfl
theorem Jv (N:Nat):bK env N 37 0 12 (bU env 37) (.exit 2) (⟨slots 95 [],[]⟩)=rB false:=by kernel_rfl
def sJc (t:List Cf) (e:Int):St:=⟨slots 44 [(0,.t (.sl 6 (t.map Cf.t))),(4,.own 0),(5,.t (i64 e))],[.row 29 1 [i64 2,i64 7,i64 8,i64 9,i64 10]]⟩
def ael (t:List Cf) (e i:Int):St:=⟨slots 44 [(0,.t (.sl 6 (t.map Cf.t))),(4,.own 0),(5,.t (i64 e)),(6,.t (i64 i))],[.row 29 1 [i64 2,i64 7,i64 8,i64 9,i64 10]]⟩
theorem q17 (N:Nat) (t:List Cf):aB env (N+1) 17 [.sl 6 (t.map Cf.t)]=W [.sl 6 (t.map Cf.t)] (bif (↑(List.map Cf.t t).length:Int)==0 then aj.ok (T.ak [i64 0,i64 1]) else bif decide ((↑(List.map Cf.t t).length:Int) > 8) then aj.ok (T.ak [i64 0,i64 4]) else jk (T.DC 1) [i64 2,i64 7,i64 8,i64 9,i64 10] (eG env N 17 7 {tmps:=slots 44 [(0,PV.t (T.sl 6 (List.map Cf.t t))),(4,PV.own 0),(5,PV.t (i64 0))],heap:=[au.row 29 1 [i64 2,i64 7,i64 8,i64 9,i64 10]]})):=by kernel_rfl
theorem aaB (N:Nat) (t:List Cf) (e:Int):aT env N 17 0 7 (sJc t e)=bif decide (e < 5) then oq env N 17 7 10 {tmps:=slots 44 [(0,PV.t (T.sl 6 (List.map Cf.t t))),(4,PV.own 0),(5,PV.t (i64 e)),(6,PV.t (i64 0))],heap:=[au.row 29 1 [i64 2,i64 7,i64 8,i64 9,i64 10]]} else aj.ok (Ex.exit 0,{tmps:=slots 44 [(0,PV.t (T.sl 6 (List.map Cf.t t)))],heap:=[]}):=by kernel_rfl
theorem DV (N:Nat) (t:List Cf) (e i:Int):kE env N 17 0 7 10 (ael t e i)=bif decide (i < (↑(List.map Cf.t t).length:Int)) then jJ N 37 [T.sl 6 (List.map Cf.t t),i64 i,i64 e] fun v=>bif v then chk (decide (0≤e)&&decide (e < 5)) (aj.ok (Ex.ret,{tmps:=slots 44 [(2,PV.t (i64 i)),(3,PV.t ([i64 2,i64 7,i64 8,i64 9,i64 10].getD e.toNat T.dh))],heap:=[]})) else aj.ok (Ex.norm,{tmps:=slots 44 [(0,PV.t (T.sl 6 (List.map Cf.t t))),(4,PV.own 0),(5,PV.t (i64 e)),(6,PV.t (i64 (IntKind.i64.wrap (i+1))))],heap:=[au.row 29 1 [i64 2,i64 7,i64 8,i64 9,i64 10]]}) else aj.ok (Ex.exit 2,{tmps:=slots 44 [(0,PV.t (T.sl 6 (List.map Cf.t t))),(4,PV.own 0),(5,PV.t (i64 e))],heap:=[au.row 29 1 [i64 2,i64 7,i64 8,i64 9,i64 10]]}):=by kernel_rfl
theorem FW (N:Nat) (t:List Cf) (e:Int):nR env N 17 0 7 10 (.exit 2) (sJc t e)=aj.ok (Ex.norm,{tmps:=slots 44 [(0,PV.t (T.sl 6 (List.map Cf.t t))),(4,PV.own 0),(5,PV.t (i64 (IntKind.i64.wrap (e+1))))],heap:=[au.row 29 1 [i64 2,i64 7,i64 8,i64 9,i64 10]]}):=by kernel_rfl
theorem Jt (N:Nat) (i e:Int):nR env N 17 0 7 10 (.ret) (⟨slots 44 [(2,.t (i64 i)),(3,.t (i64 e))],[]⟩)=aj.ok (Ex.ret,{tmps:=slots 44 [(2,PV.t (i64 i)),(3,PV.t (i64 e))],heap:=[]}):=by kernel_rfl
theorem sO (N:Nat) (i e:Int):bK env N 17 0 7 (bU env 17) (.ret) (⟨slots 44 [(2,.t (i64 i)),(3,.t (i64 e))],[]⟩)=aj.ok (T.ak [i64 i,i64 e]):=by kernel_rfl
theorem LX (N:Nat) (t:List Cf):bK env N 17 0 7 (bU env 17) (.exit 0) (⟨slots 44 [(0,.t (.sl 6 (t.map Cf.t)))],[]⟩)=cl N 19 [T.sl 6 (List.map Cf.t t)] fun x=>aH x 0 fun y=>aH x 1 fun y_1=>bT y_1 fun v=>bif v then aj.ok (T.ak [y,i64 11]) else aj.ok (T.ak [i64 0,i64 0]):=by kernel_rfl
def Ry (c:Cf) (cl n:Int) (b:Bool) (k:Int):St:=⟨slots 58 [(1,.t (i64 cl)),(2,.ptr 0 0),(6,.t (i64 n)),(7,.t (.bool b)),(8,.t (i64 k))],[.box 45 6 (.t c.t)]⟩
def VZ (c:Cf) (cl n:Int) (b:Bool) (k:Int) (l:List Int) (i:Int):St:=⟨slots 58 [(1,.t (i64 cl)),(2,.ptr 0 0),(6,.t (i64 n)),(7,.t (.bool b)),(8,.t (i64 k)),(9,.t (.sl 1 (ints l))),(10,.t (i64 i))],[.box 45 6 (.t c.t)]⟩
theorem q71 (N:Nat) (c:Cf) (cl:Int):aB env (N+1) 71 [c.t,i64 cl]=W [c.t,i64 cl] (bif cl==0 then aj.ok (T.ak [i64 400,T.bool true]) else eG env N 71 6 (Ry c cl 0 false 0)):=by kernel_rfl
theorem aaP (N:Nat) (c:Cf) (cl n:Int) (b:Bool) (k:Int):aT env N 71 0 6 (Ry c cl n b k)=bif decide (k < (↑(List.map Sd.t c.s).length:Int)) then dF (List.map Sd.t c.s) k fun e=>iT IntKind.i64 (e.ah 1 1 false) fun a=>bif a !=cl then aj.ok (Ex.norm,Ry c cl n b (IntKind.i64.wrap (k+1))) else dF (List.map Sd.t c.s) k fun e=>aO.cl N 83 [e.ah 2 1 false,i64 cl] fun x=>oq env N 71 6 11 {tmps:=slots 58 [(1,PV.t (i64 cl)),(2,PV.ptr 0 0),(6,PV.t (i64 n)),(7,PV.t (T.bool b)),(8,PV.t (i64 k)),(9,PV.t x),(10,PV.t (i64 0))],heap:=[au.box 45 6 (PV.t c.t)]} else aj.ok (Ex.exit 0,{tmps:=slots 58 [(6,PV.t (i64 n)),(7,PV.t (T.bool b))],heap:=[]}):=by kernel_rfl
theorem JQ (N:Nat) (c:Cf) (cl n:Int) (b:Bool) (k:Int) (l:List Int) (i:Int):kE env N 71 0 6 11 (VZ c cl n b k l i)=bif decide (i < (↑(ints l).length:Int)) then bif !b then dF (ints l) i fun e=>aj.ok (Ex.norm,{tmps:=slots 58 [(1,PV.t (i64 cl)),(2,PV.ptr 0 0),(6,PV.t e),(7,PV.t (T.bool true)),(8,PV.t (i64 k)),(9,PV.t (T.sl 1 (ints l))),(10,PV.t (i64 (IntKind.i64.wrap (i+1))))],heap:=[au.box 45 6 (PV.t c.t)]}) else dF (ints l) i fun e=>iT IntKind.i64 e fun a=>bif decide (a < n) then dF (ints l) i fun e=>aj.ok (Ex.norm,{tmps:=slots 58 [(1,PV.t (i64 cl)),(2,PV.ptr 0 0),(6,PV.t e),(7,PV.t (T.bool true)),(8,PV.t (i64 k)),(9,PV.t (T.sl 1 (ints l))),(10,PV.t (i64 (IntKind.i64.wrap (i+1))))],heap:=[au.box 45 6 (PV.t c.t)]}) else aj.ok (Ex.norm,VZ c cl n true k l (IntKind.i64.wrap (i+1))) else aj.ok (Ex.exit 2,Ry c cl n b k):=by kernel_rfl
theorem FX (N:Nat) (c:Cf) (cl n:Int) (b:Bool) (k:Int):nR env N 71 0 6 11 (.exit 2) (Ry c cl n b k)=aj.ok (Ex.norm,Ry c cl n b (IntKind.i64.wrap (k+1))):=by kernel_rfl
theorem MR (N:Nat) (n:Int) (b:Bool):bK env N 71 0 6 (bU env 71) (.exit 0) (⟨slots 58 [(6,.t (i64 n)),(7,.t (.bool b))],[]⟩)=aj.ok (T.ak [i64 n,T.bool b]):=by kernel_rfl
def sJh (l:List Int) (n i:Int):St:=⟨slots 55 [(6,.t (.sl 1 (ints l))),(7,.t (i64 n)),(8,.t (i64 i))],[]⟩
theorem q70 (N:Nat) (c:Cf) (k:Int):aB env (N+1) 70 [c.t,i64 k]=W [c.t,i64 k] (bif decide (k < 0) then aj.ok (T.ak [i64 0,T.bool false]) else bif decide (k≥(↑(List.map Sd.t c.s).length:Int)) then aj.ok (T.ak [i64 0,T.bool false]) else dF (List.map Sd.t c.s) k fun e=>dF (List.map Sd.t c.s) k fun e_1=>cl N 83 [e.ah 2 1 false,e_1.ah 1 1 false] fun x=>eG env N 70 6 {tmps:=slots 55 [(6,PV.t x),(7,PV.t (i64 0)),(8,PV.t (i64 0))],heap:=[]}):=by kernel_rfl
theorem aaO (N:Nat) (l:List Int) (n i:Int):aT env N 70 0 6 (sJh l n i)=bif decide (i < (↑(ints l).length:Int)) then bif i==0 then dF (ints l) i fun e=>aj.ok (Ex.norm,{tmps:=slots 55 [(6,PV.t (T.sl 1 (ints l))),(7,PV.t e),(8,PV.t (i64 (IntKind.i64.wrap (i+1))))],heap:=[]}) else dF (ints l) i fun e=>iT IntKind.i64 e fun a=>bif decide (a > n) then dF (ints l) i fun e=>aj.ok (Ex.norm,{tmps:=slots 55 [(6,PV.t (T.sl 1 (ints l))),(7,PV.t e),(8,PV.t (i64 (IntKind.i64.wrap (i+1))))],heap:=[]}) else aj.ok (Ex.norm,sJh l n (IntKind.i64.wrap (i+1))) else aj.ok (Ex.exit 0,{tmps:=slots 55 [(6,PV.t (T.sl 1 (ints l))),(7,PV.t (i64 n))],heap:=[]}):=by kernel_rfl
theorem MQ (N:Nat) (l:List Int) (n:Int):bK env N 70 0 6 (bU env 70) (.exit 0) (⟨slots 55 [(6,.t (.sl 1 (ints l))),(7,.t (i64 n))],[]⟩)=aj.ok (T.ak [i64 n,T.bool (decide ((↑(ints l).length:Int) > 0))]):=by kernel_rfl
def sJe (l:List Ru) (i:Int):St:=⟨slots 38 [(7,.t (.sl 6 (l.map Ru.t))),(8,.t (i64 i))],[]⟩
theorem q72 (N:Nat) (c:Cf) (k n:Int):aB env (N+1) 72 [c.t,i64 k,i64 n]=W [c.t,i64 k,i64 n] (bif decide (k < 0) then rB false else bif decide (k≥(↑(List.map Sd.t c.s).length:Int)) then rB false else dF (List.map Sd.t c.s) k fun e=>cl N 84 [e.ah 3 1 false,i64 n] fun x=>eG env N 72 5 {tmps:=slots 38 [(7,PV.t x),(8,PV.t (i64 0))],heap:=[]}):=by kernel_rfl
theorem aaQ (N:Nat) (l:List Ru) (i:Int):aT env N 72 0 5 (sJe l i)=bif decide (i < (↑(List.map Ru.t l).length:Int)) then dF (List.map Ru.t l) i fun e=>iT IntKind.i64 (e.ah 4 1 false) fun a=>bif a !=0 then aj.ok (Ex.ret,{tmps:=slots 38 [(6,PV.t (T.bool true))],heap:=[]}) else aj.ok (Ex.norm,sJe l (IntKind.i64.wrap (i+1))) else aj.ok (Ex.exit 0,{tmps:=slots 38 [],heap:=[]}):=by kernel_rfl
theorem SL (N:Nat) (b:Bool):bK env N 72 0 5 (bU env 72) (.ret) (⟨slots 38 [(6,.t (.bool b))],[]⟩)=rB b:=by kernel_rfl
theorem MS (N:Nat):bK env N 72 0 5 (bU env 72) (.exit 0) (⟨slots 38 [],[]⟩)=rB false:=by kernel_rfl
def sJp (l:List Ru) (ys:List Int) (i:Int):St:=⟨slots 32 [(5,.own 0),(6,.t (.sl 6 (l.map Ru.t))),(7,.t (i64 i))],[.row 3 1 (ints ys)]⟩
theorem q83 (N:Nat) (l:List Ru) (c:Int):aB env (N+1) 83 [.sl 6 (l.map Ru.t),i64 c]=W [.sl 6 (l.map Ru.t),i64 c] (cl N 84 [T.sl 6 (List.map Ru.t l),i64 c] fun x=>eG env N 83 4 {tmps:=slots 32 [(5,PV.own 0),(6,PV.t x),(7,PV.t (i64 0))],heap:=[au.row 3 1 []]}):=by kernel_rfl
theorem aaT (N:Nat) (l:List Ru) (ys:List Int) (i:Int):aT env N 83 0 4 (sJp l ys i)=bif decide (i < (↑(List.map Ru.t l).length:Int)) then dF (List.map Ru.t l) i fun e=>iT IntKind.i64 (e.ah 4 1 false) fun a=>bif a==2 then dF (List.map Ru.t l) i fun e=>jk (T.DC 1) [e.ah 5 1 false] (chk (decide (((ints ys).length+1)*8≤140737488355328)) (aj.ok (Ex.norm,{tmps:=slots 32 [(5,PV.own 0),(6,PV.t (T.sl 6 (List.map Ru.t l))),(7,PV.t (i64 (IntKind.i64.wrap (i+1))))],heap:=[au.row 3 1 (ints ys++ [e.ah 5 1 false])]}))) else aj.ok (Ex.norm,sJp l ys (IntKind.i64.wrap (i+1))) else aj.ok (Ex.exit 0,{tmps:=slots 32 [(5,PV.own 0)],heap:=[au.row 3 1 (ints ys)]}):=by kernel_rfl
theorem MZ (N:Nat) (ys:List T):bK env N 83 0 4 (bU env 83) (.exit 0) (⟨slots 32 [(5,.own 0)],[.row 3 1 ys]⟩)=aj.ok (T.sl 1 ys):=by kernel_rfl
def WE (l ys:List Ru) (c i:Int):St:=⟨slots 43 [(0,.t (.sl 6 (l.map Ru.t))),(1,.t (i64 c)),(5,.own 0),(6,.t (i64 i))],[.row 72 6 (ys.map Ru.t)]⟩
theorem q84 (N:Nat) (l:List Ru) (c:Int):aB env (N+1) 84 [.sl 6 (l.map Ru.t),i64 c]=W [.sl 6 (l.map Ru.t),i64 c] (eG env N 84 3 {tmps:=slots 43 [(0,PV.t (T.sl 6 (List.map Ru.t l))),(1,PV.t (i64 c)),(5,PV.own 0),(6,PV.t (i64 0))],heap:=[au.row 72 6 []]}):=by kernel_rfl
theorem aaU (N:Nat) (l ys:List Ru) (c i:Int):aT env N 84 0 3 (WE l ys c i)=bif decide (i < (↑(List.map Ru.t l).length:Int)) then dF (List.map Ru.t l) i fun e=>iT IntKind.i64 (e.ah 0 1 false) fun a=>bif a !=4 then dF (List.map Ru.t l) i fun e=>jk (T.DC 6) [e] (chk (decide (((List.map Ru.t ys).length+1)*48≤140737488355328)) (dF (List.map Ru.t l) i fun e_1=>jJ N 87 [e_1,i64 c] fun v=>bif v then aj.ok (Ex.ret,{tmps:=slots 43 [(4,PV.own 0)],heap:=[au.row 72 6 (List.map Ru.t ys++ [e])]}) else aj.ok (Ex.norm,{tmps:=slots 43 [(0,PV.t (T.sl 6 (List.map Ru.t l))),(1,PV.t (i64 c)),(5,PV.own 0),(6,PV.t (i64 (IntKind.i64.wrap (i+1))))],heap:=[au.row 72 6 (List.map Ru.t ys++ [e])]}))) else dF (List.map Ru.t l) i fun e=>iT IntKind.i64 (e.ah 3 1 false) fun a=>bif a==c then dF (List.map Ru.t l) i fun e=>jk (T.DC 6) [e] (chk (decide (((List.map Ru.t ys).length+1)*48≤140737488355328)) (dF (List.map Ru.t l) i fun e_1=>jJ N 87 [e_1,i64 c] fun v=>bif v then aj.ok (Ex.ret,{tmps:=slots 43 [(4,PV.own 0)],heap:=[au.row 72 6 (List.map Ru.t ys++ [e])]}) else aj.ok (Ex.norm,{tmps:=slots 43 [(0,PV.t (T.sl 6 (List.map Ru.t l))),(1,PV.t (i64 c)),(5,PV.own 0),(6,PV.t (i64 (IntKind.i64.wrap (i+1))))],heap:=[au.row 72 6 (List.map Ru.t ys++ [e])]}))) else dF (List.map Ru.t l) i fun e=>jJ N 87 [e,i64 c] fun v=>bif v then aj.ok (Ex.ret,{tmps:=slots 43 [(4,PV.own 0)],heap:=[au.row 72 6 (List.map Ru.t ys)]}) else aj.ok (Ex.norm,WE l ys c (IntKind.i64.wrap (i+1))) else aj.ok (Ex.exit 0,{tmps:=slots 43 [(5,PV.own 0)],heap:=[au.row 72 6 (List.map Ru.t ys)]}):=by kernel_rfl
theorem SS (N:Nat) (ys:List T):bK env N 84 0 3 (bU env 84) (.ret) (⟨slots 43 [(4,.own 0)],[.row 72 6 ys]⟩)=aj.ok (T.sl 6 ys):=by kernel_rfl
theorem Na (N:Nat) (ys:List T):bK env N 84 0 3 (bU env 84) (.exit 0) (⟨slots 43 [(5,.own 0)],[.row 72 6 ys]⟩)=aj.ok (T.sl 6 ys):=by kernel_rfl
theorem q87 (N:Nat) (r:Ru) (c:Int):aB env (N+1) 87 [r.t,i64 c]=W [r.t,i64 c] (bif r.m==0 then rB true else bif r.m==4 then rB (r.v==c) else rB false):=by kernel_rfl
def WG (a:Cf) (k h:Int) (b:Bool) (n:Int):St:=⟨slots 75 [(2,.ptr 0 0),(5,.t (i64 k)),(9,.t (i64 h)),(10,.t (.bool b)),(11,.t (i64 n))],[.box 45 6 (.t a.t)]⟩
theorem q55 (N:Nat) (a b:Cf):aB env (N+1) 55 [a.t,b.t]=W [a.t,b.t] (cl N 30 [a.t,i64 b.a] fun x=>aH x 0 fun y=>aH x 1 fun y_1=>cl N 30 [b.t,i64 a.a] fun x=>aH x 0 fun sZ=>aH x 1 fun Cc=>jJ N 54 [a.t] fun b_1=>bif !b_1 then rB false else jJ N 54 [b.t] fun JR=>bif !JR then rB false else bT y_1 fun b_3=>bif !b_3 then rB false else bT Cc fun b_4=>bif !b_4 then rB false else cl N 70 [b.t,sZ] fun x=>aH x 0 fun Qq=>aH x 1 fun UK=>eG env N 55 7 {tmps:=slots 75 [(2,PV.ptr 0 0),(5,PV.t y),(9,PV.t Qq),(10,PV.t UK),(11,PV.t (i64 0))],heap:=[au.box 45 6 (PV.t a.t)]}):=by kernel_rfl
theorem aaK (N:Nat) (a:Cf) (k h:Int) (b:Bool) (n:Int):aT env N 55 0 7 (WG a k h b n)=bif decide (n≤3) then cl N 71 [a.t,i64 n] fun x=>aH x 0 fun y=>aH x 1 fun y_1=>bif b then bT y_1 fun b_1=>bif b_1 then jJ N 72 [a.t,i64 k,i64 n] fun JR=>bif JR then iT IntKind.i64 y fun b_3=>bif decide (h > b_3) then aj.ok (Ex.ret,{tmps:=slots 75 [(4,PV.t (T.bool false))],heap:=[]}) else aj.ok (Ex.norm,WG a k h b (IntKind.i64.wrap (n+1))) else aj.ok (Ex.norm,WG a k h b (IntKind.i64.wrap (n+1))) else aj.ok (Ex.norm,WG a k h b (IntKind.i64.wrap (n+1))) else aj.ok (Ex.norm,WG a k h b (IntKind.i64.wrap (n+1))) else aj.ok (Ex.exit 0,{tmps:=slots 75 [],heap:=[]}):=by kernel_rfl
theorem SE (N:Nat) (b:Bool):bK env N 55 0 7 (bU env 55) (.ret) (⟨slots 75 [(4,.t (.bool b))],[]⟩)=rB b:=by kernel_rfl
theorem MJ (N:Nat):bK env N 55 0 7 (bU env 55) (.exit 0) (⟨slots 75 [],[]⟩)=rB true:=by kernel_rfl
end
section
open Go.RowKit Go.Proofs
theorem Ec {α:Type} {l:List α} {q:α→Bool} {p:Nat→Bool} (hp:∀ i x,l[i]? =some x→p i=q x):dH p 0 l.length=l.findIdx? q:=by
 cases h:dH p 0 l.length with
 |none=>
  symm; rw[List.findIdx?_eq_none_iff]
  intro x hx
  obtain⟨i,hi,rfl⟩:=List.getElem_of_mem hx
  rw[←hp i _ (List.getElem?_eq_getElem hi)]
  exact iI h i (by omega) (by omega)
 |some j=>
  obtain⟨_,hj,hpj⟩:=lW h
  symm; rw[List.findIdx?_eq_some_iff_getElem]
  refine⟨by omega,?_,fun k hk=>?_⟩
  · rw[←hp j _ (List.getElem?_eq_getElem (by omega))]; exact hpj
  · rw[←hp k _ (List.getElem?_eq_getElem (by omega)),Bj h k (by omega) hk]; simp
def xG (l:List Ru) (c:Int):List Int:=((bI l c).filter fun r=>r.a==2).map (·.n)
def FK (w:Option Int) (v:Int):Option Int:=match w with|none=>some v|some u=>if v < u then some v else some u
def FI (w:Option Int) (v:Int):Option Int:=match w with|none=>some v|some u=>if v > u then some v else some u
theorem KT:∀ (l:List Ru) (w:Option Ru),(mY true w l).map (·.n)=((l.filter fun r=>r.a==2).map (·.n)).foldl FK (w.map (·.n))
 | [],w=>rfl
 |r::l,w=>by
  unfold mY
  rw[List.foldl_cons,List.filter_cons]
  have ih:=KT l
  unfold mY at ih
  rw[ih]
  by_cases h:r.a=2
  · rw[if_pos h,if_pos (beq_iff_eq.2 h),List.map_cons,List.foldl_cons]
    cases w with
    |none=>rfl
    |some v=>
     simp only[Option.map_some,FK]
     by_cases hn:r.n < v.n
     · rw[if_pos hn,decide_eq_true hn]; rfl
     · rw[if_neg hn,decide_eq_false hn]; rfl
  · rw[if_neg h,if_neg (by simpa using h)]
theorem KR:∀ (l:List Ru) (w:Option Ru),(∀ r∈l,True)→(mY false w l).map (·.n)=((l.filter fun r=>r.a==2).map (·.n)).foldl (fun w v=>match w with|none=>some v|some u=>if v < u then some u else some v) (w.map (·.n))
 | [],w,_=>rfl
 |r::l,w,_=>by
  unfold mY
  rw[List.foldl_cons,List.filter_cons]
  have ih:=fun w=>KR l w fun _ _=>trivial
  unfold mY at ih
  rw[ih]
  by_cases h:r.a=2
  · rw[if_pos h,if_pos (beq_iff_eq.2 h),List.map_cons,List.foldl_cons]
    cases w with
    |none=>rfl
    |some v=>
     simp only[Option.map_some]
     by_cases hn:r.n < v.n
     · rw[if_pos hn,decide_eq_true hn]; rfl
     · rw[if_neg hn,decide_eq_false hn]; rfl
  · rw[if_neg h,if_neg (by simpa using h)]
theorem Ky:∀ (l:List Int) (w:Option Int),l.foldl (fun w v=>match w with|none=>some v|some u=>if v < u then some u else some v) w=l.foldl FI w
 | [],_=>rfl
 |v::l,w=>by
  rw[List.foldl_cons,List.foldl_cons,Ky l]
  cases w with
  |none=>rfl
  |some u=>
   congr 1
   simp only[FI]
   by_cases h:v < u
   · rw[if_pos h,if_neg (by omega)]
   · rw[if_neg h]; by_cases h2:v > u
     · rw[if_pos h2]
     · rw[if_neg h2,show v=u by omega]
theorem QH {l:List Ru} {c:Int}:(mY false none (bI l c)).map (·.n)=(xG l c).foldl FI none:=by
 rw[KR _ _ fun _ _=>trivial,Ky]; rfl
theorem Va (c:Cf) (k:Int):(QO c k).map (·.n)=c.s.foldl (fun w s=>if s.r=k then(xG s.i k).foldl FK w else w) none:=by
 unfold QO
 have main:∀ (l:List Sd) (w:Option Ru),(l.foldl (fun w s=>if s.r=k then mY true w (bI s.i k) else w) w).map (·.n)=l.foldl (fun w s=>if s.r=k then(xG s.i k).foldl FK w else w) (w.map (·.n)):=by
  intro l
  induction l with
  |nil=>intro w; rfl
  |cons s l ih=>
   intro w
   rw[List.foldl_cons,List.foldl_cons,ih]
   congr 1
   split
   · exact KT _ _
   · rfl
 exact main c.s none
theorem Bc (l:List Ru) (c:Int):(bI l c).length≤l.length:=by
 unfold bI
 refine Nat.le_trans (List.length_filter_le _ _) ?_
 split
 · rw[List.length_take]; omega
 · exact Nat.le_refl _
theorem KI (l:List Ru) (c:Int):(xG l c).length≤l.length:=by
 unfold xG
 rw[List.length_map]
 exact Nat.le_trans (List.length_filter_le _ _) (Bc l c)
variable [Lv]
theorem Nv {M:Nat} {c:Cf} {n:Int} (hM:big+2≤M) (h:c.ok) (hn:aS n=true):aB env (M+1) 30 [c.t,i64 n]= .ok (.ak [i64 (dO c n),.bool (idxOf c n).isSome]):=by
 have hb:=h.s.1
 rw[q30,dA (iY h.wf (bC hn))]
 have hk:=Ec (l:=c.s) (q:=fun s=>s.a==n) (p:=fun i=>match c.s[i]? with|some s=>s.a==n|none=>false) (fun i x hx=>by simp only[hx])
 have rd:∀ j,j < c.s.length→aT env M 30 0 2 (sJs c n j)=bif (match c.s[j]? with|some s=>s.a==n|none=>false) then .ok (.ret,⟨slots 23 [(4,.t (i64 j)),(5,.t (.bool true))],[]⟩) else .ok (.norm,sJs c n (j+1:Nat)):=fun j hj=>by
  have e1:c.s[j]? =some c.s[j]:=List.getElem?_eq_getElem hj
  rw[aaG,decide_eq_true (by rw[List.length_map]; omega)]
  simp only[cond_true]
  rw[aF (aI e1),Oi]
  simp only[bM,e1]
  rw[wrap_succ (show j≤big by omega)]
 have it:=fZ (B:=aT env M 30 0 2) (S:=fun i=>sJs c n i) (R:=fun j=>⟨slots 23 [(4,.t (i64 (j:Int))),(5,.t (.bool true))],[]⟩) (X:=⟨slots 23 [],[]⟩) (id:=0) (fun i=>match c.s[i]? with|some s=>s.a==n|none=>false) c.s.length 0 M (by omega)
  (fun j h0 h1 hp=>by rw[rd j (by omega),hp]; rfl) (fun j h0 h1 hp=>by rw[rd j (by omega),hp]; rfl)
  (by rw[Nat.zero_add,aaG,decide_eq_false (by rw[List.length_map]; omega)]; rfl)
 rw[hk] at it
 have e:idxOf c n=c.s.findIdx? fun s=>s.a==n:=rfl
 unfold dO
 rw[←e] at it
 cases hx:idxOf c n with
 |none=>rw[hx] at it; exact(aN it).trans (Md M)
 |some j=>rw[hx] at it; exact(aN it).trans (Sz M j true)
theorem Un {M:Nat} {r:Ru} {c:Int} (h:r.ok) (hc:aS c=true):aB env (M+1) 87 [r.t,i64 c]= .ok (.bool (kT c r)):=by
 rw[q87,dA (iY h.wf (bC hc))]
 unfold kT
 cases r.m==0 with
 |true=>rfl
 |false=>cases r.m==4<;>rfl
theorem Um {M:Nat} {l:List Ru} {c:Int} (hM:big+2≤M) (hl:dN Ru.ok l) (hb:(l.length+1)*48≤big) (hc:aS c=true):aB env (M+1) 84 [.sl 6 (l.map Ru.t),i64 c]= .ok (.sl 6 ((bI l c).map Ru.t)):=by
 obtain⟨m,rfl⟩:=gV (show 1≤M by omega)
 have hbg:=bH
 rw[q84,dA (iY (gq (fun _ h=>Ru.ok.wf h) hl) (bC hc))]
 have rd:∀ j r,l[j]? =some r→aT env (m+1) 84 0 3 (WE l ((l.take j).filter fun r=> !eX c r) c j)=bif kT c r then .ok (.ret,⟨slots 43 [(4,.own 0)],[.row 72 6 (((l.take (j+1)).filter fun r=> !eX c r).map Ru.t)]⟩) else .ok (.norm,WE l ((l.take (j+1)).filter fun r=> !eX c r) c (j+1:Nat)):=fun j r hx=>by
  have hj:=(List.getElem?_eq_some_iff.1 hx).1
  have ho:=hl.2 r (List.mem_of_getElem? hx)
  have hw:=wrap_succ (show j≤big by omega)
  have p0:r.t.ah 0 1 false=i64 r.m:=rfl
  have p3:r.t.ah 3 1 false=i64 r.v:=rfl
  have hlen:((l.take j).filter fun r=> !eX c r).length≤j:=by
   refine Nat.le_trans (List.length_filter_le _ _) ?_
   rw[List.length_take]; omega
  have hby:decide (((((l.take j).filter fun r=> !eX c r).map Ru.t).length+1)*48≤140737488355328)=true:=decide_eq_true (by rw[List.length_map]; omega)
  have ht:l.take (j+1)=l.take j++ [r]:=by rw[List.take_add_one,hx]; rfl
  have ck:∀ {β:Type} (K:aj β),jk (T.DC 6) [r.t] K=K:=fun K=>rfl
  rw[aaU,decide_eq_true (by rw[List.length_map]; omega)]
  simp only[cond_true,aF (aI hx),p0,p3,bM,ck,hby,bD]
  rw[dM (Un ho hc),ht,List.filter_append,hw]
  unfold WE
  rw[List.map_append]
  cases hm:r.m==4 with
  |false=>
   have:(r.m !=4)=true:=by simp only[bne,hm,Bool.not_false]
   rw[this,show([r].filter fun r=> !eX c r)= [r] by simp[eX,hm]]
   cases kT c r<;>rfl
  |true=>
   have:(r.m !=4)=false:=by simp only[bne,hm,Bool.not_true]
   rw[this]
   simp only[cond_false]
   cases hv:r.v==c with
   |true=>
    rw[show([r].filter fun r=> !eX c r)= [r] by simp[eX,hm,bne,hv]]
    cases kT c r<;>rfl
   |false=>
    rw[show([r].filter fun r=> !eX c r)= [] by simp[eX,hm,bne,hv],List.map_nil,List.append_nil,cond_false,dM (Un ho hc)]
 have hk:=Ec (l:=l) (q:=kT c) (p:=fun i=>match l[i]? with|some s=>kT c s|none=>false) (fun i x hx=>by simp only[hx])
 have it:=fZ (B:=aT env (m+1) 84 0 3) (S:=fun i=>WE l ((l.take i).filter fun r=> !eX c r) c i) (R:=fun j=>⟨slots 43 [(4,.own 0)],[.row 72 6 (((l.take (j+1)).filter fun r=> !eX c r).map Ru.t)]⟩) (X:=⟨slots 43 [(5,.own 0)],[.row 72 6 ((l.filter fun r=> !eX c r).map Ru.t)]⟩) (id:=0) (fun i=>match l[i]? with|some s=>kT c s|none=>false) l.length 0 (m+1) (by omega)
  (fun j h0 h1 hp=>by
   have e1:l[j]? =some l[j]:=List.getElem?_eq_getElem (by omega)
   simp only[e1] at hp
   rw[rd j _ e1,hp]; rfl) (fun j h0 h1 hp=>by
   have e1:l[j]? =some l[j]:=List.getElem?_eq_getElem (by omega)
   simp only[e1] at hp
   rw[rd j _ e1,hp]; rfl)
  (by rw[Nat.zero_add,aaU,decide_eq_false (by rw[List.length_map]; omega),List.take_length]; rfl)
 rw[hk] at it
 have e0:(⟨slots 43 [(0,PV.t (T.sl 6 (List.map Ru.t l))),(1,PV.t (i64 c)),(5,PV.own 0),(6,PV.t (i64 0))],[au.row 72 6 []]⟩:St)=WE l ((l.take 0).filter fun r=> !eX c r) c (0:Nat):=rfl
 rw[e0]
 unfold bI
 cases hx:l.findIdx? (kT c) with
 |none=>rw[hx] at it; exact(aN it).trans (Na (m+1) _)
 |some j=>rw[hx] at it; exact(aN it).trans (SS (m+1) _)
theorem Ul {M:Nat} {l:List Ru} {c:Int} (hM:big+3≤M) (hl:dN Ru.ok l) (hb:(l.length+1)*48≤big) (hc:aS c=true):aB env (M+1) 83 [.sl 6 (l.map Ru.t),i64 c]= .ok (.sl 1 (ints (xG l c))):=by
 obtain⟨m,rfl⟩:=gV (show 1≤M by omega)
 have hbg:=bH
 have hrl:=Bc l c
 rw[q83,dA (iY (gq (fun _ h=>Ru.ok.wf h) hl) (bC hc)),aV (Um (by omega) hl hb hc)]
 have it:=(jM (B:=aT env (m+1) 83 0 4) (S:=fun r k=>sJp (bI l c) r (k:Nat)) (X:=fun r=>⟨slots 32 [(5,.own 0)],[.row 3 1 (ints r)]⟩) (id:=0) (fun r k=>r.length≤k) (fun(w:List Int) (r:Ru)=>if r.a=2 then w++ [r.n] else w) (bI l c) (n:=m+1) [] (by omega)
  (fun r k x hx hr=>⟨?_,by by_cases h:x.a=2<;>simp only[h,if_true,if_false,List.length_append,List.length_singleton]<;>omega⟩) (fun r hr=>?_) (Nat.le_refl _)).1
 · refine(aN it).trans ((MZ (m+1) _).trans ?_)
   have main:∀ (l:List Ru) (w:List Int),l.foldl (fun w r=>if r.a=2 then w++ [r.n] else w) w=w++(l.filter fun r=>r.a==2).map (·.n):=by
    intro l
    induction l with
    |nil=>intro w; simp
    |cons x l ih=>
     intro w
     rw[List.foldl_cons,ih,List.filter_cons]
     by_cases h:x.a=2
     · rw[if_pos h,if_pos (beq_iff_eq.2 h)]; simp
     · rw[if_neg h,if_neg (by simpa using h)]
   rw[main,List.nil_append]; rfl
 · have hk:=(List.getElem?_eq_some_iff.1 hx).1
   have hw:=wrap_succ (show k≤big by omega)
   have p4:x.t.ah 4 1 false=i64 x.a:=rfl
   have p5:x.t.ah 5 1 false=i64 x.n:=rfl
   have ck:∀ {β:Type} (K:aj β),jk (T.DC 1) [i64 x.n] K=K:=fun K=>rfl
   have hby:decide (((ints r).length+1)*8≤140737488355328)=true:=decide_eq_true (by simp only[ints,List.length_map]; omega)
   rw[aaT,decide_eq_true (by rw[List.length_map]; omega)]
   simp only[cond_true,aF (aI hx),p4,p5,bM,ck,hby,bD,hw]
   by_cases h:x.a=2
   · rw[beq_iff_eq.2 h,if_pos h,cond_true]
     show aj.ok (Ex.norm,_)=aj.ok (Ex.norm,sJp (bI l c) (r++ [x.n]) _)
     unfold sJp ints
     rw[List.map_append]; rfl
   · rw[beq_eq_false_iff_ne.2 h,if_neg h,cond_false]
 · rw[aaT,decide_eq_false (by rw[List.length_map]; omega)]; rfl
theorem aev (s:Sd):s.t.ah 2 1 false= .sl 6 (s.i.map Ru.t):=rfl
theorem acD {M:Nat} {c:Cf} {k:Int} (hM:big+5≤M) (h:c.ok) (hk:aS k=true) (hs:∀ s∈c.s,(s.i.length+1)*48≤big∧(s.o.length+1)*48≤big):
 aB env (M+1) 70 [c.t,i64 k]= .ok (.ak [i64 ((gU c k).getD 0),.bool (gU c k).isSome]):=by
 obtain⟨m,rfl⟩:=gV (show 1≤M by omega)
 have hbg:=bH
 rw[q70,dA (iY h.wf (bC hk))]
 by_cases h0:k < 0
 · rw[decide_eq_true h0]; unfold gU; rw[if_neg (by omega)]; rfl
 rw[decide_eq_false h0]
 by_cases h1:k≥c.s.length
 · rw[decide_eq_true (by rw[List.length_map]; omega)]; unfold gU; rw[if_pos (by omega),List.getElem?_eq_none (by omega)]; rfl
 rw[decide_eq_false (by rw[List.length_map]; omega)]
 obtain⟨i,rfl⟩:∃ i:Nat,k=i:=⟨k.toNat,by omega⟩
 have hx:c.s[i]? =some c.s[i]:=List.getElem?_eq_getElem (by omega)
 have hm:=List.mem_of_getElem? hx
 have ho:=h.s.2 _ hm
 have hsz:=(hs _ hm).1
 have hhi:gU c i=(xG c.s[i].i c.s[i].r).foldl FI none:=by unfold gU; rw[if_pos (by omega),Int.toNat_natCast,hx]; exact QH
 rw[hhi]
 simp only[cond_false,aF (aI hx),aev,uh]
 rw[aV (Ul (by omega) ho.i hsz ho.r)]
 have hpl:=KI c.s[i].i c.s[i].r
 generalize xG c.s[i].i c.s[i].r=ps at hpl
 have e0:(⟨slots 55 [(6,PV.t (T.sl 1 (ints ps))),(7,PV.t (i64 0)),(8,PV.t (i64 0))],[]⟩:St)=sJh ps (((none:Option Int).getD 0)) (0:Nat):=rfl
 rw[e0]
 have it:=(jM (B:=aT env (m+1) 70 0 6) (S:=fun(w:Option Int) (k:Nat)=>sJh ps (w.getD 0) (k:Nat)) (X:=fun(w:Option Int)=>⟨slots 55 [(6,.t (.sl 1 (ints ps))),(7,.t (i64 (w.getD 0)))],[]⟩) (id:=0) (fun w k=>w.isSome=decide (0 < k)) FI ps (n:=m+1) none (by omega)
  (fun w k x hx hw=>⟨?_,?_⟩) (fun r hr=>?_) (by rfl))
 · refine(aN it.1).trans ((MQ (m+1) ps _).trans ?_)
   rw[it.2]
   simp only[ints,List.length_map]
   rw[show decide (((ps.length:Nat):Int) > 0)=decide (0 < ps.length) from decide_eq_decide.2 (by omega)]
 · have hj:=(List.getElem?_eq_some_iff.1 hx).1
   have hwr:=wrap_succ (show k≤big by omega)
   rw[aaO,decide_eq_true (by simp only[ints,List.length_map]; omega)]
   simp only[cond_true,aF (DX hx),bM,hwr]
   cases w with
   |none=>
    have:k=0:=by simp at hw; omega
    subst this; rfl
   |some u=>
    have hk0:0 < k:=by simpa using hw
    rw[show((k:Int)==0)=false from beq_eq_false_iff_ne.2 (by omega)]
    simp only[cond_false,Option.getD_some,FI]
    by_cases hc:x > u
    · rw[decide_eq_true hc,if_pos hc]; rfl
    · rw[decide_eq_false hc,if_neg hc]; rfl
 · rw[decide_eq_true (Nat.succ_pos k)]
   unfold FI
   split
   · rfl
   · split<;>rfl
 · rw[aaO,decide_eq_false (by simp only[ints,List.length_map]; omega)]; rfl
theorem acF {M:Nat} {c:Cf} {k n:Int} (hM:big+4≤M) (h:c.ok) (hk:aS k=true) (hn:aS n=true) (hs:∀ s∈c.s,(s.i.length+1)*48≤big∧(s.o.length+1)*48≤big):
 aB env (M+1) 72 [c.t,i64 k,i64 n]= .ok (.bool (uT c k n)):=by
 obtain⟨m,rfl⟩:=gV (show 1≤M by omega)
 have hbg:=bH
 rw[q72,dA (show T.wfs [c.t,i64 k,i64 n]=true from FY h.wf (bC hk) (bC hn))]
 unfold uT
 by_cases h0:k < 0
 · rw[decide_eq_true h0,if_neg (by omega)]; rfl
 rw[decide_eq_false h0,if_pos (by omega)]
 by_cases h1:k≥c.s.length
 · rw[decide_eq_true (by rw[List.length_map]; omega),List.getElem?_eq_none (by omega)]; rfl
 rw[decide_eq_false (by rw[List.length_map]; omega)]
 obtain⟨i,rfl⟩:∃ i:Nat,k=i:=⟨k.toNat,by omega⟩
 have hx:c.s[i]? =some c.s[i]:=List.getElem?_eq_getElem (by omega)
 have hm:=List.mem_of_getElem? hx
 have ho:=h.s.2 _ hm
 have hsz:=(hs _ hm).2
 rw[Int.toNat_natCast,hx]
 simp only[cond_false,aF (aI hx),aew]
 rw[aV (Um (by omega) ho.o hsz hn)]
 have hrl:=Bc c.s[i].o n
 generalize bI c.s[i].o n=ps at hrl
 have it:=rU (B:=aT env (m+1) 72 0 5) (S:=fun k=>sJe ps k) (R:=⟨slots 38 [(6,.t (.bool true))],[]⟩) (X:=⟨slots 38 [],[]⟩) (id:=0) (fun r:Ru=>r.a !=0) ps (n:=m+1) (by omega) (fun j r hx=>by
  have hj:=(List.getElem?_eq_some_iff.1 hx).1
  have p4:r.t.ah 4 1 false=i64 r.a:=rfl
  rw[aaQ,decide_eq_true (by rw[List.length_map]; omega)]
  simp only[cond_true,aF (aI hx),p4,bM]
  rw[wrap_succ (show j≤big by omega)])
  (by rw[aaQ,decide_eq_false (by rw[List.length_map]; omega)]; rfl)
 cases hc:ps.any (fun r:Ru=>r.a !=0) with
 |true=>rw[hc] at it; exact(aN it).trans (SL (m+1) true)
 |false=>rw[hc] at it; exact(aN it).trans (MS (m+1))
theorem ac0 {M:Nat} {c:Cf} {cl:Int} {w:Option Int} {k:Nat} {ps:List Int} (hM:big+1≤M) (hl:ps.length≤big) (hk:k≤big):
 oq env M 71 6 11 (VZ c cl (w.getD 0) w.isSome k ps 0)= .ok (.norm,Ry c cl ((ps.foldl FK w).getD 0) (ps.foldl FK w).isSome (k+1:Nat)):=by
 have it:=(jM (B:=kE env M 71 0 6 11) (S:=fun(w:Option Int) (i:Nat)=>VZ c cl (w.getD 0) w.isSome k ps (i:Nat)) (X:=fun(w:Option Int)=>Ry c cl (w.getD 0) w.isSome k) (id:=2) (fun w k=>True) FK ps (n:=M) w (by omega)
  (fun w i x hx _=>⟨?_,trivial⟩) (fun r _=>?_) trivial).1
 · refine(iW it).trans ((FX M c cl _ _ k).trans ?_)
   rw[wrap_succ hk]
 · have hj:=(List.getElem?_eq_some_iff.1 hx).1
   have hwr:=wrap_succ (show i≤big by omega)
   rw[JQ,decide_eq_true (by simp only[ints,List.length_map]; omega)]
   simp only[cond_true,aF (DX hx),bM,hwr]
   cases w with
   |none=>rfl
   |some u=>
    simp only[Option.isSome_some,Bool.not_true,cond_false,Option.getD_some,FK]
    by_cases hc:x < u
    · rw[decide_eq_true hc,if_pos hc]; rfl
    · rw[decide_eq_false hc,if_neg hc]; rfl
 · rw[JQ,decide_eq_false (by simp only[ints,List.length_map]; omega)]; rfl
theorem acE {M:Nat} {c:Cf} {k:Int} (hM:big+6≤M) (h:c.ok) (hk:aS k=true) (hs:∀ s∈c.s,(s.i.length+1)*48≤big∧(s.o.length+1)*48≤big):
 aB env (M+1) 71 [c.t,i64 k]= .ok (.ak [i64 ((xB c k).getD 0),.bool (xB c k).isSome]):=by
 obtain⟨m,rfl⟩:=gV (show 1≤M by omega)
 have hbg:=bH
 have hb:=h.s.1
 rw[q71,dA (iY h.wf (bC hk))]
 unfold xB
 by_cases h0:k=0
 · rw[beq_iff_eq.2 h0,if_pos h0]; rfl
 rw[beq_eq_false_iff_ne.2 h0,if_neg h0,cond_false,Va]
 have it:=(jM (B:=aT env (m+1) 71 0 6) (S:=fun(w:Option Int) (i:Nat)=>Ry c k (w.getD 0) w.isSome i) (X:=fun(w:Option Int)=>⟨slots 58 [(6,.t (i64 (w.getD 0))),(7,.t (.bool w.isSome))],[]⟩) (id:=0) (fun _ _=>True) (fun w s=>if s.r=k then(xG s.i k).foldl FK w else w) c.s (n:=m+1) none (by omega)
  (fun w j s hx _=>⟨?_,trivial⟩) (fun w _=>?_) trivial).1
 · exact(aN it).trans (MR (m+1) _ _)
 · have hj:=(List.getElem?_eq_some_iff.1 hx).1
   have ho:=h.s.2 s (List.mem_of_getElem? hx)
   have hsz:=(hs s (List.mem_of_getElem? hx)).1
   rw[aaP,decide_eq_true (by rw[List.length_map]; omega)]
   simp only[cond_true,aF (aI hx),uh,aev,bM]
   by_cases hr:s.r=k
   · rw[show(s.r !=k)=false by simp[hr],if_pos hr]
     simp only[cond_false]
     rw[aV (Ul (by omega) ho.i hsz hk)]
     have:=KI s.i k
     exact ac0 (by omega) (by omega) (by omega)
   · rw[show(s.r !=k)=true by simp[hr],if_neg hr,cond_true,wrap_succ (show j≤big by omega)]
 · rw[aaP,decide_eq_false (by rw[List.length_map]; omega)]; rfl
theorem Es {c:Cf} (h:dZ c=true):∀ s∈c.s,(s.i.length+1)*48≤big∧(s.o.length+1)*48≤big:=fun s hs=>by
 have:=tJ h hs
 have hb:=bH
 unfold nP qU at this
 simp only[Bool.and_eq_true,decide_eq_true_eq] at this
 omega
theorem acv {M:Nat} {a b:Cf} (hM:big+70≤M) (h:a.ok) (h':b.ok):
 aB env (M+1) 55 [a.t,b.t]= .ok (.bool (zZ a b)):=by
 obtain⟨m,rfl⟩:=gV (show 1≤M by omega)
 rw[q55,dA (iY h.wf h'.wf),aV (Nv (by omega) h h'.a)]
 show cl (m+1) 30 [b.t,i64 a.a] _=_
 rw[aV (Nv (by omega) h' h.a)]
 show jJ (m+1) 54 [a.t] _=_
 rw[dM (NC (by omega) h)]
 unfold zZ
 cases h1:dZ a with
 |false=>rfl
 |true=>
 simp only[Bool.not_true,cond_false]
 rw[dM (NC (by omega) h')]
 cases h2:dZ b with
 |false=>rfl
 |true=>
 have s1:=Es h1
 have s2:=Es h2
 cases h3:(idxOf a b.a).isSome with
 |false=>rfl
 |true=>
 cases h4:(idxOf b a.a).isSome with
 |false=>rfl
 |true=>
 refine Eq.trans (show _=cl (m+1) 70 [b.t,i64 (dO b a.a)] _ from rfl) ?_
 rw[aV (acD (by omega) h' (zu h' _) s2)]
 refine Eq.trans (show _=eG env (m+1) 55 7 (WG a (dO a b.a) ((gU b (dO b a.a)).getD 0) (gU b (dO b a.a)).isSome 0) from rfl) ?_
 have e4:∀ i:Nat,i < 4→([0,1,2,3]:List Int)[i]? =some (i:Int):=by decide
 have it:=yZ (q:=fun n=> !pF a (gU b (dO b a.a)) (dO a b.a) n) (l:=([0,1,2,3]:List Int)) (B:=aT env (m+1) 55 0 7)
  (S:=fun i=>WG a (dO a b.a) ((gU b (dO b a.a)).getD 0) (gU b (dO b a.a)).isSome (i:Int)) (X:=⟨slots 75 [],[]⟩) (R:=⟨slots 75 [(4,.t (.bool false))],[]⟩) (e:=0)
  (fun i x hx=>by
   have hi:i < 4:=(List.getElem?_eq_some_iff.1 hx).1
   rw[e4 i hi] at hx
   injection hx with hx
   subst hx
   have hbg:=bH
   have hok:aS (i:Int)=true:=lM.2 (by omega)
   rw[aaK,decide_eq_true (show(i:Int)≤3 by omega),cond_true,aV (acE (by omega) h hok s1)]
   unfold pF
   have hw:=wrap_succ (show i≤big by omega)
   cases hh:(gU b (dO b a.a)).isSome with
   |false=>cases (xB a i).isSome<;>(simp only[aH,List.getElem?_cons_zero,List.getElem?_cons_succ,bT,cond_false,cond_true,hw]; rfl)
   |true=>
   cases hl:(xB a i).isSome with
   |false=>simp only[aH,List.getElem?_cons_zero,List.getElem?_cons_succ,bT,cond_false,cond_true,hw]; rfl
   |true=>
   simp only[aH,List.getElem?_cons_zero,List.getElem?_cons_succ,bT,cond_true,bM]
   rw[dM (acF (by omega) h (zu h _) hok s1),hw]
   cases hg:decide ((gU b (dO b a.a)).getD 0 > (xB a i).getD 0) with
   |false=>cases uT a (dO a b.a) i<;>rfl
   |true=>cases uT a (dO a b.a) i<;>rfl)
  (by rw[aaK]; rfl) 4 0 (m+1) rfl (by omega)
 rw[List.drop_zero] at it
 have ha:(!([0,1,2,3]:List Int).any (pF a (gU b (dO b a.a)) (dO a b.a)))=([0,1,2,3]:List Int).all fun n=> !pF a (gU b (dO b a.a)) (dO a b.a) n:=by rw[List.not_any_eq_all_not]
 simp only[Bool.true_and]
 rw[ha]
 cases hq:([0,1,2,3]:List Int).all fun n=> !pF a (gU b (dO b a.a)) (dO a b.a) n with
 |false=>rw[hq] at it; exact(aN it).trans (SE (m+1) false)
 |true=>rw[hq] at it; exact(aN it).trans (MJ (m+1))
end
section
open Go.RowKit Go.Proofs
variable [Lv]
theorem Ns {M:Nat} {t:List Cf} {a:Int} (hM:big+2≤M) (ht:dN Cf.ok t) (ha:aS a=true):aB env (M+1) 13 [.sl 6 (t.map Cf.t),i64 a]= .ok (.ak [i64 (((kF t a).getD 0:Nat):Int),.bool (kF t a).isSome]):=by
 have hb:=ht.1
 rw[q13,dA (iY (jR ht) (bC ha))]
 have hk:=Ec (l:=t) (q:=fun c=>c.a==a) (p:=fun i=>match t[i]? with|some c=>c.a==a|none=>false) (fun i x hx=>by simp only[hx])
 have rd:∀ j,j < t.length→aT env M 13 0 2 (sJf t a j)=bif (match t[j]? with|some c=>c.a==a|none=>false) then .ok (.ret,⟨slots 21 [(4,.t (i64 j)),(5,.t (.bool true))],[]⟩) else .ok (.norm,sJf t a (j+1:Nat)):=fun j hj=>by
  have e1:t[j]? =some t[j]:=List.getElem?_eq_getElem hj
  rw[aaA,decide_eq_true (by rw[List.length_map]; omega)]
  simp only[cond_true]
  rw[aF (aI e1),NQ]
  simp only[bM,e1]
  rw[wrap_succ (show j≤big by omega)]
 have it:=fZ (B:=aT env M 13 0 2) (S:=fun i=>sJf t a i) (R:=fun j=>⟨slots 21 [(4,.t (i64 (j:Int))),(5,.t (.bool true))],[]⟩) (X:=⟨slots 21 [],[]⟩) (id:=0) (fun i=>match t[i]? with|some c=>c.a==a|none=>false) t.length 0 M (by omega)
  (fun j h0 h1 hp=>by rw[rd j (by omega),hp]; rfl) (fun j h0 h1 hp=>by rw[rd j (by omega),hp]; rfl)
  (by rw[Nat.zero_add,aaA,decide_eq_false (by rw[List.length_map]; omega)]; rfl)
 rw[hk] at it
 have e:kF t a=t.findIdx? fun c=>c.a==a:=rfl
 rw[←e] at it
 cases hx:kF t a with
 |none=>rw[hx] at it; exact(aN it).trans (LV M)
 |some j=>rw[hx] at it; exact(aN it).trans (RZ M j true)
theorem Hr {M:Nat} {t:List Cf} {i k:Int} (hM:big+6≤M) (ht:dN Cf.ok t) (hi:aS i=true) (hk:aS k=true):aB env (M+1) 15 [.sl 6 (t.map Cf.t),i64 i,i64 k]= .ok (AO (iE t i k)):=by
 obtain⟨m,rfl⟩:=gV (show 1≤M by omega)
 rw[q15,dA (FY (jR ht) (bC hi) (bC hk))]
 have hnone:iE t i k=none→aj.ok (T.ak [i64 0,i64 0,T.bool false])=aj.ok (AO (iE t i k)):=fun h=>by rw[h]; rfl
 by_cases h0:i < 0
 · rw[decide_eq_true h0]; exact hnone (by unfold iE; rw[if_neg (by omega)])
 rw[decide_eq_false h0]
 by_cases h1:i≥t.length
 · rw[decide_eq_true (by rw[List.length_map]; omega)]
   refine hnone ?_
   unfold iE
   rw[List.getElem?_eq_none (by omega)]
   split<;>rfl
 rw[decide_eq_false (by rw[List.length_map]; omega)]
 by_cases h2:k < 0
 · rw[decide_eq_true h2]; exact hnone (by unfold iE; rw[if_neg (by omega)])
 rw[decide_eq_false h2]
 obtain⟨i,rfl⟩:∃ n:Nat,i=n:=⟨i.toNat,by omega⟩
 obtain⟨k,rfl⟩:∃ n:Nat,k=n:=⟨k.toNat,by omega⟩
 have hc:t[i]? =some t[i]:=List.getElem?_eq_getElem (by omega)
 have hco:=ht.2 _ (List.mem_of_getElem? hc)
 generalize t[i]=c at hc hco
 simp only[cond_false,aF (aI hc),uX,jF]
 by_cases h3:(k:Int)≥c.s.length
 · rw[decide_eq_true (by rw[List.length_map]; omega)]
   refine hnone ?_
   unfold iE
   rw[if_pos ⟨by omega,by omega⟩,Int.toNat_natCast,Int.toNat_natCast,hc]
   simp only[]
   rw[List.getElem?_eq_none (by omega)]
 rw[decide_eq_false (by rw[List.length_map]; omega)]
 have hs:c.s[k]? =some c.s[k]:=List.getElem?_eq_getElem (by omega)
 have hso:=hco.s.2 _ (List.mem_of_getElem? hs)
 generalize c.s[k]=s at hs hso
 simp only[cond_false,nD,if_true]
 rw[aF (aI hs),Oi,aV (Ns (by omega) ht hso.a),yV hc hs]
 cases hf:kF t s.a with
 |none=>rfl
 |some j=>
  have hj:=yX hf
  have hd:t[j]? =some t[j]:=List.getElem?_eq_getElem hj
  have hdo:=ht.2 _ (List.mem_of_getElem? hd)
  generalize t[j]=d at hd hdo
  simp only[aH,List.getElem?_cons_zero,List.getElem?_cons_succ,Option.getD_some,Option.isSome_some,bT,Bool.not_true,cond_false,qB,aF (aI hd),NQ,hd]
  rw[aV (Nv (by omega) hdo hco.a)]
  cases hx:idxOf d c.a with
  |none=>rfl
  |some m'=>
   have e:dO d c.a=(m':Int):=by unfold dO; rw[hx]; rfl
   simp only[e,aH,List.getElem?_cons_zero,List.getElem?_cons_succ,Option.isSome_some,bT,Bool.not_true,cond_false]; rfl
def zC (t:List Cf) (j:Nat) (s:Sd):Bool:=match kF t s.a with|some n=>(n==j)&&(s.r==3)|none=>false
theorem Oo {t:List Cf} {i j:Nat} {c:Cf} (hc:t[i]? =some c):c.s.any (zC t j)=(iF t i).contains j:=by
 rw[Bool.eq_iff_iff,List.any_eq_true,List.contains_iff_mem]
 unfold iF
 rw[hc]
 simp only[List.mem_filterMap]
 constructor
 · rintro⟨s,hs,h⟩
   refine⟨s,hs,?_⟩
   unfold zC at h
   cases hf:kF t s.a with
   |none=>rw[hf] at h; cases h
   |some n=>
    rw[hf] at h
    simp only[Bool.and_eq_true,beq_iff_eq] at h
    rw[if_pos h.2,h.1]
 · rintro⟨s,hs,h⟩
   refine⟨s,hs,?_⟩
   unfold zC
   by_cases h3:s.r=3
   · rw[if_pos h3] at h; rw[h]; simp[h3]
   · rw[if_neg h3] at h; cases h
theorem acw {M:Nat} {t:List Cf} {i j:Nat} (hM:big+4≤M) (ht:dN Cf.ok t) (hi:i < t.length) (hj:j < t.length):aB env (M+1) 56 [.sl 6 (t.map Cf.t),i64 i,i64 j]= .ok (.bool ((iF t i).contains j)):=by
 obtain⟨m,rfl⟩:=gV (show 1≤M by omega)
 have hb:=ht.1
 have hbg:=bH
 have hc:t[i]? =some t[i]:=List.getElem?_eq_getElem hi
 have hco:=ht.2 _ (List.mem_of_getElem? hc)
 rw[q56,dA (FY (jR ht) (bC (fQ (by omega))) (bC (fQ (by omega)))),←Oo hc]
 generalize t[i]=c at hc hco
 have hsl:=hco.s.1
 have it:=rU (B:=aT env (m+1) 56 0 2) (S:=fun k=>sJa t i j k) (R:=⟨slots 52 [(6,.t (.bool true))],[]⟩) (X:=⟨slots 52 [],[]⟩) (id:=0) (zC t j) c.s (n:=m+1) (by omega) (fun k s hx=>by
  have hk:=(List.getElem?_eq_some_iff.1 hx).1
  have hso:=hco.s.2 s (List.mem_of_getElem? hx)
  rw[aaL]
  simp only[aF (aI hc),uX,jF,nD,if_true]
  rw[decide_eq_true (by rw[List.length_map]; omega)]
  simp only[cond_true,aF (aI hx),Oi,uh]
  rw[aV (Ns (by omega) ht hso.a),wrap_succ (show k≤big by omega)]
  unfold zC
  cases hf:kF t s.a with
  |none=>rfl
  |some n=>
   simp only[aH,List.getElem?_cons_zero,List.getElem?_cons_succ,Option.isSome_some,bT,cond_true,Option.getD_some,bM]
   have e:((n:Int)==(j:Int))=(n==j):=by rw[Bool.eq_iff_iff]; simp; omega
   rw[e]
   cases n==j with
   |false=>rfl
   |true=>cases s.r==3<;>rfl)
  (by
   rw[aaL]
   simp only[aF (aI hc),uX,jF]
   rw[decide_eq_false (by rw[List.length_map]; omega)]; rfl)
 cases hc:c.s.any (zC t j) with
 |true=>rw[hc] at it; exact(aN it).trans (SG (m+1) true)
 |false=>rw[hc] at it; exact(aN it).trans (MK (m+1))
def rowB (n:Nat) (g:Nat→Bool):List T:=((List.range n).map g).map T.bool
theorem zn (n:Nat) (g:Nat→Bool):(rowB n g).length=n:=by simp[rowB]
theorem KO {n b:Nat} {g:Nat→Bool} (hb:b < n):(rowB n g).set b (T.bool true)=rowB n fun x=>g x||x==b:=by
 refine List.ext_getElem? fun k=>?_
 rw[List.getElem?_set]
 simp only[zn]
 unfold rowB
 by_cases h:b=k
 · subst h
   rw[if_pos rfl,if_pos hb]; simp[hb]
 · rw[if_neg h]
   by_cases hk:k < n
   · simp[hk,show ¬ k=b from fun e=>h e.symm]
   · simp[hk]
theorem yE {n:Nat} {g h:Nat→Bool} (e:∀ x < n,g x=h x):rowB n g=rowB n h:=by
 unfold rowB
 congr 1
 exact List.map_congr_left fun x hx=>e x (List.mem_range.1 hx)
theorem KN {n i:Nat} {g:Nat→Bool} (hi:i < n):(rowB n g)[i]? =some (T.bool (g i)):=by simp[rowB,hi]
def nJ (t:List Cf) (i:Nat) (p:Nat→Bool) (a b:Nat):Bool:=(a==i||p a)&&(iF t a).contains b
theorem aar {M:Nat} {t:List Cf} {i a:Nat} {p g:Nat→Bool} (hM:big+6≤M) (ht:dN Cf.ok t) (hi:i < t.length) (ha:a < t.length):
 oq env M 39 3 6 (Bg t i ((List.range t.length).map p) (rowB t.length g) a 0)= .ok (.norm,UF t i ((List.range t.length).map p) (rowB t.length fun x=>g x||nJ t i p a x) (a+1:Nat)):=by
 obtain⟨m,rfl⟩:=gV (show 1≤M by omega)
 have hb:=ht.1
 have it:=(jM (B:=kE env (m+1) 39 0 3 6) (S:=fun(g:Nat→Bool) (b:Nat)=>Bg t i ((List.range t.length).map p) (rowB t.length g) a (b:Nat)) (X:=fun g=>UF t i ((List.range t.length).map p) (rowB t.length g) a) (id:=2) (fun _ _=>True) (fun g b x=>g x||(x==b&&nJ t i p a b)) (List.range t.length) (n:=m+1) g (by rw[List.length_range]; omega)
  (fun g b b' hx _=>⟨?_,trivial⟩) (fun g _=>?_) trivial).1
 · refine(iW it).trans ((Gw (m+1) t i _ _ a).trans ?_)
   rw[wrap_succ (show a≤big by omega)]
   have main:∀ (l:List Nat) (g:Nat→Bool) (x:Nat),l.foldl (fun g b x=>g x||(x==b&&nJ t i p a b)) g x=(g x||(l.contains x&&nJ t i p a x)):=by
    intro l
    induction l with
    |nil=>intro g x; simp
    |cons b l ih=>
     intro g x
     rw[List.foldl_cons,ih,List.contains_cons]
     by_cases h:x=b
     · subst h; simp[Bool.or_assoc]; cases g x<;>cases nJ t i p a x<;>simp
     · rw[beq_eq_false_iff_ne.2 h]; simp
   have e:rowB t.length (List.foldl (fun g b x=>g x||(x==b&&nJ t i p a b)) g (List.range t.length))=rowB t.length fun x=>g x||nJ t i p a x:=yE fun x hx=>by
    rw[main,show(List.range t.length).contains x=true by simpa using hx,Bool.true_and]
   rw[e]
 · have hbl:=(List.getElem?_eq_some_iff.1 hx).1
   rw[List.length_range] at hbl
   have:b'=b:=by rw[List.getElem?_range hbl] at hx; exact(Option.some.inj hx).symm
   subst this
   have hw:=wrap_succ (show b'≤big by omega)
   have hah:=dM (K:=fun v=>bif v then chk (decide (0≤(b':Int))&&decide ((b':Int) < ((rowB t.length g).length:Int))) (aj.ok (Ex.norm,Bg t i ((List.range t.length).map p) ((rowB t.length g).set (b':Int).toNat (T.bool true)) a (b'+1:Nat))) else aj.ok (Ex.norm,Bg t i ((List.range t.length).map p) (rowB t.length g) a (b'+1:Nat))) (acw (M:=m) (i:=a) (j:=b') (by omega) ht ha hbl)
   have hck:(decide (0≤(b':Int))&&decide ((b':Int) < ((rowB t.length g).length:Int)))=true:=by rw[zn,decide_eq_true (by omega),decide_eq_true (by omega)]; rfl
   rw[hck] at hah
   simp only[bD,Int.toNat_natCast] at hah
   rw[KO hbl] at hah
   have hg:((List.range t.length).map p).map T.bool=rowB t.length p:=rfl
   rw[PI,decide_eq_true (by rw[List.length_map]; omega),hg]
   simp only[cond_true,aF (KN (g:=p) ha),bT,hw,hck,bD,Int.toNat_natCast,KO hbl]
   rw[hah]
   have e0:((a:Int)==(i:Int))=(a==i):=by rw[Bool.eq_iff_iff]; simp; omega
   rw[e0]
   have fin:∀ q:Bool,nJ t i p a b'=q→(rowB t.length fun x=>g x||(x==b'&&nJ t i p a b'))=bif q then rowB t.length fun x=>g x||x==b' else rowB t.length g:=by
    intro q h
    rw[h]
    cases q<;>exact yE fun x _=>by simp
   rw[fin _ rfl]
   unfold nJ
   cases a==i<;>cases p a<;>cases (iF t a).contains b'<;>rfl
 · rw[List.length_range,PI,decide_eq_false (by rw[List.length_map]; omega)]; rfl
theorem Ue {M:Nat} {t:List Cf} {i:Nat} {p:Nat→Bool} (hM:big+8≤M) (ht:dN Cf.ok t) (hi:i < t.length):aB env (M+1) 39 [.sl 6 (t.map Cf.t),i64 i,.sl 1 (rowB t.length p)]= .ok (.sl 1 (rowB t.length (CP t i p))):=by
 obtain⟨m,rfl⟩:=gV (show 1≤M by omega)
 have hb:=ht.1
 have hbg:=bH
 have hwf:(T.sl 1 (rowB t.length p)).wf=true:=by
  simp only[T.wf,zn,Bool.and_eq_true,decide_eq_true_eq]
  exact⟨hb,T.kN.2 fun x hx=>by obtain⟨v,_,rfl⟩:=List.mem_map.1 hx; rfl⟩
 refine(q39 (m+1) t i ((List.range t.length).map p)).trans ?_
 have hg:((List.range t.length).map p).map T.bool=rowB t.length p:=rfl
 rw[hg,dA (FY (jR ht) (bC (fQ (by omega))) hwf),zn,decide_eq_true (by omega)]
 have ck:∀ {β:Type} (K:aj β),jk (T.DC 1) [] K=K:=fun K=>rfl
 rw[ck,bD]
 have it:=(jM (B:=aT env (m+1) 39 0 3) (S:=fun(g:Nat→Bool) (a:Nat)=>UF t i ((List.range t.length).map p) (rowB t.length g) (a:Nat)) (X:=fun g=>⟨slots 44 [(7,.own 0)],[.row 4 1 (rowB t.length g)]⟩) (id:=0) (fun _ _=>True) (fun g a x=>g x||nJ t i p a x) (List.range t.length) (n:=m+1) p (by rw[List.length_range]; omega)
  (fun g a a' hx _=>⟨?_,trivial⟩) (fun g _=>?_) trivial).1
 · refine(aN it).trans ((MG (m+1) _).trans ?_)
   have main:∀ (l:List Nat) (g:Nat→Bool) (x:Nat),l.foldl (fun g a x=>g x||nJ t i p a x) g x=(g x||l.any fun a=>nJ t i p a x):=by
    intro l
    induction l with
    |nil=>intro g x; simp
    |cons b l ih=>intro g x; rw[List.foldl_cons,ih,List.any_cons,Bool.or_assoc]
   rw[yE (h:=CP t i p) fun x _=>by rw[main]; rfl]
 · have hbl:=(List.getElem?_eq_some_iff.1 hx).1
   rw[List.length_range] at hbl
   have:a'=a:=by rw[List.getElem?_range hbl] at hx; exact(Option.some.inj hx).symm
   subst this
   rw[aaJ,decide_eq_true (by rw[List.length_map]; omega),cond_true]
   exact aar (by omega) ht hi hbl
 · rw[List.length_range,aaJ,decide_eq_false (by rw[List.length_map]; omega)]; rfl
theorem Rl (t:List Cf):nN t=dH (fun i=>fF t i t.length i) 0 t.length:=by
 cases h:dH (fun i=>fF t i t.length i) 0 t.length with
 |none=>
  unfold nN
  rw[List.find?_eq_none]
  intro j hj
  rw[List.mem_range] at hj
  have:fF t j t.length j=false:=iI h j (by omega) (by omega)
  rw[this]; simp
 |some j=>
  obtain⟨_,hj,hp⟩:=lW h
  unfold nN
  rw[List.find?_eq_some_iff_getElem]
  refine⟨hp,j,by rw[List.length_range]; omega,List.getElem_range _,fun k hk=>?_⟩
  rw[List.getElem_range]
  have:fF t k t.length k=false:=Bj h k (by omega) hk
  rw[this]; rfl
def Bf (t:List Cf) (i:Nat) (k:Nat):St:=if k=0 then Rz t i (rowB t.length (fF t i 0)) 0 else RD t i (rowB t.length (fF t i k)) k
theorem Ua {M:Nat} {t:List Cf} (hM:big+10≤M) (ht:dN Cf.ok t):aB env (M+1) 19 [.sl 6 (t.map Cf.t)]= .ok (wM (nN t)):=by
 obtain⟨m,rfl⟩:=gV (show 1≤M by omega)
 have hb:=ht.1
 have hbg:=bH
 rw[q19,dA (jD (jR ht)),Rl]
 have rd:∀ i,i < t.length→aT env (m+1) 19 0 2 (sJr t i)=bif fF t i t.length i then .ok (.ret,⟨slots 31 [(2,.t (i64 i)),(3,.t (.bool true))],[]⟩) else .ok (.norm,sJr t (i+1:Nat)):=fun i hi=>by
  rw[aaC,decide_eq_true (by rw[List.length_map]; omega),cond_true]
  have hck:(decide (((t.map Cf.t).length:Int)≤((t.map Cf.t).length:Int))&&decide (((t.map Cf.t).length:Int).toNat*1≤140737488355328))=true:=by
   rw[decide_eq_true (Int.le_refl _),decide_eq_true (by rw[List.length_map,Int.toNat_natCast]; omega)]; rfl
  have e0:Rz t i (List.replicate ((t.map Cf.t).length:Int).toNat (T.bool false)) 0=Bf t i 0:=by
   unfold Bf
   rw[if_pos rfl,List.length_map,Int.toNat_natCast]
   congr 1
   refine List.ext_getElem? fun k=>?_
   rw[List.getElem?_replicate]
   unfold rowB fF
   by_cases hk:k < t.length<;>simp[hk]
  rw[hck,bD,e0]
  have it:=(jM (B:=kE env (m+1) 19 0 2 6) (S:=fun(_:Unit) (k:Nat)=>Bf t i k) (X:=fun _=>⟨slots 31 [(0,.t (.sl 6 (t.map Cf.t))),(4,.t (i64 i)),(5,.t (.sl 1 (rowB t.length (fF t i t.length))))],[]⟩) (id:=2) (fun _ _=>True) (fun w _=>w) (List.range t.length) (n:=m+1) () (by rw[List.length_range]; omega)
   (fun w k k' hx _=>⟨?_,trivial⟩) (fun g _=>?_) trivial).1
  · refine(iW it).trans ((Gu (m+1) t i _).trans ?_)
    rw[aF (KN hi)]
    simp only[bT]
    rw[wrap_succ (show i≤big by omega)]
  · have hkl:=(List.getElem?_eq_some_iff.1 hx).1
    rw[List.length_range] at hkl
    have hw:=wrap_succ (show k≤big by omega)
    have hnx:Bf t i (k+1)=RD t i (rowB t.length (fF t i (k+1))) (k+1:Nat):=by unfold Bf; rw[if_neg (by omega)]
    rw[hnx]
    by_cases h0:k=0
    · subst h0
      have:Bf t i 0=Rz t i (rowB t.length (fF t i 0)) (0:Nat):=by unfold Bf; rw[if_pos rfl]; rfl
      rw[this,WM,decide_eq_true (by rw[List.length_map]; omega),cond_true,aV (Ue (by omega) ht hi),hw]
      rfl
    · have:Bf t i k=RD t i (rowB t.length (fF t i k)) k:=by unfold Bf; rw[if_neg h0]
      rw[this,GN,decide_eq_true (by rw[List.length_map]; omega),cond_true,aV (Ue (by omega) ht hi),hw]
      rfl
  · have:Bf t i t.length=RD t i (rowB t.length (fF t i t.length)) t.length:=by unfold Bf; rw[if_neg (by omega)]
    rw[List.length_range,this,GN,decide_eq_false (by rw[List.length_map]; omega)]; rfl
 have it:=fZ (B:=aT env (m+1) 19 0 2) (S:=fun i=>sJr t i) (R:=fun i=>⟨slots 31 [(2,.t (i64 (i:Int))),(3,.t (.bool true))],[]⟩) (X:=⟨slots 31 [],[]⟩) (id:=0) (fun i=>fF t i t.length i) t.length 0 (m+1) (by omega)
  (fun j h0 h1 hp=>by rw[rd j (by omega),hp]; rfl) (fun j h0 h1 hp=>by rw[rd j (by omega),hp]; rfl)
  (by rw[Nat.zero_add,aaC,decide_eq_false (by rw[List.length_map]; omega)]; rfl)
 cases hk:dH (fun i=>fF t i t.length i) 0 t.length with
 |some j=>rw[hk] at it; exact(aN it).trans (Sj (m+1) j true)
 |none=>rw[hk] at it; exact(aN it).trans (LY (m+1))
end
end Go.aO
