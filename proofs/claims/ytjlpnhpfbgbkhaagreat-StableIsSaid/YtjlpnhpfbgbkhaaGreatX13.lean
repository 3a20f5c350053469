/- The texts of a proof, one behind the other: an interpreter and its soundness, what the functions of the program answer, and plain laws on that. -/
import Derived.Test.YtjlpnhpfbgbkhaaGreatX1
import Derived.Test.YtjlpnhpfbgbkhaaGreatK10
import Derived.Test.YtjlpnhpfbgbkhaaGreatX4
import Derived.Test.YtjlpnhpfbgbkhaaGreatX5
import Derived.Test.YtjlpnhpfbgbkhaaGreatX6
import Derived.Test.YtjlpnhpfbgbkhaaGreatX12
import Derived.Test.YtjlpnhpfbgbkhaaGreatX8
set_option linter.unusedVariables false
set_option linter.unusedSimpArgs false
set_option linter.unnecessarySimpa false
set_option linter.unusedSectionVars false
set_option maxRecDepth 100000
namespace Go.aT
section
open Go.RowKit Go.Proofs
variable [Lv]
def sJf (t:List Cf) (a i:Int):St:=⟨slots 21 [(0,.t (.sl 6 (t.map Cf.t))),(1,.t (i64 a)),(6,.t (i64 i))],[]⟩
theorem q73 (N:Nat) (t:List Cf) (a:Int):ak env (N+1) 73 [.sl 6 (t.map Cf.t),i64 a]=W [.sl 6 (t.map Cf.t),i64 a] (bC env N 73 2 (sJf t a 0)):=by kernel_rfl
theorem ajQ (N:Nat) (t:List Cf) (a i:Int):aF env N 73 0 2 (sJf t a i)=bif decide (i < (↑(List.map Cf.t t).length:Int)) then bK (List.map Cf.t t) i fun e=>iT IntKind.i64 (e.ay 0 1 false) fun a_1=>bif a_1==a then ah.ok (Ex.ret,{tmps:=slots 21 [(4,.t (i64 i)),(5,.t (.bool true))],heap:=[]}) else ah.ok (Ex.norm,sJf t a (IntKind.i64.wrap (i+1))) else ah.ok (Ex.exit 0,{tmps:=slots 21 [],heap:=[]}):=by kernel_rfl
theorem adb (N:Nat) (v:Int) (b:Bool):aP env N 73 0 2 (aW env 73) (.ret) (⟨slots 21 [(4,.t (i64 v)),(5,.t (.bool b))],[]⟩)=ah.ok (T.au [i64 v,T.bool b]):=by kernel_rfl
theorem WZ (N:Nat):aP env N 73 0 2 (aW env 73) (.exit 0) (⟨slots 21 [],[]⟩)=ah.ok (T.au [i64 0,T.bool false]):=by kernel_rfl
theorem q40 (N:Nat) (t:List Cf) (i k:Int):ak env (N+1) 40 [.sl 6 (t.map Cf.t),i64 i,i64 k]=W [.sl 6 (t.map Cf.t),i64 i,i64 k] (bif decide (i < 0) then ah.ok (T.au [i64 0,i64 0,T.bool false]) else bif decide (i≥(↑(List.map Cf.t t).length:Int)) then ah.ok (T.au [i64 0,i64 0,T.bool false]) else bif decide (k < 0) then ah.ok (T.au [i64 0,i64 0,T.bool false]) else bK (List.map Cf.t t) i fun e=>iO (e.ay 5 1 false) fun n=>bif decide (k≥n) then ah.ok (T.au [i64 0,i64 0,T.bool false]) else bK (List.map Cf.t t) i fun e=>qW 4 (e.ay 5 1 false) fun xs=>bK xs k fun e=>cl N 73 [T.sl 6 (List.map Cf.t t),e.ay 0 1 false] fun x=>aG x 0 fun y=>aG x 1 fun y_1=>bT y_1 fun b=>bif !b then ah.ok (T.au [i64 0,i64 0,T.bool false]) else o9 y fun jH=>bK (List.map Cf.t t) jH fun e=>bK (List.map Cf.t t) i fun e_1=>cl N 74 [e,e_1.ay 0 1 false] fun x=>aG x 0 fun nO=>aG x 1 fun xu=>bT xu fun b=>bif !b then ah.ok (T.au [i64 0,i64 0,T.bool false]) else ah.ok (T.au [y,nO,T.bool true])):=by kernel_rfl
def sJs (c:Cf) (a i:Int):St:=⟨slots 23 [(1,.t (i64 a)),(2,.ptr 0 0),(6,.t (i64 i))],[.box 56 6 (.t c.t)]⟩
theorem q74 (N:Nat) (c:Cf) (a:Int):ak env (N+1) 74 [c.t,i64 a]=W [c.t,i64 a] (bC env N 74 2 (sJs c a 0)):=by kernel_rfl
theorem ajR (N:Nat) (c:Cf) (a i:Int):aF env N 74 0 2 (sJs c a i)=bif decide (i < (↑(List.map Sd.t c.s).length:Int)) then bK (List.map Sd.t c.s) i fun e=>iT IntKind.i64 (e.ay 0 1 false) fun a_1=>bif a_1==a then ah.ok (Ex.ret,{tmps:=slots 23 [(4,.t (i64 i)),(5,.t (.bool true))],heap:=[]}) else ah.ok (Ex.norm,sJs c a (IntKind.i64.wrap (i+1))) else ah.ok (Ex.exit 0,{tmps:=slots 23 [],heap:=[]}):=by kernel_rfl
theorem ade (N:Nat) (v:Int) (b:Bool):aP env N 74 0 2 (aW env 74) (.ret) (⟨slots 23 [(4,.t (i64 v)),(5,.t (.bool b))],[]⟩)=ah.ok (T.au [i64 v,T.bool b]):=by kernel_rfl
theorem W9 (N:Nat):aP env N 74 0 2 (aW env 74) (.exit 0) (⟨slots 23 [],[]⟩)=ah.ok (T.au [i64 0,T.bool false]):=by kernel_rfl
def sJa (t:List Cf) (i j k:Int):St:=⟨slots 52 [(0,.t (.sl 6 (t.map Cf.t))),(1,.t (i64 i)),(2,.t (i64 j)),(7,.t (i64 k))],[]⟩
def sJt (t:List Cf) (n:Int) (l:List Bool) (ys:List T) (a:Int):St:=⟨slots 44 [(0,.t (.sl 6 (t.map Cf.t))),(1,.t (i64 n)),(2,.t (.sl 1 (l.map T.bool))),(7,.own 0),(8,.t (i64 a))],[.row 4 1 ys]⟩
def axj (t:List Cf) (n:Int) (l:List Bool) (ys:List T) (a b:Int):St:=⟨slots 44 [(0,.t (.sl 6 (t.map Cf.t))),(1,.t (i64 n)),(2,.t (.sl 1 (l.map T.bool))),(7,.own 0),(8,.t (i64 a)),(9,.t (i64 b))],[.row 4 1 ys]⟩
def sJr (t:List Cf) (i:Int):St:=⟨slots 31 [(0,.t (.sl 6 (t.map Cf.t))),(4,.t (i64 i))],[]⟩
def as9 (t:List Cf) (i:Int) (ys:List T) (k:Int):St:=⟨slots 31 [(0,.t (.sl 6 (t.map Cf.t))),(4,.t (i64 i)),(5,.own 0),(6,.t (i64 k))],[.row 4 1 ys]⟩
def ata (t:List Cf) (i:Int) (ys:List T) (k:Int):St:=⟨slots 31 [(0,.t (.sl 6 (t.map Cf.t))),(4,.t (i64 i)),(5,.t (.sl 1 ys)),(6,.t (i64 k))],[]⟩
def sJw (t:List Cf) (i:Int) (c:Cf) (j:Int):St:=⟨slots 95 [(0,.t (.sl 6 (t.map Cf.t))),(1,.t (i64 i)),(7,.ptr 0 0),(8,.t (i64 j))],[.box 56 6 (.t c.t)]⟩
def axk (t:List Cf) (i e:Int) (c:Cf) (k:Int):St:=⟨slots 95 [(0,.t (.sl 6 (t.map Cf.t))),(1,.t (i64 i)),(2,.t (i64 e)),(7,.ptr 0 0),(9,.t (i64 k))],[.box 56 6 (.t c.t)]⟩
def sJc (t:List Cf) (e:Int):St:=⟨slots 44 [(0,.t (.sl 6 (t.map Cf.t))),(4,.own 0),(5,.t (i64 e))],[.row 50 1 [i64 2,i64 7,i64 8,i64 9,i64 10]]⟩
def axg (t:List Cf) (e i:Int):St:=⟨slots 44 [(0,.t (.sl 6 (t.map Cf.t))),(4,.own 0),(5,.t (i64 e)),(6,.t (i64 i))],[.row 50 1 [i64 2,i64 7,i64 8,i64 9,i64 10]]⟩
def sJl (c:Cf) (cl n:Int) (b:Bool) (k:Int):St:=⟨slots 58 [(1,.t (i64 cl)),(2,.ptr 0 0),(6,.t (i64 n)),(7,.t (.bool b)),(8,.t (i64 k))],[.box 56 6 (.t c.t)]⟩
def axh (c:Cf) (cl n:Int) (b:Bool) (k:Int) (l:List Int) (i:Int):St:=⟨slots 58 [(1,.t (i64 cl)),(2,.ptr 0 0),(6,.t (i64 n)),(7,.t (.bool b)),(8,.t (i64 k)),(9,.t (.sl 1 (ints l))),(10,.t (i64 i))],[.box 56 6 (.t c.t)]⟩
def sJh (l:List Int) (n i:Int):St:=⟨slots 55 [(6,.t (.sl 1 (ints l))),(7,.t (i64 n)),(8,.t (i64 i))],[]⟩
def sJe (l:List Ru) (i:Int):St:=⟨slots 38 [(7,.t (.sl 6 (l.map Ru.t))),(8,.t (i64 i))],[]⟩
def sJp (l:List Ru) (ys:List Int) (i:Int):St:=⟨slots 32 [(5,.own 0),(6,.t (.sl 6 (l.map Ru.t))),(7,.t (i64 i))],[.row 3 1 (ints ys)]⟩
def sJq (l ys:List Ru) (c i:Int):St:=⟨slots 43 [(0,.t (.sl 6 (l.map Ru.t))),(1,.t (i64 c)),(5,.own 0),(6,.t (i64 i))],[.row 123 6 (ys.map Ru.t)]⟩
def sJz (a:Cf) (k h:Int) (b:Bool) (n:Int):St:=⟨slots 75 [(2,.ptr 0 0),(5,.t (i64 k)),(9,.t (i64 h)),(10,.t (.bool b)),(11,.t (i64 n))],[.box 56 6 (.t a.t)]⟩
end
section
open Go.RowKit Go.Proofs
theorem Vg {α:Type} {l:List α} {q:α→Bool} {p:Nat→Bool} (hp:∀ i x,l[i]? =some x→p i=q x):dF p 0 l.length=l.findIdx? q:=by
 cases h:dF p 0 l.length with
 |none=>
  symm; rw[List.findIdx?_eq_none_iff]
  intro x hx
  obtain⟨i,hi,rfl⟩:=List.getElem_of_mem hx
  rw[←hp i _ (List.getElem?_eq_getElem hi)]
  exact gI h i (by omega) (by omega)
 |some j=>
  obtain⟨_,hj,hpj⟩:=iK h
  symm; rw[List.findIdx?_eq_some_iff_getElem]
  refine⟨by omega,?_,fun k hk=>?_⟩
  · rw[←hp j _ (List.getElem?_eq_getElem (by omega))]; exact hpj
  · rw[←hp k _ (List.getElem?_eq_getElem (by omega)),Bz h k (by omega) hk]; simp
def RD (l:List Ru) (c:Int):List Int:=((bP l c).filter fun r=>r.a==2).map (·.n)
def agI (w:Option Int) (v:Int):Option Int:=match w with|none=>some v|some u=>if v < u then some v else some u
def abO (w:Option Int) (v:Int):Option Int:=match w with|none=>some v|some u=>if v > u then some v else some u
theorem aaC {l:List Int} (h:l.length≤big) (h2:∀ v∈l,aV v=true):(T.sl 1 (ints l)).wf=true:=by
 simp only[T.wf,Bool.and_eq_true,decide_eq_true_eq]
 refine⟨by simpa[ints] using h,T.nC.2 fun x hx=>?_⟩
 obtain⟨v,hv,rfl⟩:=List.mem_map.1 hx
 exact aZ (h2 v hv)
variable [Lv]
theorem al9 {M:Nat} {c:Cf} {n:Int} (hM:big+2≤M) (h:c.ok) (hn:aV n=true):ak env (M+1) 74 [c.t,i64 n]= .ok (.au [i64 (eP c n),.bool (idxOf c n).isSome]):=by
 have hb:=h.s.1
 rw[q74,aX (dM h.wf (aZ hn))]
 have hk:=Vg (l:=c.s) (q:=fun s=>s.a==n) (p:=fun i=>match c.s[i]? with|some s=>s.a==n|none=>false) (fun i x hx=>by simp only[hx])
 have rd:∀ j,j < c.s.length→aF env M 74 0 2 (sJs c n j)=bif (match c.s[j]? with|some s=>s.a==n|none=>false) then .ok (.ret,⟨slots 23 [(4,.t (i64 j)),(5,.t (.bool true))],[]⟩) else .ok (.norm,sJs c n (j+1:Nat)):=fun j hj=>by
  have e1:c.s[j]? =some c.s[j]:=List.getElem?_eq_getElem hj
  rw[ajR,decide_eq_true (by rw[List.length_map]; omega)]
  simp only[cond_true]
  rw[aA (aC e1),ahb]
  simp only[dI,e1]
  rw[wrap_succ (show j≤big by omega)]
 have it:=fB (B:=aF env M 74 0 2) (S:=fun i=>sJs c n i) (R:=fun j=>⟨slots 23 [(4,.t (i64 (j:Int))),(5,.t (.bool true))],[]⟩) (X:=⟨slots 23 [],[]⟩) (id:=0) (fun i=>match c.s[i]? with|some s=>s.a==n|none=>false) c.s.length 0 M (by omega)
  (fun j h0 h1 hp=>by rw[rd j (by omega),hp]; rfl) (fun j h0 h1 hp=>by rw[rd j (by omega),hp]; rfl)
  (by rw[Nat.zero_add,ajR,decide_eq_false (by rw[List.length_map]; omega)]; rfl)
 rw[hk] at it
 have e:idxOf c n=c.s.findIdx? fun s=>s.a==n:=rfl
 unfold eP
 rw[←e] at it
 cases hx:idxOf c n with
 |none=>rw[hx] at it; exact(aQ it).trans (W9 M)
 |some j=>rw[hx] at it; exact(aQ it).trans (ade M j true)
end
section
open Go.RowKit Go.Proofs
variable [Lv]
theorem al8 {M:Nat} {t:List Cf} {a:Int} (hM:big+2≤M) (ht:cO Cf.ok t) (ha:aV a=true):ak env (M+1) 73 [.sl 6 (t.map Cf.t),i64 a]= .ok (.au [i64 (((nU t a).getD 0:Nat):Int),.bool (nU t a).isSome]):=by
 have hb:=ht.1
 rw[q73,aX (dM (jo ht) (aZ ha))]
 have hk:=Vg (l:=t) (q:=fun c=>c.a==a) (p:=fun i=>match t[i]? with|some c=>c.a==a|none=>false) (fun i x hx=>by simp only[hx])
 have rd:∀ j,j < t.length→aF env M 73 0 2 (sJf t a j)=bif (match t[j]? with|some c=>c.a==a|none=>false) then .ok (.ret,⟨slots 21 [(4,.t (i64 j)),(5,.t (.bool true))],[]⟩) else .ok (.norm,sJf t a (j+1:Nat)):=fun j hj=>by
  have e1:t[j]? =some t[j]:=List.getElem?_eq_getElem hj
  rw[ajQ,decide_eq_true (by rw[List.length_map]; omega)]
  simp only[cond_true]
  rw[aA (aC e1),akH]
  simp only[dI,e1]
  rw[wrap_succ (show j≤big by omega)]
 have it:=fB (B:=aF env M 73 0 2) (S:=fun i=>sJf t a i) (R:=fun j=>⟨slots 21 [(4,.t (i64 (j:Int))),(5,.t (.bool true))],[]⟩) (X:=⟨slots 21 [],[]⟩) (id:=0) (fun i=>match t[i]? with|some c=>c.a==a|none=>false) t.length 0 M (by omega)
  (fun j h0 h1 hp=>by rw[rd j (by omega),hp]; rfl) (fun j h0 h1 hp=>by rw[rd j (by omega),hp]; rfl)
  (by rw[Nat.zero_add,ajQ,decide_eq_false (by rw[List.length_map]; omega)]; rfl)
 rw[hk] at it
 have e:nU t a=t.findIdx? fun c=>c.a==a:=rfl
 rw[←e] at it
 cases hx:nU t a with
 |none=>rw[hx] at it; exact(aQ it).trans (WZ M)
 |some j=>rw[hx] at it; exact(aQ it).trans (adb M j true)
theorem aeJ {M:Nat} {t:List Cf} {i k:Int} (hM:big+6≤M) (ht:cO Cf.ok t) (hi:aV i=true) (hk:aV k=true):ak env (M+1) 40 [.sl 6 (t.map Cf.t),i64 i,i64 k]= .ok (MG (gB t i k)):=by
 obtain⟨m,rfl⟩:=dJ (show 1≤M by omega)
 rw[q40,aX (yG (jo ht) (aZ hi) (aZ hk))]
 have hnone:gB t i k=none→ah.ok (T.au [i64 0,i64 0,T.bool false])=ah.ok (MG (gB t i k)):=fun h=>by rw[h]; rfl
 by_cases h0:i < 0
 · rw[decide_eq_true h0]; exact hnone (by unfold gB; rw[if_neg (by omega)])
 rw[decide_eq_false h0]
 by_cases h1:i≥t.length
 · rw[decide_eq_true (by rw[List.length_map]; omega)]
   refine hnone ?_
   unfold gB
   rw[List.getElem?_eq_none (by omega)]
   split<;>rfl
 rw[decide_eq_false (by rw[List.length_map]; omega)]
 by_cases h2:k < 0
 · rw[decide_eq_true h2]; exact hnone (by unfold gB; rw[if_neg (by omega)])
 rw[decide_eq_false h2]
 obtain⟨i,rfl⟩:∃ n:Nat,i=n:=⟨i.toNat,by omega⟩
 obtain⟨k,rfl⟩:∃ n:Nat,k=n:=⟨k.toNat,by omega⟩
 have hc:t[i]? =some t[i]:=List.getElem?_eq_getElem (by omega)
 have hco:=ht.2 _ (List.mem_of_getElem? hc)
 generalize t[i]=c at hc hco
 simp only[cond_false,aA (aC hc),IL,iO]
 by_cases h3:(k:Int)≥c.s.length
 · rw[decide_eq_true (by rw[List.length_map]; omega)]
   refine hnone ?_
   unfold gB
   rw[if_pos ⟨by omega,by omega⟩,Int.toNat_natCast,Int.toNat_natCast,hc]
   simp only[]
   rw[List.getElem?_eq_none (by omega)]
 rw[decide_eq_false (by rw[List.length_map]; omega)]
 have hs:c.s[k]? =some c.s[k]:=List.getElem?_eq_getElem (by omega)
 have hso:=hco.s.2 _ (List.mem_of_getElem? hs)
 generalize c.s[k]=s at hs hso
 simp only[cond_false,qW,if_true]
 rw[aA (aC hs),ahb,aH (al8 (by omega) ht hso.a),Ea hc hs]
 cases hf:nU t s.a with
 |none=>rfl
 |some j=>
  have hj:=Eb hf
  have hd:t[j]? =some t[j]:=List.getElem?_eq_getElem hj
  have hdo:=ht.2 _ (List.mem_of_getElem? hd)
  generalize t[j]=d at hd hdo
  simp only[aG,List.getElem?_cons_zero,List.getElem?_cons_succ,Option.getD_some,Option.isSome_some,bT,Bool.not_true,cond_false,o9,aA (aC hd),akH,hd]
  rw[aH (al9 (by omega) hdo hco.a)]
  cases hx:idxOf d c.a with
  |none=>rfl
  |some m'=>
   have e:eP d c.a=(m':Int):=by unfold eP; rw[hx]; rfl
   simp only[e,aG,List.getElem?_cons_zero,List.getElem?_cons_succ,Option.isSome_some,bT,Bool.not_true,cond_false]; rfl
def Xt (t:List Cf) (j:Nat) (s:Sd):Bool:=match nU t s.a with|some n=>(n==j)&&(s.r==3)|none=>false
def rowB (n:Nat) (g:Nat→Bool):List T:=((List.range n).map g).map T.bool
def atG (t:List Cf) (i:Nat) (p:Nat→Bool) (a b:Nat):Bool:=(a==i||p a)&&(jL t a).contains b
def axi (t:List Cf) (i:Nat) (k:Nat):St:=if k=0 then as9 t i (rowB t.length (kD t i 0)) 0 else ata t i (rowB t.length (kD t i k)) k
end
section
open Go.RowKit Go.Proofs
variable [Lv]
def TP (l:List Ch) (i:Int):St:=⟨slots 36 [(0,.t (.sl 8 (l.map Ch.t))),(3,.t (i64 i))],[]⟩
theorem arJ (N:Nat) (l:List Ch):ak env (N+1) 124 [.sl 8 (l.map Ch.t)]=W [.sl 8 (l.map Ch.t)] (bC env N 124 2 (TP l 0)):=by kernel_rfl
theorem aea (N:Nat) (l:List Ch) (i:Int):aF env N 124 0 2 (TP l i)=bif decide (i < (↑(List.map Ch.t l).length:Int)) then bK (List.map Ch.t l) i fun e=>iw N 145 [e.ay 0 2 true] fun b=>bif !b then ah.ok (Ex.ret,{tmps:=slots 36 [(2,.t (.bool false))],heap:=[]}) else bif decide (i > 0) then bK (List.map Ch.t l) (IntKind.i64.wrap (i - 1)) fun e=>bK (List.map Ch.t l) i fun e_1=>DI N 104 [e.ay 0 2 true,e_1.ay 0 2 true] fun a=>bif decide (a≥0) then ah.ok (Ex.ret,{tmps:=slots 36 [(2,.t (.bool false))],heap:=[]}) else ah.ok (Ex.norm,TP l (IntKind.i64.wrap (i+1))) else ah.ok (Ex.norm,TP l (IntKind.i64.wrap (i+1))) else ah.ok (Ex.exit 0,{tmps:=slots 36 [],heap:=[]}):=by kernel_rfl
theorem Zz (N:Nat) (b:Bool):aP env N 124 0 2 (aW env 124) (.ret) (⟨slots 36 [(2,.t (.bool b))],[]⟩)=rB b:=by kernel_rfl
theorem Sz (N:Nat):aP env N 124 0 2 (aW env 124) (.exit 0) (⟨slots 36 [],[]⟩)=rB true:=by kernel_rfl
def agM (c:Cf) (k:Int) (l:List Ch) (ys:List En) (i:Int):St:=⟨slots 48 [(1,.t (i64 k)),(2,.t (.sl 8 (l.map Ch.t))),(3,.ptr 0 0),(7,.own 1),(8,.t (i64 i))],[.box 56 6 (.t c.t),.row 104 6 (ys.map En.t)]⟩
theorem q82 (N:Nat) (c:Cf) (k:Int) (l:List Ch):ak env (N+1) 82 [c.t,i64 k,.sl 8 (l.map Ch.t)]=W [c.t,i64 k,.sl 8 (l.map Ch.t)] (iw N 124 [T.sl 8 (List.map Ch.t l)] fun b=>bif !b then ah.ok (T.sl 6 []) else bC env N 82 5 {tmps:=slots 48 [(1,.t (i64 k)),(2,.t (.sl 8 (List.map Ch.t l))),(3,.ptr 0 0),(7,.own 1),(8,.t (i64 0))],heap:=[aj.box 56 6 (.t c.t),.row 104 6 []]}):=by kernel_rfl
theorem ajX (N:Nat) (c:Cf) (k:Int) (l:List Ch) (ys:List En) (i:Int):aF env N 82 0 5 (agM c k l ys i)=bif decide (i < (↑(List.map Ch.t l).length:Int)) then bK (List.map Ch.t l) i fun e=>bK (List.map Ch.t l) i fun e_1=>cl N 125 [c.t,i64 k,e.ay 0 2 true,e_1.ay 2 6 true] fun x=>aG x 0 fun y=>aG x 1 fun y_1=>chk (y.cells.length==4&& !y.aY) (bT y_1 fun v=>bif v then bK (List.map Ch.t l) i fun e=>chk ((e.ay 0 2 true).cells.length==2&& !(e.ay 0 2 true).aY) (chk (y.cells.length==4&& !y.aY) (bW (T.mF 6) [T.agg [(e.ay 0 2 true).cell 0,(e.ay 0 2 true).cell 1,y.cell 0,y.cell 1,y.cell 2,y.cell 3]] (chk (decide (((List.map En.t ys).length+1)*64≤140737488355328)) (ah.ok (Ex.norm,{tmps:=slots 48 [(1,.t (i64 k)),(2,.t (.sl 8 (List.map Ch.t l))),(3,.ptr 0 0),(7,.own 1),(8,.t (i64 (IntKind.i64.wrap (i+1))))],heap:=[aj.box 56 6 (.t c.t),.row 104 6 (List.map En.t ys++ [T.agg [(e.ay 0 2 true).cell 0,(e.ay 0 2 true).cell 1,y.cell 0,y.cell 1,y.cell 2,y.cell 3]])]}))))) else ah.ok (Ex.norm,agM c k l ys (IntKind.i64.wrap (i+1)))) else ah.ok (Ex.exit 0,{tmps:=slots 48 [(7,.own 0)],heap:=[aj.row 104 6 (List.map En.t ys)]}):=by kernel_rfl
theorem Xd (N:Nat) (ys:List T):aP env N 82 0 5 (aW env 82) (.exit 0) (⟨slots 48 [(7,.own 0)],[.row 104 6 ys]⟩)=ah.ok (T.sl 6 ys):=by kernel_rfl
def RH (t:List Cf) (L:List (List Ch)) (i:Int) (ys:List T) (k:Int):St:=⟨slots 46 [(0,.t (.sl 6 (t.map Cf.t))),(1,.t (.sl 1 (aK L))),(2,.t (i64 i)),(7,.own 0),(8,.t (i64 k))],[.row 75 1 ys]⟩
theorem q47 (N:Nat) (t:List Cf) (L:List (List Ch)) (i:Int):ak env (N+1) 47 [.sl 6 (t.map Cf.t),.sl 1 (aK L),i64 i]=W [.sl 6 (t.map Cf.t),.sl 1 (aK L),i64 i] (bC env N 47 3 (RH t L i [] 0)):=by kernel_rfl
theorem ajM (N:Nat) (t:List Cf) (L:List (List Ch)) (i:Int) (ys:List T) (k:Int):aF env N 47 0 3 (RH t L i ys k)=bK (List.map Cf.t t) i fun e=>iO (e.ay 5 1 false) fun n=>bif decide (k < n) then cl N 40 [T.sl 6 (List.map Cf.t t),i64 i,i64 k] fun x=>aG x 0 fun y=>aG x 1 fun y_1=>aG x 2 fun nO=>bT nO fun v=>bif v then o9 y fun jH=>bK (List.map Cf.t t) jH fun e=>cl N 39 [T.sl 1 (aK L),y] fun x=>cl N 82 [e,y_1,x] fun x=>bW (T.mF 1) [x] (chk (decide ((ys.length+1)*24≤140737488355328)) (ah.ok (Ex.norm,RH t L i (ys++ [x]) (IntKind.i64.wrap (k+1))))) else bW (T.mF 1) [T.sl 6 []] (chk (decide ((ys.length+1)*24≤140737488355328)) (ah.ok (Ex.norm,RH t L i (ys++ [T.sl 6 []]) (IntKind.i64.wrap (k+1))))) else ah.ok (Ex.exit 0,{tmps:=slots 46 [(7,.own 0)],heap:=[aj.row 75 1 ys]}):=by kernel_rfl
theorem WS (N:Nat) (ys:List T):aP env N 47 0 3 (aW env 47) (.exit 0) (⟨slots 46 [(7,.own 0)],[.row 75 1 ys]⟩)=ah.ok (T.sl 1 ys):=by kernel_rfl
def RI (t:List Cf) (ys:List T) (i:Int):St:=⟨slots 25 [(0,.t (.sl 6 (t.map Cf.t))),(3,.own 0),(4,.t (i64 i))],[.row 40 1 ys]⟩
theorem q18 (N:Nat) (t:List Cf):ak env (N+1) 18 [.sl 6 (t.map Cf.t)]=W [.sl 6 (t.map Cf.t)] (bC env N 18 3 (RI t [] 0)):=by kernel_rfl
theorem adG (N:Nat) (t:List Cf) (ys:List T) (i:Int):aF env N 18 0 3 (RI t ys i)=bif decide (i < (↑(List.map Cf.t t).length:Int)) then bif decide ((↑(List.map Cf.t t).length:Int)≤8) then bK (List.map Cf.t t) i fun e=>cl N 44 [e,T.sl 1 []] fun x=>bW (T.mF 1) [x] (chk (decide ((ys.length+1)*24≤140737488355328)) (ah.ok (Ex.norm,RI t (ys++ [x]) (IntKind.i64.wrap (i+1))))) else ah.ok (Ex.exit 0,{tmps:=slots 25 [(3,.own 0)],heap:=[aj.row 40 1 ys]}) else ah.ok (Ex.exit 0,{tmps:=slots 25 [(3,.own 0)],heap:=[aj.row 40 1 ys]}):=by kernel_rfl
theorem Ih (N:Nat) (ys:List T):aP env N 18 0 3 (aW env 18) (.exit 0) (⟨slots 25 [(3,.own 0)],[.row 40 1 ys]⟩)=ah.ok (T.sl 1 ys):=by kernel_rfl
def RN (t:List Cf) (L:List (List Ch)) (ys:List T) (i:Int):St:=⟨slots 31 [(0,.t (.sl 6 (t.map Cf.t))),(1,.t (.sl 1 (aK L))),(5,.own 0),(6,.t (i64 i))],[.row 40 1 ys]⟩
theorem q20 (N:Nat) (t:List Cf) (L:List (List Ch)):ak env (N+1) 20 [.sl 6 (t.map Cf.t),.sl 1 (aK L)]=W [.sl 6 (t.map Cf.t),.sl 1 (aK L)] (bC env N 20 3 (RN t L [] 0)):=by kernel_rfl
theorem adH (N:Nat) (t:List Cf) (L:List (List Ch)) (ys:List T) (i:Int):aF env N 20 0 3 (RN t L ys i)=bif decide (i < (↑(List.map Cf.t t).length:Int)) then bif decide ((↑(List.map Cf.t t).length:Int)≤8) then bK (List.map Cf.t t) i fun e=>cl N 47 [T.sl 6 (List.map Cf.t t),T.sl 1 (aK L),i64 i] fun x=>cl N 44 [e,x] fun x=>bW (T.mF 1) [x] (chk (decide ((ys.length+1)*24≤140737488355328)) (ah.ok (Ex.norm,RN t L (ys++ [x]) (IntKind.i64.wrap (i+1))))) else ah.ok (Ex.exit 0,{tmps:=slots 31 [(5,.own 0)],heap:=[aj.row 40 1 ys]}) else ah.ok (Ex.exit 0,{tmps:=slots 31 [(5,.own 0)],heap:=[aj.row 40 1 ys]}):=by kernel_rfl
theorem Ii (N:Nat) (ys:List T):aP env N 20 0 3 (aW env 20) (.exit 0) (⟨slots 31 [(5,.own 0)],[.row 40 1 ys]⟩)=ah.ok (T.sl 1 ys):=by kernel_rfl
theorem q22 (N:Nat) (t:List Cf) (L:List (List Ch)):ak env (N+1) 22 [.sl 6 (t.map Cf.t),.sl 1 (aK L)]=W [.sl 6 (t.map Cf.t),.sl 1 (aK L)] (bif decide ((↑(List.map Cf.t t).length:Int)≤8) then bif (↑(aK L).length:Int)==(↑(List.map Cf.t t).length:Int) then cl N 20 [T.sl 6 (List.map Cf.t t),T.sl 1 (aK L)] fun x=>cl N 15 [x,T.sl 1 (aK L)] fun x=>ah.ok x else rB false else rB false):=by kernel_rfl
def Yv (t:List Cf) (L:List (List Ch)) (n:Int):St:=⟨slots 28 [(0,.t (.sl 6 (t.map Cf.t))),(4,.t (.sl 1 (aK L))),(5,.t (i64 n))],[]⟩
theorem q12 (N:Nat) (t:List Cf):ak env (N+1) 12 [.sl 6 (t.map Cf.t)]=W [.sl 6 (t.map Cf.t)] (cl N 18 [T.sl 6 (List.map Cf.t t)] fun x=>bC env N 12 3 {tmps:=slots 28 [(0,.t (.sl 6 (List.map Cf.t t))),(4,.t x),(5,.t (i64 0))],heap:=[]}):=by kernel_rfl
theorem aoL (N:Nat) (t:List Cf) (L:List (List Ch)) (n:Int):aF env N 12 0 3 (Yv t L n)=DI N 36 [i64 (↑(List.map Cf.t t).length:Int)] fun b=>bif decide (n < b) then iw N 22 [T.sl 6 (List.map Cf.t t),T.sl 1 (aK L)] fun b=>bif !b then cl N 20 [T.sl 6 (List.map Cf.t t),T.sl 1 (aK L)] fun x=>ah.ok (Ex.norm,{tmps:=slots 28 [(0,.t (.sl 6 (List.map Cf.t t))),(4,.t x),(5,.t (i64 (IntKind.i64.wrap (n+1))))],heap:=[]}) else ah.ok (Ex.exit 0,{tmps:=slots 28 [(0,.t (.sl 6 (List.map Cf.t t))),(4,.t (.sl 1 (aK L)))],heap:=[]}) else ah.ok (Ex.exit 0,{tmps:=slots 28 [(0,.t (.sl 6 (List.map Cf.t t))),(4,.t (.sl 1 (aK L)))],heap:=[]}):=by kernel_rfl
theorem Wy (N:Nat) (t:List Cf) (L:List (List Ch)):aP env N 12 0 3 (aW env 12) (.exit 0) (⟨slots 28 [(0,.t (.sl 6 (t.map Cf.t))),(4,.t (.sl 1 (aK L)))],[]⟩)=cl N 22 [T.sl 6 (List.map Cf.t t),T.sl 1 (aK L)] fun x=>ah.ok (T.au [T.sl 1 (aK L),x]):=by kernel_rfl
def ND (t:List Cf) (L:List (List Ch)) (i:Int) (x:Px) (ys:List Int):St:=⟨slots 68 [(0,.t (.sl 6 (t.map Cf.t))),(1,.t (.sl 1 (aK L))),(2,.t (i64 i)),(7,.ptr 0 0),(10,.own 1)],[.box 25 2 (.t x.t),.row 3 1 (ints ys)]⟩
theorem q14 (N:Nat) (t:List Cf) (L:List (List Ch)) (i:Int) (x:Px):ak env (N+1) 14 [.sl 6 (t.map Cf.t),.sl 1 (aK L),i64 i,x.t]=W [.sl 6 (t.map Cf.t),.sl 1 (aK L),i64 i,x.t] (bif decide (i < 0) then ah.ok (T.au [T.sl 1 [],T.bool false]) else bif decide (i≥(↑(List.map Cf.t t).length:Int)) then ah.ok (T.au [T.sl 1 [],T.bool false]) else bif decide ((↑(List.map Cf.t t).length:Int) > 8) then ah.ok (T.au [T.sl 1 [],T.bool false]) else bW (T.mF 1) [i64 i] (bC env N 14 4 {tmps:=slots 68 [(0,.t (.sl 6 (List.map Cf.t t))),(1,.t (.sl 1 (aK L))),(2,.t (i64 i)),(7,.ptr 0 0),(10,.own 1)],heap:=[aj.box 25 2 (.t x.t),.row 3 1 [i64 i]]})):=by kernel_rfl
theorem aoN (N:Nat) (t:List Cf) (L:List (List Ch)) (i:Int) (x:Px) (ys:List Int):aF env N 14 0 4 (ND t L i x ys)=cl N 39 [T.sl 1 (aK L),i64 i] fun x_1=>cl N 38 [x_1,x.t] fun x_2=>aG x_2 0 fun y=>aG x_2 1 fun y_1=>chk (y.cells.length==6&& !y.aY) (bT y_1 fun b=>bif !b then ah.ok (Ex.ret,{tmps:=slots 68 [(8,.own 0),(9,.t (.bool false))],heap:=[aj.row 3 1 (ints ys)]}) else iT IntKind.i64 (y.ay 5 1 false) fun a=>bif decide (a < 0) then ah.ok (Ex.ret,{tmps:=slots 68 [(8,.own 0),(9,.t (.bool true))],heap:=[aj.row 3 1 (ints ys)]}) else cl N 40 [T.sl 6 (List.map Cf.t t),i64 i,y.ay 5 1 false] fun x_3=>aG x_3 0 fun y=>aG x_3 1 fun nO=>aG x_3 2 fun xu=>bT xu fun b=>bif !b then ah.ok (Ex.ret,{tmps:=slots 68 [(8,.own 0),(9,.t (.bool false))],heap:=[aj.row 3 1 (ints ys)]}) else bif (↑(ints ys).length:Int)==8 then ah.ok (Ex.ret,{tmps:=slots 68 [(8,.own 0),(9,.t (.bool false))],heap:=[aj.row 3 1 (ints ys)]}) else bW (T.mF 1) [y] (chk (decide (((ints ys).length+1)*8≤140737488355328)) (ah.ok (Ex.norm,{tmps:=slots 68 [(0,.t (.sl 6 (List.map Cf.t t))),(1,.t (.sl 1 (aK L))),(2,.t y),(7,.ptr 0 0),(10,.own 1)],heap:=[aj.box 25 2 (.t x.t),.row 3 1 (ints ys++ [y])]})))):=by kernel_rfl
theorem acV (N:Nat) (ys:List T) (b:Bool):aP env N 14 0 4 (aW env 14) (.ret) (⟨slots 68 [(8,.own 0),(9,.t (.bool b))],[.row 3 1 ys]⟩)=ah.ok (T.au [T.sl 1 ys,T.bool b]):=by kernel_rfl
def Yr (a b:List Int) (i:Int):St:=⟨slots 26 [(0,.t (.sl 1 (ints a))),(1,.t (.sl 1 (ints b))),(5,.t (i64 i))],[]⟩
theorem q16 (N:Nat) (a b:List Int):ak env (N+1) 16 [.sl 1 (ints a),.sl 1 (ints b)]=W [.sl 1 (ints a),.sl 1 (ints b)] (bif (↑(ints a).length:Int) !=(↑(ints b).length:Int) then rB false else bC env N 16 4 (Yr a b 0)):=by kernel_rfl
theorem ajC (N:Nat) (a b:List Int) (i:Int):aF env N 16 0 4 (Yr a b i)=bif decide (i < (↑(ints a).length:Int)) then bK (ints a) i fun e=>bK (ints b) i fun e_1=>iT IntKind.i64 e fun a_1=>iT IntKind.i64 e_1 fun b_1=>bif a_1 !=b_1 then ah.ok (Ex.ret,{tmps:=slots 26 [(4,.t (.bool false))],heap:=[]}) else ah.ok (Ex.norm,Yr a b (IntKind.i64.wrap (i+1))) else ah.ok (Ex.exit 0,{tmps:=slots 26 [],heap:=[]}):=by kernel_rfl
theorem acX (N:Nat) (b:Bool):aP env N 16 0 4 (aW env 16) (.ret) (⟨slots 26 [(4,.t (.bool b))],[]⟩)=rB b:=by kernel_rfl
theorem WB (N:Nat):aP env N 16 0 4 (aW env 16) (.exit 0) (⟨slots 26 [],[]⟩)=rB true:=by kernel_rfl
def adV (t:List Cf) (L K K2:List (List Ch)) (i:Int) (x:Px) (h h2:List Int) (b b2 a a2:Bool) (d:Nat→PV):St:=⟨[.t (.sl 6 (t.map Cf.t)),.t (.sl 1 (aK L)),.t (i64 i),d 3,d 4,d 5,d 6,.ptr 0 0,d 8,.t (.bool true),.t (.sl 1 (aK K)),.t (.bool b),.t (.sl 1 (aK K2)),.t (.bool b2),.t (.sl 1 (ints h)),.t (.bool a),.t (.sl 1 (ints h2)),.t (.bool a2),d 18,d 19,d 20,d 21,d 22,d 23,d 24,d 25,d 26,d 27,d 28,d 29,d 30,d 31,d 32,d 33,d 34,d 35,d 36,d 37,d 38,d 39,d 40,d 41,d 42,d 43,d 44,d 45,d 46,d 47,d 48,d 49,d 50,d 51,d 52,d 53,d 54,d 55,d 56,d 57,d 58,d 59,d 60,d 61,d 62,d 63,d 64,d 65,d 66,d 67,d 68,d 69,d 70,d 71,d 72,d 73,d 74,d 75,d 76,d 77,d 78,d 79,d 80,d 81,d 82,d 83,d 84,d 85,d 86,d 87,d 88,d 89,d 90,d 91,d 92,d 93,d 94,d 95,d 96,d 97,d 98,d 99],[.box 25 2 (.t x.t)]⟩
theorem aqH (N:Nat) (t:List Cf) (L K K2:List (List Ch)) (i:Int) (x:Px) (h h2:List Int) (b b2 a a2:Bool) (d:Nat→PV):y9 env N 3 8 (adV t L K K2 i x h h2 b b2 a a2 d)=bif !(b==b2&&true) then rB false else iw N 15 [T.sl 1 (aK K),T.sl 1 (aK K2)] fun b=>bif !b then rB false else bif !(a==a2&&true) then rB false else iw N 16 [T.sl 1 (ints h),T.sl 1 (ints h2)] fun b=>bif !b then rB false else cl N 17 [T.sl 6 (List.map Cf.t t)] fun x=>cl N 18 [T.sl 6 (List.map Cf.t t)] fun x_1=>iw N 15 [x,x_1] fun b=>bif b then cl N 19 [T.sl 6 (List.map Cf.t t),T.sl 1 (aK L)] fun x=>cl N 20 [T.sl 6 (List.map Cf.t t),T.sl 1 (aK L)] fun x_2=>iw N 15 [x,x_2] fun b=>bif b then cl N 21 [T.sl 6 (List.map Cf.t t),T.sl 1 (aK L)] fun x=>cl N 22 [T.sl 6 (List.map Cf.t t),T.sl 1 (aK L)] fun x_3=>match T.eX [1] [x] [x_3] with|some b=>rB b|none=>ah.stuck else rB false else rB false:=by kernel_rfl
end
section
open Go.RowKit Go.Proofs
theorem aby (x:Px):pF [] x=none:=by
 cases h:pF [] x with
 |none=>rfl
 |some p=>exact absurd (lU (oW.1 h)) (by simp)
theorem Xl (c:Cf) (x:Px):gu c (c.s.map fun _=>[]) x=gu c [] x:=by
 unfold gu
 split
 · congr 1
   rw[show min ([]:List (List En)).length c.s.length=0 by simp]
   simp only[List.range_zero,List.filterMap_nil]
   rw[List.filterMap_eq_nil_iff]
   intro k hk
   cases h:(c.s.map fun _=>([]:List En))[k]? with
   |none=>rfl
   |some l=>
    rw[List.getElem?_map] at h
    obtain⟨_,_,rfl⟩:=Option.map_eq_some_iff.1 h
    rw[Option.bind_some,aby]; rfl
 · rfl
theorem abJ (c:Cf):iM c (c.s.map fun _=>[])=iM c []:=by
 have hk:wX c (c.s.map fun _=>[])=wX c []:=by
  unfold wX iJ
  congr 2
  rw[List.take_nil,List.flatMap_nil,List.flatMap_eq_nil_iff]
  intro l hl
  obtain⟨_,_,rfl⟩:=List.mem_map.1 (List.mem_of_mem_take hl)
  rfl
 unfold iM
 rw[hk]
 exact congrArg (fun f=>(wX c []).filterMap f) (funext fun x=>by unfold jZ; rw[Xl])
theorem ahT {M:Nat} {l:List Ch} (hM:big+50≤M) (hl:cO Ch.ok l):ak env (M+1) 124 [.sl 8 (l.map Ch.t)]= .ok (.bool (qB l)):=by
 obtain⟨m,rfl⟩:=dJ (show 1≤M by omega)
 have hbg:=aU
 have hb:=hl.1
 rw[arJ,aX (gJ (dD (fun _ h=>Ch.ok.wf h) hl))]
 have rd:∀ j e,l[j]? =some e→aF env (m+1) 124 0 2 (TP l (j:Nat))=bif FU l j then .ok (.ret,⟨slots 36 [(2,.t (.bool false))],[]⟩) else .ok (.norm,TP l (j+1:Nat)):=fun j e hx=>by
  have hj:=(List.getElem?_eq_some_iff.1 hx).1
  have he:=hl.2 e (List.mem_of_getElem? hx)
  have hw:=wrap_succ (show j≤big by omega)
  rw[aea,decide_eq_true (by rw[List.length_map]; omega)]
  simp only[cond_true,aA (aC hx)]
  rw[Q7,bJ (wH (by omega) he.x),hw]
  unfold FU
  rw[hx]
  simp only[]
  cases hs:dB e.x with
  |false=>rfl
  |true=>
   simp only[Bool.not_true,cond_false,Bool.false_or]
   by_cases h0:0 < j
   · have hp:l[j - 1]? =some l[j - 1]:=List.getElem?_eq_getElem (by omega)
     rw[decide_eq_true (show(j:Int) > 0 by omega),decide_eq_true h0,hp,cond_true,Il h0 (by omega),aA (aC hp),Q7,nG (Qq (hl.2 _ (List.mem_of_getElem? hp)).x he.x)]
     simp only[Bool.true_and]
   · rw[decide_eq_false (show ¬ (j:Int) > 0 by omega),decide_eq_false h0]
     rfl
 have it:=fB (B:=aF env (m+1) 124 0 2) (S:=fun j=>TP l (j:Nat)) (R:=fun _=>⟨slots 36 [(2,.t (.bool false))],[]⟩) (X:=⟨slots 36 [],[]⟩) (id:=0) (FU l) l.length 0 (m+1) (by omega)
  (fun j _ hj hp=>by rw[rd j _ (List.getElem?_eq_getElem (by omega)),hp]; rfl) (fun j _ hj hp=>by rw[rd j _ (List.getElem?_eq_getElem (by omega)),hp]; rfl)
  (by rw[Nat.zero_add,aea,decide_eq_false (by rw[List.length_map]; omega)]; rfl)
 unfold qB
 cases hk:dF (FU l) 0 l.length with
 |some j=>
  rw[hk] at it
  exact(aQ it).trans (Zz (m+1) false)
 |none=>
  rw[hk] at it
  exact(aQ it).trans (Sz (m+1))
theorem amf {M:Nat} {c:Cf} {k:Int} {l:List Ch} (hM:big+70≤M) (hc:c.ok) (hk:aV k=true) (hl:cO Ch.ok l) (hb:(l.length+1)*64≤big):ak env (M+1) 82 [c.t,i64 k,.sl 8 (l.map Ch.t)]= .ok (.sl 6 ((uw c k l).map En.t)):=by
 obtain⟨m,rfl⟩:=dJ (show 1≤M by omega)
 have hbg:=aU
 rw[q82,aX (yG hc.wf (aZ hk) (dD (fun _ h=>Ch.ok.wf h) hl)),bJ (ahT (by omega) hl)]
 unfold uw
 cases hg:qB l with
 |false=>rw[if_neg (by simp)]; rfl
 |true=>
 rw[if_pos rfl]
 simp only[Bool.not_true,cond_false]
 have it:=fB (B:=aF env (m+1) 82 0 5) (S:=fun j=>agM c k l ((l.take j).filterMap fun e=>(jU c k e.x e.r).map (En.mk e.x)) (j:Nat)) (R:=fun _=>⟨[],[]⟩) (X:=⟨slots 48 [(7,.own 0)],[.row 104 6 ((l.filterMap fun e=>(jU c k e.x e.r).map (En.mk e.x)).map En.t)]⟩) (id:=0) (fun _=>false) l.length 0 (m+1) (by omega)
  (fun j _ hj hp=>by cases hp)
  (fun j _ hj hp=>by
   have hx:l[j]? =some l[j]:=List.getElem?_eq_getElem (by omega)
   generalize l[j]'(by omega)=e at hx
   have he:=hl.2 e (List.mem_of_getElem? hx)
   have hw:=wrap_succ (show j≤big by omega)
   have htk:l.take (j+1)=l.take j++ [e]:=by rw[List.take_add_one,hx]; rfl
   have hlen:((l.take j).filterMap fun e=>(jU c k e.x e.r).map (En.mk e.x)).length≤j:=by
    refine Nat.le_trans (List.length_filterMap_le _ _) ?_
    rw[List.length_take]; omega
   rw[htk,List.filterMap_append]
   generalize ((l.take j).filterMap fun e=>(jU c k e.x e.r).map (En.mk e.x))=ys at hlen
   have hby:decide (((ys.map En.t).length+1)*64≤140737488355328)=true:=decide_eq_true (by rw[List.length_map]; omega)
   rw[ajX,decide_eq_true (by rw[List.length_map]; omega)]
   simp only[cond_true,aA (aC hx)]
   rw[Q7,aj1,aH (ahU (by omega) hc hk he.x he.r),hw]
   cases ho:jU c k e.x e.r with
   |none=>
    rw[show[e].filterMap (fun e=>(jU c k e.x e.r).map (En.mk e.x))= [] by simp[ho],List.append_nil]
    rfl
   |some p=>
    rw[show[e].filterMap (fun e=>(jU c k e.x e.r).map (En.mk e.x))= [⟨e.x,p⟩] by simp[ho]]
    unfold agM
    rw[List.map_append]
    show chk true (chk true (chk true (chk _ _)))=_
    rw[hby]
    rfl)
  (by rw[Nat.zero_add,List.take_length,ajX,decide_eq_false (by rw[List.length_map]; omega)]; rfl)
 rw[Ar] at it
 exact(aQ it).trans (Xd (m+1) _)
theorem adp {t:List Cf} {L:List (List Ch)} {i:Nat} {c:Cf} (h:nZ t L) (hc:t[i]? =some c):DY (jm t L i c)∧uY c (jm t L i c):=by
 have hbg:=aU
 obtain⟨g1,g2⟩:=h.sides c (List.mem_of_getElem? hc)
 refine⟨⟨?_,fun l hl=>?_⟩,OD g1 g2 fun k=>(h.side i k).2⟩
 · unfold jm; rw[List.length_map,List.length_range]; omega
 · obtain⟨k,_,rfl⟩:=List.mem_map.1 hl
   exact(h.side i k).1
theorem al1 {M:Nat} {t:List Cf} {L:List (List Ch)} {i:Nat} {c:Cf} (hM:big+80≤M) (h:nZ t L) (hc:t[i]? =some c):ak env (M+1) 47 [.sl 6 (t.map Cf.t),.sl 1 (aK L),i64 i]= .ok (.sl 1 (fP (jm t L i c))):=by
 obtain⟨m,rfl⟩:=dJ (show 1≤M by omega)
 have hbg:=aU
 have htb:=h.ft.1
 have hi:=(List.getElem?_eq_some_iff.1 hc).1
 obtain⟨g1,g2⟩:=h.sides c (List.mem_of_getElem? hc)
 rw[q47,aX (yG (jo h.ft) (nD h.fL) (aZ (fZ (by omega))))]
 have it:=fB (B:=aF env (m+1) 47 0 3) (S:=fun k=>RH t L i (fP ((List.range k).map (lK t L i))) (k:Nat)) (R:=fun _=>⟨[],[]⟩) (X:=⟨slots 46 [(7,.own 0)],[.row 75 1 (fP (jm t L i c))]⟩) (id:=0) (fun _=>false) c.s.length 0 (m+1) (by omega)
  (fun k _ hk hp=>by cases hp)
  (fun k _ hk hp=>by
   have hw:=wrap_succ (show k≤big by omega)
   have hlen:(fP ((List.range k).map (lK t L i))).length≤1000:=by
    unfold fP; rw[List.length_map,List.length_map,List.length_range]; omega
   have hst:fP ((List.range (k+1)).map (lK t L i))=fP ((List.range k).map (lK t L i))++ [.sl 6 ((lK t L i k).map En.t)]:=by
    rw[List.range_succ,List.map_append]
    unfold fP
    rw[List.map_append]; rfl
   rw[hst]
   generalize fP ((List.range k).map (lK t L i))=ys at hlen
   have hby:decide ((ys.length+1)*24≤140737488355328)=true:=decide_eq_true (by omega)
   rw[ajM,aA (aC hc),IL]
   simp only[iO]
   rw[decide_eq_true (by rw[List.length_map]; omega),cond_true,aH (aeJ (by omega) h.ft (fZ (by omega)) (fZ (by omega))),hw,hby]
   unfold lK
   cases hf:gB t i k with
   |none=>rfl
   |some p=>
    obtain⟨j,mm⟩:=p
    obtain⟨hj,hmm⟩:=aeS hi (fun c hc=>(h.sides c hc).1) hf
    have hd:t[j]? =some t[j]:=List.getElem?_eq_getElem hj
    simp only[MG,BU,BX,Option.map_some,Option.getD_some,aG,List.getElem?_cons_zero,List.getElem?_cons_succ,Option.isSome_some,bT,cond_true,o9]
    rw[aA (aC hd),aH (aeI h.fL (by omega))]
    obtain⟨k1,k2⟩:=h.at j
    rw[aH (amf (by omega) (h.ft.2 _ (List.mem_of_getElem? hd)) (fZ (by omega)) k1 (by omega)),hd]
    rfl)
  (by
   rw[Nat.zero_add,ajM,aA (aC hc),IL]
   simp only[iO]
   rw[decide_eq_false (by rw[List.length_map]; omega)]; rfl)
 rw[Ar] at it
 exact(aQ it).trans (WS (m+1) _)
theorem aeA {M:Nat} {t:List Cf} (hM:big+85≤M) (ht:cO Cf.ok t) (hs:∀ c∈t,c.s.length≤1000∧c.w.length≤1000):ak env (M+1) 18 [.sl 6 (t.map Cf.t)]= .ok (.sl 1 (aK (oP t))):=by
 obtain⟨m,rfl⟩:=dJ (show 1≤M by omega)
 have hbg:=aU
 have htb:=ht.1
 rw[q18,aX (gJ (jo ht))]
 unfold oP
 by_cases h8:t.length≤8
 case neg=>
  rw[if_neg h8]
  have e:aF env (m+1) 18 0 3 (RI t [] 0)= .ok (.exit 0,⟨slots 25 [(3,.own 0)],[.row 40 1 []]⟩):=by
   rw[adG,decide_eq_true (by rw[List.length_map]; omega),decide_eq_false (by rw[List.length_map]; omega)]; rfl
  exact(aQ (dV e)).trans (Ih (m+1) _)
 rw[if_pos h8]
 have it:=fB (B:=aF env (m+1) 18 0 3) (S:=fun i=>RI t (aK ((t.take i).map fun c=>iM c (c.s.map fun _=>[]))) (i:Nat)) (R:=fun _=>⟨[],[]⟩) (X:=⟨slots 25 [(3,.own 0)],[.row 40 1 (aK (t.map fun c=>iM c (c.s.map fun _=>[])))]⟩) (id:=0) (fun _=>false) t.length 0 (m+1) (by omega)
  (fun k _ hk hp=>by cases hp)
  (fun i _ hi hp=>by
   have hc:t[i]? =some t[i]:=List.getElem?_eq_getElem (by omega)
   have hco:=ht.2 _ (List.mem_of_getElem? hc)
   obtain⟨g1,g2⟩:=hs _ (List.mem_of_getElem? hc)
   have htk:t.take (i+1)=t.take i++ [t[i]]:=by rw[List.take_add_one,hc]; rfl
   have hlen:(aK ((t.take i).map fun c=>iM c (c.s.map fun _=>[]))).length≤i:=by
    rw[D9,List.length_map,List.length_take]; omega
   rw[htk,List.map_append]
   rw[show aK ((t.take i).map (fun c=>iM c (c.s.map fun _=>[]))++ [t[i]].map fun c=>iM c (c.s.map fun _=>[]))=aK ((t.take i).map fun c=>iM c (c.s.map fun _=>[]))++ [.sl 8 ((iM t[i] (t[i].s.map fun _=>[])).map Ch.t)] from List.map_append]
   generalize aK ((t.take i).map fun c=>iM c (c.s.map fun _=>[]))=ys at hlen
   generalize t[i]=c at hc hco g1 g2
   have hby:decide ((ys.length+1)*24≤140737488355328)=true:=decide_eq_true (by omega)
   have hrm:uY c []:=by unfold uY iJ; rw[List.take_nil,List.flatMap_nil,List.append_nil]; omega
   rw[adG,decide_eq_true (by rw[List.length_map]; omega),decide_eq_true (by rw[List.length_map]; omega),cond_true,cond_true,aA (aC hc)]
   refine Eq.trans (show _=cl (m+1) 44 [c.t,.sl 1 (fP [])] _ from rfl) ?_
   rw[aH (aeL (by omega) hco ⟨Nat.zero_le _,fun l hl=>by cases hl⟩ hrm),abJ,hby,wrap_succ (show i≤big by omega)]
   rfl)
  (by rw[Nat.zero_add,adG,decide_eq_false (by rw[List.length_map]; omega),List.take_length]; rfl)
 rw[Ar] at it
 exact(aQ it).trans (Ih (m+1) _)
theorem aeC {M:Nat} {t:List Cf} {L:List (List Ch)} (hM:big+85≤M) (h:nZ t L):ak env (M+1) 20 [.sl 6 (t.map Cf.t),.sl 1 (aK L)]= .ok (.sl 1 (aK (nextR t L))):=by
 obtain⟨m,rfl⟩:=dJ (show 1≤M by omega)
 have hbg:=aU
 have htb:=h.ft.1
 rw[q20,aX (dM (jo h.ft) (nD h.fL))]
 unfold nextR
 by_cases h8:t.length≤8
 case neg=>
  rw[if_neg h8]
  have e:aF env (m+1) 20 0 3 (RN t L [] 0)= .ok (.exit 0,⟨slots 31 [(5,.own 0)],[.row 40 1 []]⟩):=by
   rw[adH,decide_eq_true (by rw[List.length_map]; omega),decide_eq_false (by rw[List.length_map]; omega)]; rfl
  exact(aQ (dV e)).trans (Ii (m+1) _)
 rw[if_pos h8]
 have hz:t.zipIdx.length=t.length:=List.length_zipIdx
 have it:=fB (B:=aF env (m+1) 20 0 3) (S:=fun i=>RN t L (aK ((t.zipIdx.take i).map fun p=>iM p.1 (jm t L p.2 p.1))) (i:Nat)) (R:=fun _=>⟨[],[]⟩) (X:=⟨slots 31 [(5,.own 0)],[.row 40 1 (aK (t.zipIdx.map fun p=>iM p.1 (jm t L p.2 p.1)))]⟩) (id:=0) (fun _=>false) t.length 0 (m+1) (by omega)
  (fun k _ hk hp=>by cases hp)
  (fun i _ hi hp=>by
   have hc:t[i]? =some t[i]:=List.getElem?_eq_getElem (by omega)
   have hzi:t.zipIdx[i]? =some (t[i],i):=by rw[List.getElem?_zipIdx,hc]; simp
   have hco:=h.ft.2 _ (List.mem_of_getElem? hc)
   have htk:t.zipIdx.take (i+1)=t.zipIdx.take i++ [(t[i],i)]:=by rw[List.take_add_one,hzi]; rfl
   have hlen:(aK ((t.zipIdx.take i).map fun p=>iM p.1 (jm t L p.2 p.1))).length≤i:=by
    rw[D9,List.length_map,List.length_take]; omega
   rw[htk,List.map_append]
   rw[show aK ((t.zipIdx.take i).map (fun p=>iM p.1 (jm t L p.2 p.1))++ [(t[i],i)].map fun p=>iM p.1 (jm t L p.2 p.1))=aK ((t.zipIdx.take i).map fun p=>iM p.1 (jm t L p.2 p.1))++ [.sl 8 ((iM t[i] (jm t L i t[i])).map Ch.t)] from List.map_append]
   generalize aK ((t.zipIdx.take i).map fun p=>iM p.1 (jm t L p.2 p.1))=ys at hlen
   generalize t[i]=c at hc hco
   have hby:decide ((ys.length+1)*24≤140737488355328)=true:=decide_eq_true (by omega)
   obtain⟨k1,k2⟩:=adp h hc
   rw[adH,decide_eq_true (by rw[List.length_map]; omega),decide_eq_true (by rw[List.length_map]; omega),cond_true,cond_true,aA (aC hc)]
   refine Eq.trans (show _=cl (m+1) 47 [.sl 6 (t.map Cf.t),.sl 1 (aK L),i64 (i:Nat)] _ from rfl) ?_
   rw[aH (al1 (by omega) h hc),aH (aeL (by omega) hco k1 k2),hby,wrap_succ (show i≤big by omega)]
   rfl)
  (by rw[Nat.zero_add,adH,decide_eq_false (by rw[List.length_map]; omega),←hz,List.take_length]; rfl)
 rw[Ar] at it
 exact(aQ it).trans (Ii (m+1) _)
theorem alQ {M:Nat} {t:List Cf} {L:List (List Ch)} (hM:big+90≤M) (h:nZ t L) (h':cO (cO Ch.ok) (nextR t L)):ak env (M+1) 22 [.sl 6 (t.map Cf.t),.sl 1 (aK L)]= .ok (.bool (nP t L)):=by
 obtain⟨m,rfl⟩:=dJ (show 1≤M by omega)
 rw[q22,aX (dM (jo h.ft) (nD h.fL))]
 unfold nP
 by_cases h8:t.length≤8
 case neg=>rw[decide_eq_false (show ¬ ((t.map Cf.t).length:Int)≤8 by rw[List.length_map]; omega),decide_eq_false h8]; rfl
 rw[decide_eq_true (show((t.map Cf.t).length:Int)≤8 by rw[List.length_map]; omega),decide_eq_true h8,cond_true,Bool.true_and]
 by_cases hl:L.length=t.length
 · rw[beq_iff_eq.2 (show((L.map fun l=>T.sl 8 (l.map Ch.t)).length:Int)=((t.map Cf.t).length:Int) by rw[List.length_map,List.length_map,hl]),cond_true,aH (aeC (by omega) h),aH (OO (by omega) h' h.fL)]
 · rw[beq_eq_false_iff_ne.2 (show((L.map fun l=>T.sl 8 (l.map Ch.t)).length:Int)≠((t.map Cf.t).length:Int) by rw[List.length_map,List.length_map]; omega),cond_false,decide_eq_false (fun e=>hl (by rw[←e]; exact sV h8))]
theorem Home.Yf {t:List Cf} {U:List Px} (h:Home t U) {L:List (List Ch)} (hL:o8 U L) {M:Nat} (hM:big+85≤M):ak env (M+1) 20 [.sl 6 (t.map Cf.t),.sl 1 (aK L)]= .ok (.sl 1 (aK (nextR t L))):=aeC hM (h.room hL)
theorem Home.akM {t:List Cf} {U:List Px} (h:Home t U) {L:List (List Ch)} (hL:o8 U L) {M:Nat} (hM:big+90≤M):ak env (M+1) 22 [.sl 6 (t.map Cf.t),.sl 1 (aK L)]= .ok (.bool (nP t L)):=alQ hM (h.room hL) (h.room (h.next hL)).fL
theorem LV {m:Nat} {t:List Cf} {U:List Px} (h:Home t U) (hM:big+100≤m):∀ (d n:Nat) (L:List (List Ch)) (r:Nat),n+d=jQ t.length→o8 U L→d < r→
 bF (aF env m 12 0 3) r (Yv t L n)= .ok (.exit 0,⟨slots 28 [(0,.t (.sl 6 (t.map Cf.t))),(4,.t (.sl 1 (aK (lI t d L).1)))],[]⟩)
 |d,n,L,r+1,hd,hL,hr=>by
  obtain⟨m,rfl⟩:=dJ (show 1≤m by omega)
  have hbg:=aU
  have hbl:=JF t.length
  have hb:=aoL (m+1) t L n
  rw[show(((t.map Cf.t).length:Nat):Int)=(t.length:Int) by rw[List.length_map],nG (alV h.ft.1)] at hb
  cases d with
  |zero=>
   rw[decide_eq_false (show ¬ (n:Int) < (jQ t.length:Int) by omega)] at hb
   exact dV hb
  |succ d=>
   rw[decide_eq_true (show(n:Int) < (jQ t.length:Int) by omega),cond_true,bJ (h.akM hL (by omega))] at hb
   unfold lI
   by_cases hf:nP t L=true
   · rw[if_pos hf]
     rw[hf] at hb
     exact dV hb
   · rw[if_neg hf]
     rw[show nP t L=false by simpa using hf,Bool.not_false,cond_true,aH (h.Yf hL (by omega)),wrap_succ (show n≤big by omega)] at hb
     have hb2:aF env (m+1) 12 0 3 (Yv t L n)= .ok (.norm,Yv t (nextR t L) (n+1:Nat)):=hb
     rw[bf hb2]
     exact LV h hM d (n+1) (nextR t L) r (by omega) (h.next hL) (by omega)
theorem Home.apw {t:List Cf} {U:List Px} (h:Home t U) {M:Nat} (hM:big+260≤M):ak env (M+1) 12 [.sl 6 (t.map Cf.t)]= .ok (.au [.sl 1 (aK (uZ t).1),.bool (uZ t).2]):=by
 obtain⟨m,rfl⟩:=dJ (show 1≤M by omega)
 have hbg:=aU
 have hbl:=JF t.length
 rw[q12,aX (gJ (jo h.ft)),aH (aeA (by omega) h.ft h.sides)]
 have it:=LV (m:=m+1) h (by omega) (jQ t.length) 0 (oP t) (m+1) (by omega) h.first (by omega)
 refine(aQ it).trans ((Wy (m+1) t _).trans ?_)
 rw[aH (h.akM (h.from_ h.first (jQ t.length)) (by omega)),←JK]
 rfl
theorem KR {m:Nat} {t:List Cf} {L:List (List Ch)} {x:Px} (hM:big+40≤m) (h:nZ t L) (hx:x.ok):∀ (d i:Nat) (ys:List Nat) (n:Nat),9≤ys.length+d→ys.length≤8→i < t.length→d < n→
 bF (aF env (m+1) 14 0 4) n (ND t L i x (nR ys))= .ok (.ret,⟨slots 68 [(8,.own 0),(9,.t (.bool (zl t L x d ys i).2))],[.row 3 1 (ints (nR (zl t L x d ys i).1))]⟩)
 |0,i,ys,n,h9,h8,_,_=>by omega
 |d+1,i,ys,n+1,h9,h8,hi,hn=>by
  have hbg:=aU
  have htb:=h.ft.1
  obtain⟨g1,g2⟩:=h.at i
  have hb:aF env (m+1) 14 0 4 (ND t L i x (nR ys))=_:=aoN (m+1) t L i x (nR ys)
  rw[aH (aeI h.fL (by omega)),aH (alW (by omega) g1 hx)] at hb
  unfold zl
  cases hg:pz (L.getD i []) x with
  |none=>
   rw[hg] at hb
   exact dR hb
  |some r=>
   rw[hg] at hb
   have hro:r.ok:=by
    obtain⟨e,he,h1,_⟩:=KQ hg
    rw[←h1]; exact(g1.2 e he).r
   simp only[I5,aG,List.getElem?_cons_zero,List.getElem?_cons_succ,bT,Bool.not_true,cond_false] at hb
   rw[tq,aN,show r.t.ay 5 1 false=i64 r.f from rfl] at hb
   simp only[dI] at hb
   by_cases hf:r.f < 0
   · rw[decide_eq_true hf,cond_true] at hb
     simp only[]
     rw[if_pos hf]
     exact dR hb
   · rw[decide_eq_false hf,cond_false,aH (aeJ (by omega) h.ft (fZ (by omega)) hro.f)] at hb
     simp only[]
     rw[if_neg hf]
     cases hfr:gB t i r.f with
     |none=>
      rw[hfr] at hb
      exact dR hb
     |some p=>
      rw[hfr] at hb
      obtain⟨j,k⟩:=p
      have hj:=XE hfr
      simp only[MG,BU,BX,Option.map_some,Option.getD_some,aG,List.getElem?_cons_zero,List.getElem?_cons_succ,Option.isSome_some,bT,Bool.not_true,cond_false] at hb
      simp only[]
      have hyl:((ints (nR ys)).length:Int)=(ys.length:Int):=by simp[ints,nR]
      rw[hyl] at hb
      by_cases h88:ys.length=8
      · rw[if_pos h88]
        rw[beq_iff_eq.2 (show(ys.length:Int)=8 by omega),cond_true] at hb
        exact dR hb
      · rw[if_neg h88]
        rw[beq_eq_false_iff_ne.2 (show(ys.length:Int)≠8 by omega),cond_false] at hb
        have hby:decide (((ints (nR ys)).length+1)*8≤140737488355328)=true:=decide_eq_true (by simp only[ints,nR,List.length_map]; omega)
        rw[hby] at hb
        have hb2:aF env (m+1) 14 0 4 (ND t L i x (nR ys))= .ok (.norm,ND t L j x (nR (ys++ [j]))):=by
         rw[hb]
         unfold ND ints nR
         rw[List.map_append,List.map_append]
         rfl
        rw[bf hb2]
        exact KR hM h hx d j (ys++ [j]) n (by simp; omega) (by simp; omega) hj (by omega)
theorem alN {M:Nat} {t:List Cf} {L:List (List Ch)} {i:Int} {x:Px} (hM:big+45≤M) (h:nZ t L) (hi:aV i=true) (hx:x.ok):ak env (M+1) 14 [.sl 6 (t.map Cf.t),.sl 1 (aK L),i64 i,x.t]= .ok (.au [.sl 1 (ints (nR (rZ t L i x).1)),.bool (rZ t L i x).2]):=by
 obtain⟨m,rfl⟩:=dJ (show 1≤M by omega)
 have hbg:=aU
 rw[q14,aX (by
  have h1:=jo h.ft; have h2:=nD h.fL; have h3:=aZ hi; have h4:=hx.wf
  simp only[T.wfs,h1,h2,h3,h4,Bool.and_self])]
 unfold rZ
 by_cases h0:i < 0
 · rw[decide_eq_true h0,if_neg (by omega)]; rfl
 rw[decide_eq_false h0]
 by_cases h1:i≥t.length
 · rw[decide_eq_true (by rw[List.length_map]; omega),if_neg (by omega)]; rfl
 rw[decide_eq_false (by rw[List.length_map]; omega)]
 by_cases h8:t.length≤8
 case neg=>rw[decide_eq_true (by rw[List.length_map]; omega),if_neg (by omega)]; rfl
 rw[decide_eq_false (by rw[List.length_map]; omega),if_pos ⟨by omega,by omega,h8⟩]
 obtain⟨i,rfl⟩:∃ n:Nat,i=n:=⟨i.toNat,by omega⟩
 rw[Int.toNat_natCast]
 simp only[cond_false]
 have it:=KR (m:=m) (by omega) h hx 9 i [i] (m+1) (by simp) (by simp) (by omega) (by omega)
 exact(aQ it).trans (acV (m+1) _ _)
theorem alO {M:Nat} {a b:List Int} (hM:big+1≤M) (ha:a.length≤big) (hb:b.length≤big) (ha2:∀ v∈a,aV v=true) (hb2:∀ v∈b,aV v=true):ak env (M+1) 16 [.sl 1 (ints a),.sl 1 (ints b)]= .ok (.bool (decide (a=b))):=by
 have hl:∀ l:List Int,(ints l).length=l.length:=fun l=>by simp[ints]
 rw[q16,aX (dM (aaC ha ha2) (aaC hb hb2)),←Ac (q:=fun a b=>decide (a=b)) (by simp) a b,hl,hl]
 by_cases h:a.length=b.length
 · rw[if_pos h,show((a.length:Int) !=(b.length:Int))=false by rw[h]; simp]
   simp only[cond_false]
   refine zZ (S:=fun i=>Yr a b (i:Int)) (R:=⟨slots 26 [(4,.t (.bool false))],[]⟩) (X:=⟨slots 26 [],[]⟩) (id:=0) _ (by omega) h (fun j x y hx hy=>?_) ?_ (acX M false) (WB M)
   · have hj:j < a.length:=(List.getElem?_eq_some_iff.1 hx).1
     rw[ajC,decide_eq_true (by rw[hl]; omega)]
     simp only[cond_true]
     rw[aA (iV hx),aA (iV hy)]
     simp only[dI]
     rw[wrap_succ (show j≤big by omega),show(x !=y)= !decide (x=y) by by_cases e:x=y<;>simp[e]]
   · rw[ajC,decide_eq_false (by rw[hl]; omega)]; rfl
 · rw[if_neg h,show((a.length:Int) !=(b.length:Int))=true by simp; omega]; rfl
end
section
open Go.RowKit Go.Proofs
theorem UG {t:List Cf} {L:List (List Ch)} {x:Px}:∀ (d:Nat) (ys:List Nat) (i:Nat),ys.length≤8→t.length≤8→(∀ y∈ys,y≤8)→(zl t L x d ys i).1.length≤8∧∀ y∈(zl t L x d ys i).1,y≤8
 |0,ys,i,h1,_,h2=>⟨h1,h2⟩
 |d+1,ys,i,h1,h8,h2=>by
  unfold zl
  cases pz (L.getD i []) x with
  |none=>exact⟨h1,h2⟩
  |some r=>
   simp only[]
   split
   · exact⟨h1,h2⟩
   · cases hf:gB t i r.f with
     |none=>exact⟨h1,h2⟩
     |some p=>
      obtain⟨j,k⟩:=p
      have hj:=XE hf
      simp only[]
      split
      · exact⟨h1,h2⟩
      · refine UG d (ys++ [j]) j (by rw[List.length_append,List.length_singleton]; omega) h8 fun y hy=>?_
        rcases List.mem_append.1 hy with hy|hy
        · exact h2 y hy
        · rw[List.mem_singleton.1 hy]; omega
theorem UF {t:List Cf} {L:List (List Ch)} {x:Px} {i:Int}:(nR (rZ t L i x).1).length≤big∧∀ v∈nR (rZ t L i x).1,aV v=true:=by
 have hbg:=aU
 have h:(rZ t L i x).1.length≤8∧∀ y∈(rZ t L i x).1,y≤8:=by
  unfold rZ
  split
  · rename_i h
    exact UG _ _ _ (by simp) h.2.2 fun y hy=>by rw[List.mem_singleton.1 hy]; omega
  · exact⟨Nat.zero_le _,fun y hy=>by cases hy⟩
 refine⟨by unfold nR; rw[List.length_map]; omega,fun v hv=>?_⟩
 unfold nR at hv
 obtain⟨y,hy,rfl⟩:=List.mem_map.1 hv
 exact fZ (by have:=h.2 y hy; omega)
theorem afD {m:Nat} {t:List Cf} {U:List Px} {L K:List (List Ch)} {i:Int} {x:Px} {h:List Int} {b a:Bool} {d:Nat→PV} (hM:big+300≤m) (hh:Home t U) (hL:o8 U L) (hK:o8 U K) (h1:h.length≤big) (h2:∀ v∈h,aV v=true):y9 env (m+1) 3 8 (adV t L K K i x h h b b a a d)= .ok (.bool true):=by
 have hbg:=aU
 rw[aqH,show(!(b==b&&true))=false by simp,show(!(a==a&&true))=false by simp,cond_false]
 rw[bJ (OO (by omega) (hh.room hK).fL (hh.room hK).fL),decide_eq_true rfl,Bool.not_true,cond_false,cond_false,bJ (alO (by omega) h1 h1 h2 h2),decide_eq_true rfl,Bool.not_true,cond_false]
 rw[aH (XA (by omega) hh.ft hh.sides),aH (aeA (by omega) hh.ft hh.sides),bJ (OO (by omega) (hh.room hh.first).fL (hh.room hh.first).fL),decide_eq_true rfl,cond_true]
 rw[aH (hh.nexts hL (by omega)),aH (hh.Yf hL (by omega)),bJ (OO (by omega) (hh.room (hh.next hL)).fL (hh.room (hh.next hL)).fL),decide_eq_true rfl,cond_true]
 rw[aH (hh.fixed hL (by omega)),aH (hh.akM hL (by omega))]
 simp only[T.eX,Option.map_some,beq_self_eq_true,Bool.and_true]
theorem aoS {M:Nat} {t:List Cf} {L:List (List Ch)} {i:Int} {x:Px} (hM:big+330≤M) (ht:cO Cf.ok t) (hL:cO (cO Ch.ok) L) (hi:aV i=true) (hx:x.ok):ak env (M+1) 3 [.sl 6 (t.map Cf.t),.sl 1 (aK L),i64 i,x.t]= .ok (.bool true):=by
 obtain⟨m,rfl⟩:=dJ (show 1≤M by omega)
 have hbg:=aU
 refine(Dc rfl (by
  have h1:=jo ht; have h2:=nD hL; have h3:=aZ hi; have h4:=hx.wf
  simp only[T.wfs,h1,h2,h3,h4,Bool.and_self])).trans ?_
 refine(FT 8).trans ?_
 have key:∀ Kc:St→ah T,(∀ U:List Px,Home t U→o8 U L→∀ st:St,st=adV t L (uZ t).1 (uZ t).1 i x (nR (rZ t L i x).1) (nR (rZ t L i x).1) (uZ t).2 (uZ t).2 (rZ t L i x).2 (rZ t L i x).2 (fun i=>st.tmps.getD i .junk)→Kc st= .ok (.bool true))→Nk env (m+1) 3 0 8 (oq env 3 [.t (.sl 6 (t.map Cf.t)),.t (.sl 1 (aK L)),.t (i64 i),.t (x.t)]) Kc= .ok (.bool true):=fun Kc hKc=>?_
 · exact key _ fun U hh hfl st hst=>by rw[hst]; exact afD (by omega) hh hfl (hh.from_ hh.first (jQ t.length)) UF.1 UF.2
 rw[aqz,aH (aoT (by omega)),aH (aoU (by omega) ht)]
 simp only[bT]
 cases h1:Jh t with
 |false=>rfl
 |true=>
 simp only[Bool.not_true,cond_false]
 rw[aH (alK (by omega) hL)]
 simp only[bT]
 cases h2:OV L with
 |false=>rfl
 |true=>
 obtain⟨hh,hfl⟩:=Uu ht hL h1 h2
 simp only[Bool.not_true,cond_false]
 rw[aH (hh.stable (by omega))]
 simp only[aG,List.getElem?_cons_zero,List.getElem?_cons_succ]
 rw[aH (hh.apw (by omega))]
 simp only[aG,List.getElem?_cons_zero,List.getElem?_cons_succ]
 refine Eq.trans (show _=cl (m+1) 13 [.sl 6 (t.map Cf.t),.sl 1 (aK L),i64 i,x.t] _ from rfl) ?_
 rw[aH (aez (by omega) (hh.room hfl) hi hx)]
 simp only[aG,List.getElem?_cons_zero,List.getElem?_cons_succ]
 refine Eq.trans (show _=cl (m+1) 14 [.sl 6 (t.map Cf.t),.sl 1 (aK L),i64 i,x.t] _ from rfl) ?_
 rw[aH (alN (by omega) (hh.room hfl) hi hx)]
 simp only[aG,List.getElem?_cons_zero,List.getElem?_cons_succ]
 exact hKc _ hh hfl _ rfl
end
end Go.aT
