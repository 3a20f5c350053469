/- The texts of a proof, one behind the other: an interpreter and its soundness, what the functions of the program answer, and plain laws on that. -/
import Derived.Test.YtjlpnhpfbgbkhaaGreatX7
import Derived.Test.YtjlpnhpfbgbkhaaGreatX4
import Derived.Test.YtjlpnhpfbgbkhaaGreatX6
import Derived.Test.YtjlpnhpfbgbkhaaGreatX1
import Derived.Test.YtjlpnhpfbgbkhaaGreatK9
import Derived.Test.YtjlpnhpfbgbkhaaGreatX5
set_option linter.unusedVariables false
set_option linter.unusedSimpArgs false
set_option linter.unnecessarySimpa false
set_option linter.unusedSectionVars false
set_option maxRecDepth 100000
namespace Go.aT
section
open Go.RowKit Go.Proofs
variable [Lv]
theorem Qn (a b:Int):aV (dw a b)=true:=alE a b
def nzI (s:List Int) (i:Nat):Bool:=match s[i]? with|some x=>x !=0|none=>false
theorem Ae {β:Type} {N:Nat} {g:FuncId} {ts:List T} {x:T} {K:T→ah β} (h:env.mode g=0) (hx:ak env N g ts= .ok x):oJ env (aJ env N) (.fn g [] []) ts K=K x:=(lN h).trans (by rw[List.nil_append,List.append_nil]; exact aH hx)
theorem aiD {M:Nat} {s:List En} {g:FuncId} {q:En→Bool} (hM:big+1≤M) (hl:s.length≤big) (hs:∀ i∈s,(En.t i).wf=true) (hm:env.mode g=0) (hq:∀ i∈s,ak env M g [En.t i]= .ok (.bool (q i))):
 ∃ k,ak env (M+1) 229 [.sl 6 (s.map En.t),.fn g [] []]= .ok (i64 (rH k))∧k.isSome=s.any q:=by
 have hln:(s.map En.t).length=s.length:=by simp
 rw[as3,dM (wZ hl hs) (II g)]
 simp only[cond_true,bC]
 have hget:∀ j,j < s.length→∃ x,s[j]? =some x∧x∈s:=fun j hj=>⟨s[j],List.getElem?_eq_getElem hj,List.getElem_mem _⟩
 have hstep:∀ (j:Nat) x,s[j]? =some x→aF env M 229 0 2 ⟨slots 19 [(0,.t (.sl 6 (s.map En.t))),(1,.t (.fn g [] [])),(7,.t (i64 ((s.map En.t).length:Int))),(8,.t (i64 (j:Int)))],[]⟩=
  bif q x then .ok (.ret,⟨slots 19 [(4,.t (i64 (j:Int)))],[]⟩) else .ok (.norm,⟨slots 19 [(0,.t (.sl 6 (s.map En.t))),(1,.t (.fn g [] [])),(7,.t (i64 ((s.map En.t).length:Int))),(8,.t (i64 ((j+1:Nat):Int)))],[]⟩):=fun j x hx=>by
  have hj:j < s.length:=(List.getElem?_eq_some_iff.1 hx).1
  rw[aeo,decide_eq_true (by rw[hln]; omega)]
  simp only[cond_true,aA (aC hx)]
  rw[show ∀ K:T→ah (Ex×St),oJ env (aJ env M) (.fn g [] []) [En.t x] K=(ak env M g [En.t x]).bind K from fun K=>by simp[oJ,hm,aJ]]
  rw[hq x (List.mem_of_getElem? hx)]
  simp only[ah.bind_ok,jW,wrap_succ (show j≤big by omega)]
 have:=fB (B:=aF env M 229 0 2) (S:=fun i=>⟨slots 19 [(0,.t (.sl 6 (s.map En.t))),(1,.t (.fn g [] [])),(7,.t (i64 ((s.map En.t).length:Int))),(8,.t (i64 (i:Int)))],[]⟩) (R:=fun i=>⟨slots 19 [(4,.t (i64 (i:Int)))],[]⟩) (X:=⟨slots 19 [],[]⟩) (id:=0)
  (fun i=>match s[i]? with|some x=>q x|none=>false) s.length 0 M (by omega) (fun j _ hj hp=>by
   obtain⟨x,hx,_⟩:=hget j (by omega)
   simp only[hx] at hp
   rw[hstep j x hx,hp]; rfl) (fun j _ hj hp=>by
   obtain⟨x,hx,_⟩:=hget j (by omega)
   simp only[hx] at hp
   rw[hstep j x hx,hp]; rfl) (by rw[aeo,decide_eq_false (by rw[hln]; omega)]; rfl)
 refine⟨dF (fun i=>match s[i]? with|some x=>q x|none=>false) 0 s.length,?_,acK fun i x hx=>by simp only[hx]⟩
 rw[show(i64 (0:Int))=i64 ((0:Nat):Int) from rfl]
 rw[this]
 cases dF (fun i=>match s[i]? with|some x=>q x|none=>false) 0 s.length with
 |none=>simp only[ah.bind_ok,Ti,rH]
 |some j=>simp only[ah.bind_ok,ZO,rH]
theorem aiw {M:Nat} {e:En} (h:e.ok) (hM:big+5≤M):ak env (M+1) 211 [e.t]= .ok (.bool (OE e)):=by
 obtain⟨m,rfl⟩:∃ m,M=m+1:=⟨M - 1,by omega⟩
 have hw:=gJ h.wf
 have h1:=x9 (M:=m) h.x (by omega)
 have h2:=Qx (M:=m) (by omega) h.p
 simp only[En.t,Px.t,Pa.t] at hw h1 h2 ⊢
 rw[asK,hw]
 simp only[cond_true,List.drop,List.take]
 rw[h1,h2]
 simp only[ah.bind_ok,jW,OE]
 cases dB e.x<;>rfl
theorem aix {M:Nat} {l:List En} (hM:big+8≤M) (hl:l.length≤big) (hs:∀ e∈l,e.ok):ak env (M+1) 212 [.sl 6 (l.map En.t),.fn 211 [] []]= .ok (.bool (l.any OE)):=by
 obtain⟨m,rfl⟩:∃ m,M=m+1:=⟨M - 1,by omega⟩
 obtain⟨m',rfl⟩:∃ m',m=m'+1:=⟨m - 1,by omega⟩
 obtain⟨k,h1,h2⟩:=aiD (M:=m'+1) (g:=211) (q:=OE) (by omega) hl (fun e he=>(hs e he).wf) rfl (fun e he=>aiw (hs e he) (by omega))
 rw[asL,dM (wZ hl fun e he=>(hs e he).wf) (II 211)]
 simp only[cond_true]
 rw[h1]
 simp only[ah.bind_ok,dI,wJ,h2]
theorem afm {M:Nat} {s:List Int} (hM:big+1≤M) (hl:s.length≤big) (hs:∀ i∈s,aV i=true):ak env (M+1) 110 [.sl 1 (ints s)]= .ok (i64 (match dF (nzI s) 0 s.length with|some j=>s.getD j 0|none=>0)):=by
 have hln:(ints s).length=s.length:=by simp[ints]
 rw[arB,gJ (show(T.sl 1 (ints s)).wf=true from wZ hl fun i hi=>aZ (hs i hi))]
 simp only[cond_true,bC]
 have hstep:∀ (j:Nat) x,s[j]? =some x→aF env M 110 0 3 ⟨slots 18 [(3,.t (i64 0)),(6,.t (.sl 1 (ints s))),(7,.t (i64 ((ints s).length:Int))),(8,.t (i64 (j:Int)))],[]⟩=
  bif x !=0 then .ok (.ret,⟨slots 18 [(2,.t (i64 x))],[]⟩) else .ok (.norm,⟨slots 18 [(3,.t (i64 0)),(6,.t (.sl 1 (ints s))),(7,.t (i64 ((ints s).length:Int))),(8,.t (i64 ((j+1:Nat):Int)))],[]⟩):=fun j x hx=>by
  have hj:j < s.length:=(List.getElem?_eq_some_iff.1 hx).1
  rw[ad7,decide_eq_true (by rw[hln]; omega)]
  simp only[cond_true,aA (iV hx),dI,wrap_succ (show j≤big by omega)]
 have:=fB (B:=aF env M 110 0 3) (S:=fun i=>⟨slots 18 [(3,.t (i64 0)),(6,.t (.sl 1 (ints s))),(7,.t (i64 ((ints s).length:Int))),(8,.t (i64 (i:Int)))],[]⟩) (R:=fun i=>⟨slots 18 [(2,.t (i64 (s.getD i 0)))],[]⟩) (X:=⟨slots 18 [(3,.t (i64 0))],[]⟩) (id:=0)
  (nzI s) s.length 0 M (by omega) (fun j _ hj hp=>by
   have hx:s[j]? =some s[j]:=List.getElem?_eq_getElem (by omega)
   simp only[nzI,hx] at hp
   rw[hstep j _ hx,hp]
   simp only[cond_true,List.getD_eq_getElem?_getD,hx,Option.getD_some]) (fun j _ hj hp=>by
   have hx:s[j]? =some s[j]:=List.getElem?_eq_getElem (by omega)
   simp only[nzI,hx] at hp
   rw[hstep j _ hx,hp]; rfl) (by rw[ad7,decide_eq_false (by rw[hln]; omega)]; rfl)
 have e0:∀ (l:List (Nat×PV)),(8,PV.t (i64 (0:Int)))::l=(8,PV.t (i64 ((0:Nat):Int)))::l:=fun l=>rfl
 rw[e0,this]
 cases dF (nzI s) 0 s.length with
 |none=>simp only[ah.bind_ok,Sm]
 |some j=>simp only[ah.bind_ok,Zy]
theorem ahN {M:Nat} {u v:Int} (hu:aV u=true) (hv:aV v=true) (hM:big+1≤M):ak env (M+1) 110 [.sl 1 [i64 u,i64 v]]= .ok (i64 (orP u v)):=by
 have h:=afm (M:=M) (s:=[u,v]) hM (by simp[aU]) (by simpa using⟨hu,hv⟩)
 rw[show(T.sl 1 [i64 u,i64 v])= .sl 1 (ints [u,v]) from rfl,h]
 congr 2
 unfold orP
 cases h0:(u !=0) with
 |true=>simp[dF,nzI,h0]
 |false=>
  cases h1:(v !=0) with
  |true=>simp[dF,nzI,h0,h1]
  |false=>
   have:v=0:=by simpa using h1
   simp[dF,nzI,h0,h1,this]
theorem OT {M:Nat} {x y:Px} (hx:x.ok) (hy:y.ok) (hM:big+2≤M):ak env (M+1) 80 [x.t,y.t]= .ok (i64 (kE x y)):=by
 obtain⟨m,rfl⟩:∃ m,M=m+1:=⟨M - 1,by omega⟩
 have hw:=dM hx.wf hy.wf
 simp only[Px.t] at hw ⊢
 rw[q80,hw,yc (by omega) hx.a hy.a,yc (by omega) hx.n hy.n]
 simp only[cond_true,ah.bind_ok]
 rw[ahN (Qn _ _) (Qn _ _) (by omega)]
 rfl
theorem aiz {M:Nat} {e e':En} (h:e.ok) (h':e'.ok) (hM:big+3≤M):ak env (M+1) 214 [e.t,e'.t]= .ok (i64 (kE e.x e'.x)):=by
 obtain⟨m,rfl⟩:∃ m,M=m+1:=⟨M - 1,by omega⟩
 have hw:=dM h.wf h'.wf
 have h1:=OT (M:=m) h.x h'.x (by omega)
 simp only[En.t,Px.t] at hw h1 ⊢
 rw[asN,hw]
 simp only[cond_true,List.drop,List.take]
 rw[h1]
 rfl
theorem aip {M:Nat} {e:En} {x:Px} (h:e.ok) (h':x.ok) (hM:big+3≤M):ak env (M+1) 198 [e.t,x.t]= .ok (i64 (kE e.x x)):=by
 obtain⟨m,rfl⟩:∃ m,M=m+1:=⟨M - 1,by omega⟩
 have hw:=dM h.wf h'.wf
 have h1:=OT (M:=m) h.x h' (by omega)
 simp only[En.t,Px.t] at hw h1 ⊢
 rw[asC,hw]
 simp only[cond_true,List.drop,List.take]
 rw[h1]
 rfl
theorem aiy {M:Nat} {l:List En} (hM:big+8≤M) (hl:l.length≤big) (hs:∀ e∈l,e.ok):ak env (M+1) 213 [.sl 6 (l.map En.t),.fn 214 [] []]= .ok (.bool (uH l)):=by
 obtain⟨m,rfl⟩:∃ m,M=m+1:=⟨M - 1,by omega⟩
 rw[asM,dM (wZ hl fun e he=>(hs e he).wf) (II 214)]
 simp only[cond_true,bC]
 have hln:(l.map En.t).length=l.length:=by simp
 have hstep:∀ (j:Nat),1≤j→j < l.length→aF env (m+1) 213 0 2 ⟨slots 24 [(0,.t (.sl 6 (l.map En.t))),(1,.t (.fn 214 [] [])),(5,.t (i64 (j:Int)))],[]⟩=
  bif NJ l j then .ok (.ret,⟨slots 24 [(4,.t (.bool false))],[]⟩) else .ok (.norm,⟨slots 24 [(0,.t (.sl 6 (l.map En.t))),(1,.t (.fn 214 [] [])),(5,.t (i64 ((j+1:Nat):Int)))],[]⟩):=fun j h1 hj=>by
  have g1:l[j - 1]? =some l[j - 1]:=List.getElem?_eq_getElem (by omega)
  have g2:l[j]? =some l[j]:=List.getElem?_eq_getElem hj
  rw[aen,decide_eq_true (by rw[hln]; omega)]
  have hw:IntKind.i64.wrap ((j:Int) - 1)=((j - 1:Nat):Int):=by rw[wrap64 (by have:=aU; omega)]; omega
  simp only[cond_true,hw,aA (aC g1),aA (aC g2)]
  rw[Ae rfl (aiz (hs _ (List.getElem_mem _)) (hs _ (List.getElem_mem _)) (by omega))]
  simp only[dI,wrap_succ (show j≤big by omega),NJ,g1,g2]
 have h3:aF env (m+1) 213 0 2 ⟨slots 24 [(0,.t (.sl 6 (l.map En.t))),(1,.t (.fn 214 [] [])),(5,.t (i64 ((1+(l.length - 1):Nat):Int)))],[]⟩= .ok (.exit 0,⟨slots 24 [],[]⟩):=by
  rw[aen,decide_eq_false (by rw[hln]; omega)]; rfl
 have:=fB (B:=aF env (m+1) 213 0 2) (S:=fun i=>⟨slots 24 [(0,.t (.sl 6 (l.map En.t))),(1,.t (.fn 214 [] [])),(5,.t (i64 (i:Int)))],[]⟩) (R:=fun i=>⟨slots 24 [(4,.t (.bool false))],[]⟩) (X:=⟨slots 24 [],[]⟩) (id:=0)
  (NJ l) (l.length - 1) 1 (m+1) (by omega) (fun j a b hp=>by rw[hstep j a (by omega),hp]; rfl) (fun j a b hp=>by rw[hstep j a (by omega),hp]; rfl) h3
 rw[show(i64 (1:Int))=i64 ((1:Nat):Int) from rfl,this]
 unfold uH
 cases dF (NJ l) 1 (l.length - 1) with
 |none=>simp only[ah.bind_ok,Tf,Option.isNone]
 |some j=>simp only[ah.bind_ok,ZN,Option.isNone]
theorem ain {M:Nat} {l:List En} (hM:big+12≤M) (hl:l.length≤big) (hs:∀ e∈l,e.ok):ak env (M+1) 196 [.sl 6 (l.map En.t)]= .ok (.bool (sG l)):=by
 obtain⟨m,rfl⟩:∃ m,M=m+1:=⟨M - 1,by omega⟩
 rw[asA,gJ (wZ hl fun e he=>(hs e he).wf),aix (by omega) hl hs,aiy (by omega) hl hs]
 simp only[cond_true,ah.bind_ok,jW,sG]
 cases l.any OE<;>rfl
theorem aif {M:Nat} {l:List En} (hM:big+14≤M) (hl:l.length≤big) (hs:∀ e∈l,e.ok):ak env (M+1) 168 [.sl 6 (l.map En.t)]= .ok (.sl 6 ((known l).map En.t)):=by
 obtain⟨m,rfl⟩:∃ m,M=m+1:=⟨M - 1,by omega⟩
 rw[asj,gJ (wZ hl fun e he=>(hs e he).wf),ain (by omega) hl hs]
 simp only[cond_true,ah.bind_ok,jW,known]
 cases sG l<;>rfl
def S75 (l:List En) (x:Px) (i j:Nat):St:=⟨slots 49 [(0,.t (.sl 6 (l.map En.t))),(2,.t (.fn 198 [] [])),(4,.ptr 0 0),(8,.t (i64 ((l.map En.t).length:Int))),(9,.t (i64 (i:Int))),(10,.t (i64 (j:Int)))],[.box 25 2 (.t (.agg [i64 x.a,i64 x.n]))]⟩
def X75 (l:List En) (x:Px) (i:Nat):St:=⟨slots 49 [(0,.t (.sl 6 (l.map En.t))),(2,.t (.fn 198 [] [])),(4,.ptr 0 0),(8,.t (i64 ((l.map En.t).length:Int))),(9,.t (i64 (i:Int)))],[.box 25 2 (.t (.agg [i64 x.a,i64 x.n]))]⟩
theorem Oj {m:Nat} {l:List En} {x:Px} {i j:Nat} (h:j≤i):aF env m 197 0 3 (S75 l x i j)= .ok (.exit 0,X75 l x i):=by
 unfold S75 X75
 rw[aej,decide_eq_false (by omega)]
 simp only[cond_false]
theorem abg {m:Nat} {l:List En} {x:Px} {i j:Nat} (h1:i < j) (h2:j≤l.length) (hl:l.length≤big) (h76:∀ i,(hi:i < l.length)→ak env m 198 [En.t l[i],.agg [i64 x.a,i64 x.n]]= .ok (i64 (kE l[i].x x))):
 aF env m 197 0 3 (S75 l x i j)= .ok (.norm,bif XK l x ((i+j) / 2) then S75 l x ((i+j) / 2+1) j else S75 l x i ((i+j) / 2)):=by
 have g:l[(i+j) / 2]? =some l[(i+j) / 2]:=List.getElem?_eq_getElem (by omega)
 unfold S75
 rw[aej,decide_eq_true (by omega)]
 simp only[cond_true,agC (show i≤big by omega) (show j≤big by omega),aA (aC g)]
 rw[Ae rfl (h76 _ (by omega))]
 simp only[dI,wrap_succ (show(i+j) / 2≤big by omega),XK,g]
 cases decide (kE l[(i+j) / 2].x x < 0)<;>simp only[cond_true,cond_false]
theorem apk (N:Nat) (l:List En) (x:Px) (hw:T.wfs [.sl 6 (l.map En.t),.agg [i64 x.a,i64 x.n],.fn 198 [] []]=true):ak env (N+1) 197 [.sl 6 (l.map En.t),.agg [i64 x.a,i64 x.n],.fn 198 [] []]=bC env N 197 3 (S75 l x 0 l.length):=by
 rw[asB,hw]
 simp only[cond_true,S75,List.length_map]
 rfl
theorem apx (N:Nat) (l:List En) (x:Px) (i:Nat) (h76:∀ i,(hi:i < l.length)→ak env N 198 [En.t l[i],.agg [i64 x.a,i64 x.n]]= .ok (i64 (kE l[i].x x))):
 aP env N 197 0 3 (aW env 197) (.exit 0) (X75 l x i)= .ok (.au [i64 (i:Int),.bool (match l[i]? with|some e=>kE e.x x==0|none=>false)]):=by
 unfold X75
 rw[SX]
 rcases Nat.lt_or_ge i l.length with h|h
 · have g:l[i]? =some l[i]:=List.getElem?_eq_getElem h
   rw[decide_eq_true (by rw[List.length_map]; omega)]
   simp only[cond_true]
   rw[aA (aC g),Ae rfl (h76 _ h)]
   simp only[dI,g]
 · have g:l[i]? =none:=List.getElem?_eq_none h
   rw[decide_eq_false (by rw[List.length_map]; omega)]
   simp only[cond_false,g]
theorem aio {M:Nat} {l:List En} {x:Px} (hM:big+5≤M) (hl:l.length≤big) (hs:∀ e∈l,e.ok) (hx:x.ok):
 ak env (M+1) 197 [.sl 6 (l.map En.t),x.t,.fn 198 [] []]= .ok (.au [i64 (fM l x:Int),.bool (lZ l x)]):=by
 obtain⟨m,rfl⟩:∃ m,M=m+1:=⟨M - 1,by omega⟩
 have hw:=yG (wZ (k:=6) hl fun e he=>(hs e he).wf) hx.wf (II 198)
 have h76:∀ i,(hi:i < l.length)→ak env (m+1) 198 [En.t l[i],.agg [i64 x.a,i64 x.n]]= .ok (i64 (kE l[i].x x)):=fun i hi=>aip (hs _ (List.getElem_mem _)) hx (by omega)
 have main:∀ (k i j n:Nat),j - i≤k→k < n→j≤l.length→bF (aF env (m+1) 197 0 3) n (S75 l x i j)= .ok (.exit 0,X75 l x (QY (XK l x) k i j)):=by
  intro k
  induction k with
  |zero=>
   intro i j n h1 h2 h3
   obtain⟨n,rfl⟩:∃ n',n=n'+1:=⟨n - 1,by omega⟩
   exact dV (Oj (by omega))
  |succ k ih=>
   intro i j n h1 h2 h3
   obtain⟨n,rfl⟩:∃ n',n=n'+1:=⟨n - 1,by omega⟩
   rcases Nat.lt_or_ge i j with h4|h4
   · rw[bf (abg h4 h3 hl h76)]
     unfold QY
     rw[decide_eq_true h4,cond_true]
     cases XK l x ((i+j) / 2) with
     |true=>simp only[cond_true]; exact ih _ _ _ (by omega) (by omega) h3
     |false=>simp only[cond_false]; exact ih _ _ _ (by omega) (by omega) (by omega)
   · rw[dV (Oj h4)]
     unfold QY
     rw[decide_eq_false (by omega),cond_false]
 have e:=apk (m+1) l x hw
 rw[show x.t= .agg [i64 x.a,i64 x.n] from rfl,e]
 unfold bC
 rw[main l.length 0 l.length (m+1) (by omega) (by omega) (Nat.le_refl _)]
 rw[ah.bind_ok,apx (m+1) l x _ h76]
 rfl
theorem aii {M:Nat} {l:List En} {x:Px} (hM:big+7≤M) (hl:l.length≤big) (hs:∀ e∈l,e.ok) (hx:x.ok):
 ak env (M+1) 169 [.sl 6 (l.map En.t),x.t]= .ok (.au [i64 (fM l x:Int),.bool (lZ l x)]):=by
 obtain⟨m,rfl⟩:∃ m,M=m+1:=⟨M - 1,by omega⟩
 have hw:=dM (wZ (k:=6) hl fun e he=>(hs e he).wf) hx.wf
 have h:=aio (M:=m) (by omega) hl hs hx
 simp only[Px.t] at hw h ⊢
 rw[asl,hw,h]
 rfl
theorem ahY {M:Nat} {l:List En} {x:Px} (hM:big+16≤M) (hl:l.length≤big) (hs:∀ e∈l,e.ok) (hx:x.ok):
 ak env (M+1) 135 [.sl 6 (l.map En.t),x.t]= .ok (.au [((pF l x).getD Pa.none).t,.bool (pF l x).isSome]):=by
 obtain⟨m,rfl⟩:∃ m,M=m+1:=⟨M - 1,by omega⟩
 have hw:=dM (wZ (k:=6) hl fun e he=>(hs e he).wf) hx.wf
 have h43:=aif (M:=m) (l:=l) (by omega) hl hs
 have hkl:=Gh l
 have h44:=aii (M:=m) (l:=known l) (x:=x) (by omega) (by omega) (fun e he=>hs e (lU he)) hx
 simp only[Px.t] at hw h44 ⊢
 rw[arQ,hw,h43]
 simp only[cond_true,ah.bind_ok]
 rw[h44]
 simp only[ah.bind_ok,aG,List.getElem?_cons_zero,List.getElem?_cons_succ,jW]
 cases ht:lZ (known l) x with
 |false=>
  have:pF l x=none:=get_none.2 (Bh (vT l) ht)
  rw[this]
  rfl
 |true=>
  have hlt:=GH ht
  obtain⟨p,hp⟩:=uf ht
  have hg:(known l)[fM (known l) x]? =some ⟨x,p⟩:=by
   rw[hp]
   rw[List.getElem?_append_right (by rw[List.length_take,←hp]; omega)]
   rw[List.length_take,←hp,Nat.min_eq_left (by omega),Nat.sub_self]
   rfl
  have hgs:pF l x=some p:=oW.2 (List.mem_of_getElem? hg)
  rw[hgs]
  generalize fM (known l) x=k at hg
  simp only[Bool.not_true,cond_false,o9,qW,if_true,aA (aC hg)]
  rfl
end
section
open Go.RowKit Go.Proofs
theorem zV (x y:Px):(x.a==y.a&&(x.n==y.n&&true))=decide (x=y):=by
 rw[Bool.eq_iff_iff,decide_eq_true_eq]
 simp only[Bool.and_true,Bool.and_eq_true,beq_iff_eq]
 exact⟨fun h=>Px.ext' h.1 h.2,fun h=>by rw[h]; exact⟨rfl,rfl⟩⟩
theorem JI (x y:Px):T.eX [0,0] [i64 x.a,i64 x.n] [i64 y.a,i64 y.n]=some (decide (x=y)):=by rw[←zV]; rfl
theorem yT (x y:Px):T.eX [0,0] x.t.cells [i64 y.a,i64 y.n]=some (decide (x=y)):=JI x y
theorem akJ (c:Ch):c.t.ay 0 2 true=c.x.t:=rfl
theorem akI (c:Ch):c.t.ay 2 6 true=c.r.t:=rfl
theorem aew {c:Ch}:(c.t.cells.length==8&& !c.t.aY)=true:=rfl
theorem qN {t:List (List En)} {i:Nat} {l:List En} (h:t[i]? =some l):(fP t)[i]? =some (.sl 6 (l.map En.t)):=aC h
def DY (t:List (List En)):Prop:=cO (cO En.ok) t
theorem DY.wf {t:List (List En)} (h:DY t):(T.sl 1 (fP t)).wf=true:=dD (p:=cO En.ok) (fun l hl=>dD (fun _=>En.ok.wf) hl) h
variable [Lv]
theorem aie {M:Nat} {l:List Px} {x:Px} (hM:big+1≤M) (hl:cO Px.ok l) (hx:x.ok):ak env (M+1) 167 [.sl 2 (l.map Px.t),x.t]= .ok (i64 (rH (l.findIdx? fun y=>decide (y=x)))):=by
 rw[asi,aX (dM (dD (fun _ h=>Px.ok.wf h) hl) hx.wf)]
 have hb:=hl.1
 have step:∀ j y,l[j]? =some y→aF env M 167 0 2 (YB l x (j:Nat))=bif decide (y=x) then .ok (.ret,⟨slots 19 [(4,.t (i64 (j:Nat)))],[]⟩) else .ok (.norm,YB l x ((j+1:Nat):Int)):=fun j y hy=>by
  have hj:j < l.length:=(List.getElem?_eq_some_iff.1 hy).1
  rw[aeg,decide_eq_true (by rw[List.length_map]; omega)]
  simp only[cond_true]
  rw[aA (aC hy),show y.t.cells= [i64 y.a,i64 y.n] from rfl,JI,wrap_succ (show j≤big by omega)]
  simp only[eq_comm (a:=x)]
 have he:aF env M 167 0 2 (YB l x (l.length:Nat))= .ok (.exit 0,⟨slots 19 [],[]⟩):=by
  rw[aeg,decide_eq_false (by rw[List.length_map]; omega)]; rfl
 exact JL (R:=fun i=>⟨slots 19 [(4,.t (i64 i))],[]⟩) (fun y=>decide (y=x)) (by omega) step he (ZH M) (SQ M)
theorem ahX {M:Nat} {l:List Px} {x:Px} (hM:big+2≤M) (hl:cO Px.ok l) (hx:x.ok):ak env (M+1) 134 [.sl 2 (l.map Px.t),x.t]= .ok (.bool (l.contains x)):=by
 obtain⟨m,rfl⟩:=dJ (show 1≤M by omega)
 rw[arP,aX (dM (dD (fun _ h=>Px.ok.wf h) hl) hx.wf),nG (aie (by omega) hl hx),wJ,qA]
 have:(l.any fun y=>decide (y=x))=l.contains x:=by
  rw[Bool.eq_iff_iff,List.any_eq_true,List.contains_iff_mem]
  simp
 rw[this]
theorem al7 {M:Nat} {l:List Ch} {g:FuncId} {cs:List T} {q:Ch→Bool} (hM:big+1≤M) (hl:cO Ch.ok l) (hw:T.wfs cs=true) (hm:env.mode g=0) (hq:∀ r∈l,ak env M g (r.t::cs)= .ok (.bool (q r))):
 ak env (M+1) 61 [.sl 8 (l.map Ch.t),.fn g [] cs]= .ok (i64 (rH (l.findIdx? q))):=by
 rw[q61,aX (dM (dD (fun _ h=>Ch.ok.wf h) hl) (wV hw))]
 exact DR Ch.t (S:=agZ l _) q (by have:=hl.1; omega) hl.1 (aoP M l _) (ada M) (WY M) fun x hx K=>(lN hm).trans (aH (hq x hx))
def auD (l:List Ch) (x:Px):Rt×Bool:=(((pz l x).getD zRt),(pz l x).isSome)
theorem aeD {M:Nat} {l:List Ch} {x:Px} (hM:big+3≤M) (hl:cO Ch.ok l) (hx:x.ok):ak env (M+1) 26 [.sl 8 (l.map Ch.t),x.t]= .ok (I5 (pz l x)):=by
 obtain⟨m,rfl⟩:=dJ (show 1≤M by omega)
 obtain⟨m,rfl⟩:=dJ (show 1≤m by omega)
 have h1:=al7 (M:=m+1) (g:=62) (cs:=[x.t.ref]) (q:=fun c=>decide (c.x=x)) (by omega) hl (gJ (by simpa[T.wf] using hx.wf)) rfl fun c hc=>by
  rw[q62,aX (dM (hl.2 c hc).wf (by simpa[T.wf] using hx.wf)),zV]
 rw[q26,aX (dM (dD (fun _ h=>Ch.ok.wf h) hl) hx.wf),aH h1]
 simp only[dI]
 have hb:=hl.1
 have hp:(fun c:Ch=>decide (c.x=x))=fun c=>c.x==x:=by funext c; rw[Bool.eq_iff_iff]; simp
 cases hf:l.findIdx? (fun c=>decide (c.x=x)) with
 |none=>
  rw[hp] at hf
  have:pz l x=none:=by unfold pz; rw[abt hf]; rfl
  rw[this]; rfl
 |some j=>
  obtain⟨y,hy⟩:∃ y,l[j]? =some y:=by
   have:=List.findIdx?_eq_some_iff_getElem.1 hf
   obtain⟨h,_⟩:=this
   exact⟨l[j],List.getElem?_eq_getElem h⟩
  rw[hp] at hf
  have:pz l x=some y.r:=by unfold pz; rw[afn hf hy]; rfl
  rw[this,decide_eq_false (by simp[rH])]
  simp only[cond_false,o9,rH]
  rw[aA (aC hy)]
  rfl
theorem ahI {M:Nat} {a b:Ch} (hM:big+3≤M) (ha:a.ok) (hb:b.ok):ak env (M+1) 103 [a.t,b.t]= .ok (i64 (kE a.x b.x)):=by
 obtain⟨m,rfl⟩:=dJ (show 1≤M by omega)
 rw[ars,aX (dM ha.wf hb.wf),aH (OT ha.x hb.x (by omega))]
theorem amg {M:Nat} {a b:Ch} (hM:big+6≤M) (ha:a.ok) (hb:b.ok):ak env (M+1) 84 [a.t,b.t]= .ok (.bool (decide (a=b))):=by
 obtain⟨m,rfl⟩:=dJ (show 1≤M by omega)
 rw[q84,aX (dM ha.wf hb.wf),zV]
 have e:decide (a=b)=(decide (a.x=b.x)&&(jy a.r b.r==0)):=by
  rw[Bool.eq_iff_iff]
  simp only[decide_eq_true_eq,Bool.and_eq_true,beq_iff_eq,AV]
  obtain⟨x,r⟩:=a
  obtain⟨x',r'⟩:=b
  simp
 rw[e]
 cases decide (a.x=b.x) with
 |true=>simp only[cond_true,Bool.true_and]; rw[aH (aeE (by omega) ha.r hb.r)]
 |false=>rfl
theorem al3 {M:Nat} {l m:List Ch} (hM:big+9≤M) (hl:cO Ch.ok l) (hm:cO Ch.ok m):ak env (M+1) 49 [.sl 8 (l.map Ch.t),.sl 8 (m.map Ch.t)]= .ok (.bool (decide (l=m))):=by
 obtain⟨k,rfl⟩:=dJ (show 1≤M by omega)
 have hbl:=hl.1
 have hbm:=hm.1
 have h1:ak env (k+1) 83 [.sl 8 (l.map Ch.t),.sl 8 (m.map Ch.t),.fn 84 [] []]= .ok (.bool (decide (l=m))):=by
  obtain⟨k,rfl⟩:=dJ (show 1≤k by omega)
  rw[q83,aX (yG (dD (fun _ h=>Ch.ok.wf h) hl) (dD (fun _ h=>Ch.ok.wf h) hm) (II _)),←Ac (q:=fun a b=>decide (a=b)) (by simp) l m,List.length_map,List.length_map]
  by_cases h:l.length=m.length
  · rw[if_pos h,show((l.length:Int) !=(m.length:Int))=false by rw[h]; simp]
    simp only[cond_false]
    refine zZ (S:=fun i=>agU l m (.fn 84 [] []) (i:Int)) (R:=⟨slots 32 [(6,.t (.bool false))],[]⟩) (X:=⟨slots 32 [],[]⟩) (id:=0) _ (by omega) h (fun j x y hx hy=>?_) ?_ (adf _ _) (Xe _)
    · have hj:j < l.length:=(List.getElem?_eq_some_iff.1 hx).1
      rw[ajY,decide_eq_true (by rw[List.length_map]; omega)]
      simp only[cond_true]
      rw[aA (aC hx),aew,aN,aA (aC hy),aew,aN,Ae rfl (amg (by omega) (hl.2 x (List.mem_of_getElem? hx)) (hm.2 y (List.mem_of_getElem? hy))),jW,wrap_succ (show j≤big by omega)]
    · rw[ajY,decide_eq_false (by rw[List.length_map]; omega)]; rfl
  · rw[if_neg h,show((l.length:Int) !=(m.length:Int))=true by simp; omega]; rfl
 rw[q49,aX (dM (dD (fun _ h=>Ch.ok.wf h) hl) (dD (fun _ h=>Ch.ok.wf h) hm)),aH h1]
theorem ahW {M:Nat} {r:Rt} {l:List Rt} (hM:big+6≤M) (hl:cO Rt.ok (r::l)):ak env (M+1) 133 [.sl 6 ((r::l).map Rt.t),.fn 30 [] []]= .ok (l.foldl (fun b r=>if jy r b < 0 then r else b) r).t:=by
 obtain⟨m,rfl⟩:=dJ (show 1≤M by omega)
 have hb:=hl.1
 simp only[List.length_cons] at hb
 rw[arO,aX (dM (dD (fun _ h=>Rt.ok.wf h) hl) (II _)),decide_eq_false (by simp; omega)]
 simp only[cond_false]
 rw[show bK ((r::l).map Rt.t) 0=fun K:T→ah T=>K r.t from by funext K; exact aA (i:=0) rfl]
 simp only[]
 rw[tq,aN]
 refine((oV (S:=fun(b:Rt) j=>sMn (r::l) b (.fn 30 [] []) ((j+1:Nat):Int)) (X:=fun b=>⟨slots 33 [(4,.ptr 0 0),(5,.ptr 1 0)],[.box 44 6 (.agg [.t (i64 0),.t (i64 0),.own 2,.t (i64 0),.t (i64 0),.t (i64 0)]),.box 44 6 (.t b.t),.row 3 1 []]⟩) (id:=0) (fun b _=>b.ok) (fun b r=>if jy r b < 0 then r else b) l r (by omega) (fun b j x hx hI=>?_) (fun b hI=>?_) (hl.2 r List.mem_cons_self)).1).trans (SA _ _)
 · have hj:j < l.length:=(List.getElem?_eq_some_iff.1 hx).1
   have hx':(r::l)[j+1]? =some x:=by simpa using hx
   have ho:=hl.2 x (List.mem_cons_of_mem _ (List.mem_of_getElem? hx))
   rw[aeb,decide_eq_true (by rw[List.length_map,List.length_cons]; omega)]
   simp only[cond_true]
   rw[aA (aC hx'),Ae rfl (aeG (by omega) ho hI)]
   simp only[dI]
   rw[aA (aC hx'),tq,aN,wrap_succ (show j+1≤big by omega)]
   by_cases hc:jy x b < 0
   · rw[decide_eq_true hc,if_pos hc]; exact⟨rfl,ho⟩
   · rw[decide_eq_false hc,if_neg hc]; exact⟨rfl,hI⟩
 · rw[aeb,decide_eq_false (by rw[List.length_map,List.length_cons]; omega)]; rfl
theorem ahG {M:Nat} {l:List Rt} (hM:big+7≤M) (hl:cO Rt.ok l):ak env (M+1) 100 [.sl 6 (l.map Rt.t)]= .ok (I5 (qw l)):=by
 obtain⟨m,rfl⟩:=dJ (show 1≤M by omega)
 rw[arp,aX (gJ (dD (fun _ h=>Rt.ok.wf h) hl)),List.length_map]
 cases l with
 |nil=>rfl
 |cons r l=>
  rw[show(((r::l).length:Int)==0)=false by simp; omega]
  simp only[cond_false]
  rw[aH (ahW (by omega) hl),tq,aN]
  rfl
theorem xJ {c:Cf} {t:List (List En)} {x:Px} (h:c.ok) (ht:DY t):∀ r∈gu c t x,r.ok:=fun r hr=>by
 rcases(rJ.1 hr).2 with ⟨_,rfl⟩|⟨k,l,p,h1,h2,h3,h4⟩
 · exact QK h.d
 · have hl:=ht.2 l (List.mem_of_getElem? h2)
   have hb:=h.s.1
   have:=aU
   exact XI h4 h (iH.2 (by omega)) ((hl.2 _ (lU (oW.1 h3))).p)
def AQ (c:Cf) (t:List (List En)) (x:Px) (k:Nat):List Rt:=(((t[k]?).bind fun l=>(pF l x).bind fun p=>wK c (k:Int) x p)).toList
theorem vX {α β:Type} (f:α→Option β):∀ l:List α,l.filterMap f=l.foldl (fun r a=>r++(f a).toList) []:=by
 have main:∀ (l:List α) (r:List β),l.foldl (fun r a=>r++(f a).toList) r=r++l.filterMap f:=by
  intro l
  induction l with
  |nil=>simp
  |cons a l ih=>
   intro r
   rw[List.foldl_cons,ih,List.filterMap_cons]
   cases f a<;>simp
 intro l
 rw[main]; simp
theorem OZ {α β:Type} (f:α→List β):∀ (l:List α) (r:List β),l.foldl (fun r a=>r++f a) r=r++l.foldl (fun r a=>r++f a) []:=by
 intro l
 induction l with
 |nil=>simp
 |cons a l ih=>intro r; rw[List.foldl_cons,List.foldl_cons,ih (r++f a),ih ([]++f a)]; simp
theorem La (a b:Nat):dh false [(b:Int)] (a:Int)=((min a b:Nat):Int):=by
 simp only[dh,cond_false]
 split<;>omega
theorem ahH {M:Nat} {c:Cf} {t:List (List En)} {x:Px} (hM:big+24≤M) (h:c.ok) (ht:DY t) (hx:x.ok):ak env (M+1) 101 [c.t,.sl 1 (fP t),x.t]= .ok (.sl 6 ((gu c t x).map Rt.t)):=by
 obtain⟨m,rfl⟩:=dJ (show 1≤M by omega)
 have hbt:=ht.1
 have hbs:=h.s.1
 have hbig:=aU
 rw[arq,aX (yG h.wf ht.wf hx.wf),bJ (BK (by omega) h)]
 unfold gu
 cases hc:dH c with
 |false=>rfl
 |true=>
  have hs8:c.s.length≤8:=(ou hc).2.2.2.2
  simp only[Bool.not_true,cond_false,if_true]
  rw[bJ (ahX (by omega) h.w hx)]
  have key:∀ r0:List Rt,r0.length≤1→bC env (m+1) 101 7 (sTh c t x r0 ((min t.length c.s.length:Nat):Int) 0)=
   .ok (.sl 6 ((r0++(List.range (min t.length c.s.length)).filterMap fun(k:Nat)=>(t[k]?).bind fun l=>(pF l x).bind fun p=>wK c (k:Int) x p).map Rt.t)):=fun r0 hr0=>by
   have:=oV (S:=fun(r:List Rt) j=>sTh c t x r ((min t.length c.s.length:Nat):Int) (j:Int)) (X:=fun r=>⟨slots 61 [(7,.own 0)],[.row 44 6 (r.map Rt.t)]⟩) (id:=0) (N:=m+1) (F:=101) (r:=7) (fun(r:List Rt) j=>r.length≤j+1) (fun r k=>r++AQ c t x k) (List.range (min t.length c.s.length)) r0 (by rw[List.length_range]; omega)
    (fun r j k hk hI=>by
     have hk':j < min t.length c.s.length:=by have:=(List.getElem?_eq_some_iff.1 hk).1; simpa using this
     obtain rfl:j=k:=by rw[List.getElem?_range hk'] at hk; simpa using hk
     have hjt:j < t.length:=by omega
     have e1:t[j]? =some t[j]:=List.getElem?_eq_getElem hjt
     have hl:=ht.2 _ (List.getElem_mem hjt)
     have hko:aV (j:Int)=true:=iH.2 (by omega)
     rw[ad3,decide_eq_true (by omega)]
     simp only[cond_true]
     rw[aA (qN e1),aH (ahY (by omega) hl.1 hl.2 hx)]
     simp only[aG,List.getElem?_cons_zero,List.getElem?_cons_succ,XP,aN,jW]
     rw[wrap_succ (show j≤big by omega)]
     cases hg:pF t[j] x with
     |none=>
      have:AQ c t x j= []:=by unfold AQ; rw[e1,Option.bind_some,hg]; rfl
      rw[this,List.append_nil]
      exact⟨rfl,by omega⟩
     |some p=>
      have hp:p.ok:=(hl.2 _ (lU (oW.1 hg))).p
      simp only[Option.getD_some,Option.isSome_some,Bool.not_true,cond_false]
      rw[aH (ahZ (by omega) h hko hx hp),I7]
      simp only[aG,List.getElem?_cons_zero,List.getElem?_cons_succ,tq,aN,jW]
      cases hi:wK c (j:Int) x p with
      |none=>
       have:AQ c t x j= []:=by unfold AQ; rw[e1,Option.bind_some,hg,Option.bind_some,hi]; rfl
       rw[this,List.append_nil]
       exact⟨rfl,by omega⟩
      |some q=>
       have:AQ c t x j= [q]:=by unfold AQ; rw[e1,Option.bind_some,hg,Option.bind_some,hi]; rfl
       rw[this]
       simp only[Option.isSome_some,cond_true,Option.getD_some]
       rw[show bW (T.mF 6) [q.t]=fun(K:ah (Ex×St))=>K from rfl,List.length_map,decide_eq_true (by omega),aN]
       refine⟨?_,by rw[List.length_append,List.length_singleton]; omega⟩
       unfold sTh
       rw[List.map_append]; rfl)
    (fun r hI=>by rw[List.length_range,ad3,decide_eq_false (by omega)]; rfl) (by omega)
   refine this.1.trans ((RZ _ _).trans ?_)
   rw[OZ,vX]; rfl
  rw[show((List.map (fun l=>T.sl 6 (List.map En.t l)) t).length:Int)=(t.length:Int) by simp,show((List.map Sd.t c.s).length:Int)=(c.s.length:Int) by simp,La]
  cases hw:c.w.contains x with
  |true=>
   simp only[cond_true,if_true]
   rw[aH (aeF h.d)]
   exact key [yA c.d] (by simp)
  |false=>
   simp only[cond_false,Bool.false_eq_true,if_false]
   exact key [] (by simp)
end
section
open Go.RowKit Go.Proofs
variable [Lv]
def sOz (c:Cf) (x:Px) (r:Rt) (s:Sd) (u:Ru) (m:Int) (d:Nat→PV):St:=⟨[d 0,d 1,d 2,d 3,.ptr 0 0,d 5,d 6,.ptr 2 0,.ptr 3 0,d 9,d 10,.ptr 5 0,d 12,.t (i64 m),d 14,d 15,d 16,d 17,d 18,d 19,d 20,d 21,d 22,d 23,d 24,d 25,d 26,d 27,d 28,d 29,d 30,d 31,d 32,d 33,d 34,d 35,d 36,d 37,d 38,d 39,d 40,d 41,d 42,d 43,d 44,d 45,d 46,d 47,d 48,d 49,d 50,d 51,d 52,d 53,d 54,d 55,d 56,d 57,d 58,d 59,d 60,d 61,d 62,d 63,d 64,d 65,d 66,d 67,d 68,d 69,d 70,d 71,d 72,d 73,d 74,d 75,d 76,d 77,d 78,d 79,d 80,d 81,d 82,d 83,d 84,d 85,d 86,d 87,d 88,d 89,d 90,d 91,d 92,d 93,d 94,d 95,d 96,d 97,d 98,d 99,d 100,d 101,d 102,d 103,d 104,d 105,d 106,d 107,d 108,d 109,d 110,d 111,d 112,d 113,d 114,d 115,d 116,d 117,d 118,d 119,d 120,d 121,d 122,d 123,d 124,d 125,d 126,d 127],[.box 56 6 (.t c.t),.box 25 2 (.t x.t),.box 44 6 (.t r.t),.box 42 4 (.agg [.t (i64 0),.nil 3 1,.t (i64 0),.t (i64 0)]),.box 86 4 (.t s.t),.box 123 6 (.t u.t)]⟩
def YC (c:Cf) (r:Rt) (u:Ru) (m:Int) (l:List Int) (i:Int):St:=⟨slots 128 [(4,.ptr 0 0),(7,.ptr 1 0),(8,.ptr 2 0),(11,.ptr 3 0),(13,.t (i64 m)),(15,.own 4),(16,.t (i64 i))],[.box 56 6 (.t c.t),.box 44 6 (.t r.t),.box 42 4 (.agg [.t (i64 0),.own 5,.t (i64 0),.t (i64 0)]),.box 123 6 (.t u.t),.row 3 1 (ints l),.row 3 1 []]⟩
theorem alL (N:Nat) (c:Cf) (k:Int) (x:Px) (r:Rt) (Kc:St→ah T):Nk env N 125 0 8 (oq env 125 [.t (c.t),.t (i64 k),.t (x.t),.t (r.t)]) Kc=cl N 106 [c.t] fun x_1=>bT x_1 fun b=>bif !b then ah.ok (T.au [T.agg [i64 0,T.sl 1 [],i64 0,i64 0],T.bool false]) else cl N 144 [c.t,i64 k] fun x_2=>bT x_2 fun b_1=>bif !b_1 then ah.ok (T.au [T.agg [i64 0,T.sl 1 [],i64 0,i64 0],T.bool false]) else cl N 145 [x.t] fun x_3=>bT x_3 fun b_2=>bif !b_2 then ah.ok (T.au [T.agg [i64 0,T.sl 1 [],i64 0,i64 0],T.bool false]) else cl N 157 [r.t] fun VA=>bT VA fun b_3=>bif !b_3 then ah.ok (T.au [T.agg [i64 0,T.sl 1 [],i64 0,i64 0],T.bool false]) else bif r.f==k then ah.ok (T.au [T.agg [i64 0,T.sl 1 [],i64 0,i64 0],T.bool false]) else bif decide (r.f≥(↑(List.map Sd.t c.s).length:Int)) then ah.ok (T.au [T.agg [i64 0,T.sl 1 [],i64 0,i64 0],T.bool false]) else bK (List.map Sd.t c.s) k fun e=>chk (e.cells.length==4&& !e.aY) (cl N 158 [c.t,i64 r.f] fun NK=>chk (NK.cells.length==1&& !NK.aY) (cl N 149 [e.ay 3 1 false,T.agg [i64 x.a,i64 x.n,T.sl 1 (ints r.p.s),NK.cell 0]] fun x_6=>aG x_6 0 fun y=>aG x_6 1 fun y_1=>chk (y.cells.length==6&& !y.aY) (cl N 159 [e.ay 1 1 false,i64 c.a,i64 r.p.c] fun x_7=>aG x_7 0 fun nO=>aG x_7 1 fun xu=>bT y_1 fun b_4=>bif !b_4 then ah.ok (T.au [T.agg [i64 0,T.sl 1 [],i64 0,i64 0],T.bool false]) else iT IntKind.i64 (y.ay 4 1 false) fun a=>bif a==0 then ah.ok (T.au [T.agg [i64 0,T.sl 1 [],i64 0,i64 0],T.bool false]) else bT xu fun b_5=>bif !b_5 then ah.ok (T.au [T.agg [i64 0,T.sl 1 [],i64 0,i64 0],T.bool false]) else Kc {tmps:=[PV.t c.t,.t (i64 k),.t x.t,.t r.t,.ptr 0 0,.au [],.ptr 1 0,.ptr 2 0,.ptr 3 0,.t (.bool false),.ptr 4 0,.ptr 5 0,.t y_1,.t nO,.t xu,.au [],.au [],.t c.t,.t x_1,.t (.bool !b),.t (.bool false),.t c.t,.t (i64 k),.t x_2,.t (.bool !b_1),.t (.bool !b_1),.t (.bool false),.t x.t,.t x_3,.t (.bool !b_2),.t (.bool !b_2),.t (.bool false),.t r.t,.t VA,.t (.bool !b_3),.t (.bool !b_3),.t (.bool false),.ptr 2 5,.t (i64 r.f),.t (i64 k),.t (.bool (r.f==k)),.t (.bool (r.f==k)),.t (.bool false),.ptr 2 5,.t (i64 r.f),.ptr 0 5,.t (.sl 4 (List.map Sd.t c.s)),.t (i64 (↑(List.map Sd.t c.s).length:Int)),.t (.bool (decide (r.f≥(↑(List.map Sd.t c.s).length:Int)))),.t (.bool (decide (r.f≥(↑(List.map Sd.t c.s).length:Int)))),.au [],.ptr 0 5,.t (.sl 4 (List.map Sd.t c.s)),.t (i64 k),.rp 4 e 0,.t e,.t x_6,.ptr 4 3,.t (e.ay 3 1 false),.t x.t,.ptr 2 1,.ptr 2 2,.t (.sl 1 (ints r.p.s)),.t c.t,.ptr 2 5,.t (i64 r.f),.t NK,.t (.agg [i64 x.a,i64 x.n,T.sl 1 (ints r.p.s),NK.cell 0]),.t x_6,.t y,.t y_1,.t x_7,.ptr 4 1,.t (e.ay 1 1 false),.ptr 0 0,.t (i64 c.a),.ptr 2 1,.ptr 2 4,.t (i64 r.p.c),.t x_7,.t nO,.t xu,.t y_1,.t (.bool !b_4),.t (.bool false),.ptr 5 4,.t (y.ay 4 1 false),.t (.bool (a==0)),.t (.bool (a==0)),.t (.bool false),.t xu,.t (.bool !b_5),.t (.bool !b_5),.au [],.au [],.au [],.au [],.au [],.au [],.au [],.au [],.au [],.au [],.au [],.au [],.au [],.au [],.au [],.au [],.au [],.au [],.au [],.au [],.au [],.au [],.au [],.au [],.au [],.au [],.au [],.au [],.au [],.au [],.au [],.au [],.au [],.au [],.au []],heap:=[aj.box 56 6 (.t c.t),.box 25 2 (.t x.t),.box 44 6 (.t r.t),.box 42 4 (.agg [PV.t (i64 0),PV.nil 3 1,.t (i64 0),.t (i64 0)]),.box 86 4 (.t e),.box 123 6 (.t y)]}))):=by kernel_rfl
theorem amv (N:Nat) (c:Cf) (x:Px) (r:Rt) (s:Sd) (u:Ru) (m:Int) (d:Nat→PV):y9 env N 125 8 (sOz c x r s u m d)=bW (T.mF 1) [i64 c.a] (bif u.a==3 then bC env N 125 11 {tmps:=slots 128 [(4,.ptr 0 0),(7,.ptr 1 0),(8,.ptr 2 0),(11,.ptr 3 0),(13,.t (i64 m)),(15,.own 4),(16,.t (i64 0))],heap:=[aj.box 56 6 (.t c.t),.box 44 6 (.t r.t),.box 42 4 (.agg [PV.t (i64 0),.own 5,.t (i64 0),.t (i64 0)]),.box 123 6 (.t u.t),.row 3 1 [i64 c.a],.row 3 1 []]} else chk (decide ((1+(ints r.p.s).length)*8≤140737488355328)) (bif decide ((↑([i64 c.a]++ints r.p.s).length:Int) > 32) then ah.ok (T.au [T.agg [i64 0,T.sl 1 [],i64 0,i64 0],T.bool false]) else ah.ok (T.au [T.agg [i64 r.p.o,T.sl 1 ([i64 c.a]++ints r.p.s),i64 c.d,i64 m],T.bool true]))):=by kernel_rfl
theorem Z7 (N:Nat) (c:Cf) (r:Rt) (u:Ru) (m:Int) (l:List Int) (i:Int):aF env N 125 0 11 (YC c r u m l i)=bif decide (i < u.n) then bW (T.mF 1) [i64 c.a] (chk (decide (((ints l).length+1)*8≤140737488355328)) (ah.ok (Ex.norm,{tmps:=slots 128 [(4,.ptr 0 0),(7,.ptr 1 0),(8,.ptr 2 0),(11,.ptr 3 0),(13,.t (i64 m)),(15,.own 4),(16,.t (i64 (IntKind.i64.wrap (i+1))))],heap:=[aj.box 56 6 (.t c.t),.box 44 6 (.t r.t),.box 42 4 (.agg [PV.t (i64 0),.own 5,.t (i64 0),.t (i64 0)]),.box 123 6 (.t u.t),.row 3 1 (ints l++ [i64 c.a]),.row 3 1 []]}))) else ah.ok (Ex.exit 0,{tmps:=slots 128 [(4,.ptr 0 0),(7,.ptr 1 0),(8,.ptr 2 0),(13,.t (i64 m)),(15,.own 3)],heap:=[aj.box 56 6 (.t c.t),.box 44 6 (.t r.t),.box 42 4 (.agg [PV.t (i64 0),.own 4,.t (i64 0),.t (i64 0)]),.row 3 1 (ints l),.row 3 1 []]}):=by kernel_rfl
theorem Oc (N:Nat) (c:Cf) (r:Rt) (m:Int) (l:List Int):aP env N 125 0 11 (aW env 125) (.exit 0) (⟨slots 128 [(4,.ptr 0 0),(7,.ptr 1 0),(8,.ptr 2 0),(13,.t (i64 m)),(15,.own 3)],[.box 56 6 (.t c.t),.box 44 6 (.t r.t),.box 42 4 (.agg [.t (i64 0),.own 4,.t (i64 0),.t (i64 0)]),.row 3 1 (ints l),.row 3 1 []]⟩)=chk (decide (((ints l).length+(ints r.p.s).length)*8≤140737488355328)) (bif decide ((↑(ints l++ints r.p.s).length:Int) > 32) then ah.ok (T.au [T.agg [i64 0,T.sl 1 [],i64 0,i64 0],T.bool false]) else ah.ok (T.au [T.agg [i64 r.p.o,T.sl 1 (ints l++ints r.p.s),i64 c.d,i64 m],T.bool true])):=by kernel_rfl
end
section
open Go.RowKit Go.Proofs
variable [Lv]
theorem ahM {M:Nat} {c:Cf} {k:Int} {x:Px} {p:Pa} (hM:big+60≤M) (h:c.ok) (hk:aV k=true) (hx:x.ok) (hp:p.ok):ak env (M+1) 109 [c.t,i64 k,x.t,p.t]= .ok (I5 (wK c k x p)):=by
 obtain⟨m,rfl⟩:=dJ (show 1≤M by omega)
 have hw:T.wfs [c.t,i64 k,x.t,p.t]=true:=by
  have h1:=h.wf; have h2:=aZ hk; have h3:=hx.wf; have h4:=hp.wf
  simp only[T.wfs,h1,h2,h3,h4,Bool.and_self]
 rw[arA,aX hw,bJ (Qr (by omega) h)]
 unfold wK TJ
 cases dH c with
 |false=>rfl
 |true=>
 simp only[Bool.not_true,cond_false,Bool.true_and]
 rw[bJ (Qv h hk)]
 cases hh:hasB c k with
 |false=>rfl
 |true=>
 simp only[Bool.not_true,cond_false,Bool.true_and]
 rw[bJ (wH (by omega) hx)]
 cases dB x with
 |false=>rfl
 |true=>
 simp only[Bool.not_true,cond_false,Bool.true_and]
 rw[bJ (Qw (by omega) hp)]
 cases gY p with
 |false=>rfl
 |true=>
 simp only[Bool.not_true,cond_false,if_true]
 obtain⟨i,s,rfl,hi,hs⟩:=wI hh
 have ho:=h.s.2 _ (List.mem_of_getElem? hs)
 rw[aA (aC hs),Int.toNat_natCast,hs]
 have c1:(s.t.cells.length==4&& !s.t.aY)=true:=rfl
 have p0:s.t.ay 0 1 false=i64 s.a:=rfl
 have p1:s.t.ay 1 1 false=i64 s.r:=rfl
 have p2:s.t.ay 2 1 false= .sl 6 (s.i.map Ru.t):=rfl
 rw[c1,aN,p0,p1,p2]
 have hl:((ints p.s).length:Int)=(p.s.length:Int):=by rw[bg,List.length_map]
 rw[hl]
 by_cases h0:p.s.length=0
 · have hn:p.s= []:=List.eq_nil_of_length_eq_zero h0
   rw[beq_iff_eq.2 (show(p.s.length:Int)=0 by omega)]
   simp only[cond_true]
   have:¬ ((p.s[0]? =some s.a∧p.s.length≤32)∧p.s.contains c.a=false):=by rw[hn]; simp
   rw[if_neg this]; rfl
 rw[beq_eq_false_iff_ne.2 (show(p.s.length:Int)≠0 by omega)]
 simp only[cond_false]
 have hg:p.s[0]? =some (p.s[0]'(by omega)):=List.getElem?_eq_getElem (by omega)
 refine(aA (i:=0) (iV hg)).trans ?_
 simp only[dI]
 by_cases h1:p.s[0]'(by omega)=s.a
 case neg=>
  rw[bne_iff_ne.2 h1]
  have:¬ ((p.s[0]? =some s.a∧p.s.length≤32)∧p.s.contains c.a=false):=fun e=>by rw[hg] at e; exact h1 (Option.some.inj e.1.1)
  rw[if_neg this]; rfl
 rw[h1,bne_self_eq_false]
 simp only[cond_false]
 rw[bJ (ah4 (by omega) (rF hp) h.a)]
 cases h2:p.s.contains c.a with
 |true=>
  rw[if_neg (by simp)]; rfl
 |false=>
 simp only[cond_false]
 by_cases h3:p.s.length≤32
 case neg=>rw[decide_eq_true (show(p.s.length:Int) > 32 by omega),if_neg (fun e=>h3 e.1.2)]; rfl
 rw[decide_eq_false (show ¬ (p.s.length:Int) > 32 by omega),if_pos (by simp[hg,h1,h3])]
 simp only[cond_false]
 rw[aH (ah5 ho.r ho.a hp.c)]
 have c2:((i64 s.r).cells.length==1&& !(i64 s.r).aY)=true:=rfl
 simp only[aG,List.getElem?_cons_zero,List.getElem?_cons_succ,c2,aN]
 have hv:(BD x p s.r).ok:=⟨hx,rF hp,ho.r⟩
 refine(aH (f:=149) (aan (M:=m) (v:=BD x p s.r) (by omega) ho.i hv)).trans ?_
 cases hr:og s.r s.a p.c with
 |none=>
  cases kM s.i (BD x p s.r)<;>rfl
 |some o=>
  cases hp2:kM s.i (BD x p s.r) with
  |none=>rfl
  |some u=>
   have c3:(u.t.cells.length==6&& !u.t.aY)=true:=rfl
   have p4:u.t.ay 4 1 false=i64 u.a:=rfl
   simp only[aG,List.getElem?_cons_zero,List.getElem?_cons_succ,jW,c3,aN,Option.isSome_some,Bool.not_true,cond_false,p4,dI,Option.getD_some]
   by_cases h4:u.a=2
   · rw[h4,if_pos rfl,bne_self_eq_false]; rfl
   · rw[bne_iff_ne.2 h4,if_neg h4]; rfl
theorem abR {u:Ru} (h:pG u false=true) (ha:u.a≠0):u.n=if u.a=3 then u.n else 0:=by
 unfold pG FN at h
 simp only[Bool.and_eq_true] at h
 have h2:=h.2.2
 rw[if_neg ha] at h2
 split
 · rfl
 · rename_i h3
   split at h2
   · simpa using h2
   split at h2
   · simp at h2
   · first|cases h2|(rw[if_neg h3] at h2; cases h2)
theorem ab5 {M:Nat} {c:Cf} {r:Rt} {u:Ru} {m:Int} (hM:20≤M) (h0:0≤u.n) (h8:u.n≤8):bF (aF env M 125 0 11) M (YC c r u m [c.a] 0)=
 .ok (.exit 0,⟨slots 128 [(4,.ptr 0 0),(7,.ptr 1 0),(8,.ptr 2 0),(13,.t (i64 m)),(15,.own 3)],[.box 56 6 (.t c.t),.box 44 6 (.t r.t),.box 42 4 (.agg [.t (i64 0),.own 4,.t (i64 0),.t (i64 0)]),.row 3 1 (ints (List.replicate (1+u.n).toNat c.a)),.row 3 1 []]⟩):=by
 obtain⟨n,hn⟩:∃ n:Nat,u.n=n:=⟨u.n.toNat,by omega⟩
 have hbg:=aU
 have it:=lT (B:=aF env M 125 0 11) (S:=fun(l:List Int) i=>YC c r u m l i)
  (X:=fun l=>⟨slots 128 [(4,.ptr 0 0),(7,.ptr 1 0),(8,.ptr 2 0),(13,.t (i64 m)),(15,.own 3)],[.box 56 6 (.t c.t),.box 44 6 (.t r.t),.box 42 4 (.agg [.t (i64 0),.own 4,.t (i64 0),.t (i64 0)]),.row 3 1 (ints l),.row 3 1 []]⟩) (id:=0)
  (fun l j=>l=List.replicate (j+1) c.a) (fun l (_:Unit)=>l++ [c.a]) (List.replicate n ()) (n:=M) [c.a] (by rw[List.length_replicate]; omega) (fun l j y hy hI=>by
   have hj:j < n:=by have:=(List.getElem?_eq_some_iff.1 hy).1; rw[List.length_replicate] at this; exact this
   refine⟨?_,by rw[hI,List.replicate_succ' (n:=j+1)]⟩
   show aF env M 125 0 11 (YC c r u m l j)=_
   rw[Z7,hn,decide_eq_true (show(j:Int) < (n:Int) by omega)]
   have e0:∀ K:ah (Ex×St),bW (T.mF 1) [i64 c.a] K=K:=fun K=>rfl
   simp only[cond_true,e0]
   rw[decide_eq_true (show((ints l).length+1)*8≤140737488355328 by rw[bg,List.length_map,hI,List.length_replicate]; omega),aN,wrap_succ (show j≤big by omega),show ints l++ [i64 c.a]=ints (l++ [c.a]) by rw[bg,bg,List.map_append]; rfl]
   rfl) (fun l hI=>by
   show aF env M 125 0 11 (YC c r u m l ((List.replicate n ()).length:Nat))=_
   rw[List.length_replicate,Z7,hn,decide_eq_false (show ¬ (n:Int) < (n:Int) by omega)]; rfl) rfl
 have e1:=it.1
 have e2:=it.2
 rw[List.length_replicate] at e2
 rw[e2] at e1
 rw[hn,show(1+(n:Int)).toNat=n+1 by omega]
 exact e1
theorem af0 {M:Nat} {c:Cf} {x:Px} {r:Rt} {s:Sd} {u:Ru} {m:Int} {st:St} (hM:20≤M) (hu:u.n=if u.a=3 then u.n else 0) (h0:0≤u.n) (h8:u.n≤8) (h32:r.p.s.length≤32)
 (hst:st=sOz c x r s u m (fun i=>st.tmps.getD i .junk)):y9 env M 125 8 st= .ok (Gs (if (jV c u r).length≤32 then some ⟨r.p.o,jV c u r,c.d,m⟩ else none)):=by
 have hbg:=aU
 rw[hst]
 refine(amv M c x r s u m _).trans ?_
 have e0:∀ K:ah T,bW (T.mF 1) [i64 c.a] K=K:=fun K=>rfl
 rw[e0]
 by_cases h3:u.a=3
 · rw[h3,beq_self_eq_true]
   simp only[cond_true]
   refine Eq.trans (show _=bC env M 125 11 (YC c r u m [c.a] 0) from rfl) ?_
   refine(aQ (ab5 hM h0 h8)).trans ?_
   refine(Oc M c r m (List.replicate (1+u.n).toNat c.a)).trans ?_
   have hlen:(ints (List.replicate (1+u.n).toNat c.a)).length=(1+u.n).toNat:=by rw[bg,List.length_map,List.length_replicate]
   have hl2:(ints r.p.s).length=r.p.s.length:=by rw[bg,List.length_map]
   have happ:ints (List.replicate (1+u.n).toNat c.a)++ints r.p.s=ints (jV c u r):=by unfold jV; rw[bg,bg,bg,List.map_append]
   have hpl:(jV c u r).length=(1+u.n).toNat+r.p.s.length:=by unfold jV; rw[List.length_append,List.length_replicate]
   rw[happ,hlen,hl2,decide_eq_true (show((1+u.n).toNat+r.p.s.length)*8≤140737488355328 by omega),aN]
   have e1:((ints (jV c u r)).length:Int)=((jV c u r).length:Int):=by rw[bg,List.length_map]
   rw[e1]
   by_cases h4:(jV c u r).length≤32
   · rw[decide_eq_false (show ¬ ((jV c u r).length:Int) > 32 by omega),if_pos h4]; rfl
   · rw[decide_eq_true (show((jV c u r).length:Int) > 32 by omega),if_neg h4]; rfl
 · rw[beq_eq_false_iff_ne.2 h3]
   rw[if_neg h3] at hu
   have hpre:jV c u r=c.a::r.p.s:=by unfold jV; rw[hu]; rfl
   have happ:[i64 c.a]++ints r.p.s=ints (jV c u r):=by rw[hpre]; rfl
   have hl2:(ints r.p.s).length=r.p.s.length:=by rw[bg,List.length_map]
   simp only[cond_false]
   rw[happ,hl2,decide_eq_true (show(1+r.p.s.length)*8≤140737488355328 by omega),aN]
   have e1:((ints (jV c u r)).length:Int)=((jV c u r).length:Int):=by rw[bg,List.length_map]
   rw[e1]
   by_cases h4:(jV c u r).length≤32
   · rw[decide_eq_false (show ¬ ((jV c u r).length:Int) > 32 by omega),if_pos h4]; rfl
   · rw[decide_eq_true (show((jV c u r).length:Int) > 32 by omega),if_neg h4]; rfl
theorem ahU {M:Nat} {c:Cf} {k:Int} {x:Px} {r:Rt} (hM:big+60≤M) (h:c.ok) (hk:aV k=true) (hx:x.ok) (hr:r.ok):ak env (M+1) 125 [c.t,i64 k,x.t,r.t]= .ok (Gs (jU c k x r)):=by
 obtain⟨m,rfl⟩:=dJ (show 1≤M by omega)
 have hbg:=aU
 have hw:T.wfs [c.t,i64 k,x.t,r.t]=true:=by
  have h1:=h.wf; have h2:=aZ hk; have h3:=hx.wf; have h4:=hr.wf
  simp only[T.wfs,h1,h2,h3,h4,Bool.and_self]
 refine(Dc rfl hw).trans ?_
 refine(FT 8).trans ?_
 have key:∀ Kc:St→ah T,(∀ (s:Sd) (u:Ru) (o:Int) (st:St),(u.n=if u.a=3 then u.n else 0)→0≤u.n→u.n≤8→r.p.s.length≤32→st=sOz c x r s u o (fun i=>st.tmps.getD i .junk)→Kc st= .ok (Gs (if (jV c u r).length≤32 then some ⟨r.p.o,jV c u r,c.d,o⟩ else none)))→
  Nk env (m+1) 125 0 8 (oq env 125 [.t (c.t),.t (i64 k),.t (x.t),.t (r.t)]) Kc= .ok (Gs (jU c k x r)):=fun Kc hKc=>?_
 · exact key _ fun s u o st hu h0 h8 h32 hst=>af0 (M:=m+1) (by omega) hu h0 h8 h32 hst
 refine(alL (m+1) c k x r Kc).trans ?_
 rw[aH (Qr (by omega) h)]
 simp only[jW]
 unfold jU
 cases hcs:dH c with
 |false=>rfl
 |true=>
 simp only[Bool.not_true,cond_false,Bool.true_and]
 rw[aH (Qv h hk)]
 simp only[jW]
 cases hh:hasB c k with
 |false=>rfl
 |true=>
 simp only[Bool.not_true,cond_false,Bool.true_and]
 rw[aH (wH (by omega) hx)]
 simp only[jW]
 cases dB x with
 |false=>rfl
 |true=>
 simp only[Bool.not_true,cond_false,Bool.true_and]
 rw[aH (ah7 (by omega) hr)]
 simp only[jW]
 cases hrs:oh r with
 |false=>rfl
 |true=>
 simp only[Bool.not_true,cond_false,Bool.true_and]
 have h32:r.p.s.length≤32:=by
  unfold oh at hrs
  simp only[Bool.and_eq_true,decide_eq_true_eq] at hrs
  exact hrs.2.1
 by_cases h1:r.f=k
 · rw[beq_iff_eq.2 h1,decide_eq_false (show ¬ r.f≠k from fun e=>e h1)]; rfl
 rw[beq_eq_false_iff_ne.2 h1,decide_eq_true (show r.f≠k from h1),List.length_map]
 simp only[cond_false,Bool.true_and]
 by_cases h2:r.f < (c.s.length:Int)
 case neg=>rw[decide_eq_true (show r.f≥(c.s.length:Int) by omega),decide_eq_false h2]; rfl
 rw[decide_eq_false (show ¬ r.f≥(c.s.length:Int) by omega),decide_eq_true h2]
 simp only[cond_false,if_true]
 obtain⟨i,s,rfl,hi,hs⟩:=wI hh
 have ho:=h.s.2 _ (List.mem_of_getElem? hs)
 rw[Int.toNat_natCast,hs,aA (aC hs)]
 have c1:(s.t.cells.length==4&& !s.t.aY)=true:=rfl
 have p1:s.t.ay 1 1 false=i64 s.r:=rfl
 have p3:s.t.ay 3 1 false= .sl 6 (s.o.map Ru.t):=rfl
 have c2:∀ n:Int,((i64 n).cells.length==1&& !(i64 n).aY)=true:=fun n=>rfl
 rw[c1,aN,aH (ah8 (by omega) h hr.f),c2,aN]
 have hv:(BD x r.p (eY c r.f)).ok:=⟨hx,rF hr.p,afg h⟩
 refine(aH (f:=149) (aan (M:=m) (v:=BD x r.p (eY c r.f)) (by omega) ho.o hv)).trans ?_
 show _=ah.ok (Gs (match kM s.o (BD x r.p (eY c r.f)) with|some u=>if u.a=0 then none else(match kL s.r c.a r.p.c with|some m=>if (jV c u r).length≤32 then some ⟨r.p.o,jV c u r,c.d,m⟩ else none|none=>none)|none=>none))
 obtain⟨s1,s2,s3,s4,s5,s6⟩:=mP hcs hs
 have ro:=ah9 (M:=m) ho.r h.a hr.p.c
 cases hp2:kM s.o (BD x r.p (eY c r.f)) with
 |none=>
  have c3:((T.agg [i64 0,i64 0,i64 0,i64 0,i64 0,i64 0]).cells.length==6&& !(T.agg [i64 0,i64 0,i64 0,i64 0,i64 0,i64 0]).aY)=true:=rfl
  simp only[aG,List.getElem?_cons_zero,List.getElem?_cons_succ,c3,aN,p1]
  rw[aH ro]
  rfl
 |some u=>
  have c3:(u.t.cells.length==6&& !u.t.aY)=true:=rfl
  have p4:u.t.ay 4 1 false=i64 u.a:=rfl
  simp only[aG,List.getElem?_cons_zero,List.getElem?_cons_succ,c3,aN,p1]
  rw[aH ro]
  simp only[aG,List.getElem?_cons_zero,List.getElem?_cons_succ,jW,Bool.not_true,cond_false,p4,dI]
  show _=ah.ok (Gs (if u.a=0 then none else match kL s.r c.a r.p.c with|some m=>if (jV c u r).length≤32 then some ⟨r.p.o,jV c u r,c.d,m⟩ else none|none=>none))
  by_cases h4:u.a=0
  · rw[beq_iff_eq.2 h4,if_pos h4]; rfl
  rw[beq_eq_false_iff_ne.2 h4,if_neg h4]
  simp only[cond_false]
  cases hro:kL s.r c.a r.p.c with
  |none=>rfl
  |some o=>
   simp only[Option.isSome_some,Bool.not_true,cond_false,Option.getD_some]
   have hu:=s6 u (sW hp2).1
   obtain⟨u1,u2⟩:=JV hu h4
   exact hKc s u o _ (abR hu h4) u1 u2 h32 (by kernel_rfl)
end
section
open Go.RowKit Go.Proofs
def nV (x:Px) (s:List Px×Bool) (y:Px):List Px×Bool:=((if kE x y < 0∧s.2=false then s.1++ [x] else s.1)++ [y],s.2||decide (kE x y≤0))
theorem J5 (x:Px):∀ (l r:List Px),l.foldl (nV x) (r,true)=(r++l,true)
 | [],r=>by simp
 |y::l,r=>by
  rw[List.foldl_cons,show nV x (r,true) y=(r++ [y],true) by simp[nV],J5 x l]
  simp
theorem U5 (x:Px):∀ (l r:List Px),(l.foldl (nV x) (r,false)).1++(if (l.foldl (nV x) (r,false)).2 then[] else[x])=r++qj x l
 | [],r=>by simp[qj]
 |y::l,r=>by
  rw[List.foldl_cons]
  simp only[qj]
  by_cases h1:kE x y < 0
  · rw[show nV x (r,false) y=(r++ [x]++ [y],true) by simp[nV,h1]; omega,J5,if_pos h1]
    simp
  · rw[if_neg h1]
    by_cases h2:kE x y=0
    · rw[show nV x (r,false) y=(r++ [y],true) by simp[nV,h2],J5,if_pos h2]
      simp
    · rw[show nV x (r,false) y=(r++ [y],false) by simp[nV,h1]; omega,U5 x l,if_neg h2]
      simp
theorem I9 (x:Px):∀ l:List Px,(qj x l).length≤l.length+1
 | []=>by simp[qj]
 |y::l=>by
  simp only[qj]
  split
  · simp
  · split
    · simp
    · have:=I9 x l; simp; omega
variable [Lv]
theorem Qq {M:Nat} {x y:Px} (hx:x.ok) (hy:y.ok):ak env (M+1) 104 [x.t,y.t]= .ok (i64 (kE x y)):=by
 rw[aru,aX (dM hx.wf hy.wf),zV]
 rcases rW x y with ⟨h,e⟩|⟨h,e⟩|⟨h,e⟩
 · rw[e]
   rcases h with h|⟨h,h2⟩
   · rw[decide_eq_true h]; rfl
   · rw[decide_eq_false (by omega),h,beq_self_eq_true,decide_eq_true h2]; rfl
 · rw[e]
   have hne:x≠y:=fun h2=>gG x (by rw[h2] at h ⊢; exact h)
   rw[decide_eq_false hne]
   rcases h with h|⟨h,h2⟩
   · rw[decide_eq_false (by omega),show(x.a==y.a)=false by simp; omega]; rfl
   · rw[decide_eq_false (by omega),h,beq_self_eq_true,decide_eq_false (by omega)]; rfl
 · rw[e]
   subst h
   rw[decide_eq_false (by omega),beq_self_eq_true,decide_eq_false (by omega),decide_eq_true rfl]; rfl
def Me (l:List En) (i:Nat):Bool:=match l[i]? with|some e=> !dB e.x|| !gY e.p||(decide (0 < i)&&NJ l i)|none=>false
theorem ahA {l:List En}:(dF (Me l) 0 l.length).isNone=sG l:=by
 rw[Bool.eq_iff_iff,Option.isNone_iff_eq_none,yF]
 constructor
 · intro h
   have h1:=gI h
   have hs:∀ i (hi:i < l.length),Me l i=false:=fun i hi=>h1 i (by omega) (by omega)
   refine⟨?_,fun e he=>?_⟩
   · rw[←xU]
     unfold uH
     rw[Option.isNone_iff_eq_none]
     cases hu:dF (NJ l) 1 (l.length - 1) with
     |none=>rfl
     |some j=>
      obtain⟨a,b,c⟩:=iK hu
      have hj:j < l.length:=by omega
      have:=hs j hj
      unfold Me at this
      rw[List.getElem?_eq_getElem hj] at this
      simp only[c,decide_eq_true (show 0 < j by omega),Bool.and_true,Bool.or_true] at this
      cases this
   · obtain⟨i,hi,rfl⟩:=List.getElem_of_mem he
     have:=hs i hi
     unfold Me at this
     rw[List.getElem?_eq_getElem hi] at this
     simp only[Bool.or_eq_false_iff,Bool.not_eq_false'] at this
     exact⟨this.1.1,this.1.2⟩
 · rintro⟨h1,h2⟩
   cases hk:dF (Me l) 0 l.length with
   |none=>rfl
   |some j=>
    obtain⟨_,b,c⟩:=iK hk
    have hj:j < l.length:=by omega
    obtain⟨p1,p2⟩:=h2 l[j] (List.getElem_mem hj)
    unfold Me at c
    rw[List.getElem?_eq_getElem hj] at c
    simp only[p1,p2,Bool.not_true,Bool.false_or,Bool.and_eq_true,decide_eq_true_eq] at c
    obtain⟨c1,c2⟩:=c
    rw[←xU] at h1
    unfold uH at h1
    rw[Option.isNone_iff_eq_none] at h1
    have:=gI h1 j (by omega) (by omega)
    rw[this] at c2
    cases c2
theorem aik {M:Nat} {l:List En} (hM:big+50≤M) (hl:cO En.ok l):ak env (M+1) 188 [.sl 6 (l.map En.t)]= .ok (.bool (sG l)):=by
 obtain⟨m,rfl⟩:=dJ (show 1≤M by omega)
 have hb:=hl.1
 rw[asr,aX (gJ (dD (fun _ h=>En.ok.wf h) hl))]
 have:=J9 (N:=m+1) (F:=188) (r:=2) (id:=0) (S:=fun j=>sS8 l (j:Int)) (R:=fun _=>⟨slots 45 [(2,.t (.bool false))],[]⟩) (X:=⟨slots 45 [],[]⟩) (Me l) (k:=l.length) (by omega) (fun j hj=>by
  have e1:l[j]? =some l[j]:=List.getElem?_eq_getElem hj
  have ho:=hl.2 _ (List.getElem_mem hj)
  rw[aei,decide_eq_true (by rw[List.length_map]; omega)]
  simp only[cond_true]
  rw[aA (aC e1),show(l[j].t.ay 0 2 true)=l[j].x.t from rfl,bJ (wH (by omega) ho.x)]
  unfold Me
  rw[e1]
  simp only[]
  cases dB l[j].x with
  |false=>rfl
  |true=>
   simp only[Bool.not_true,cond_false,Bool.false_or]
   rw[aA (aC e1),show(l[j].t.ay 2 4 true)=l[j].p.t from rfl,bJ (Qw (by omega) ho.p)]
   cases gY l[j].p with
   |false=>rfl
   |true=>
    simp only[Bool.not_true,cond_false,Bool.false_or]
    by_cases h0:0 < j
    · have e0:l[j - 1]? =some l[j - 1]:=List.getElem?_eq_getElem (by omega)
      rw[decide_eq_true (show(j:Int) > 0 by omega),decide_eq_true h0]
      simp only[cond_true,Bool.true_and]
      rw[show IntKind.i64.wrap ((j:Int) - 1)=((j - 1:Nat):Int) by rw[wrap64 (by have:=aU; omega)]; omega,aA (aC e0),aA (aC e1),show(l[j].t.ay 0 2 true)=l[j].x.t from rfl,show(l[j - 1].t.ay 0 2 true)=l[j - 1].x.t from rfl,
       nG (Qq (hl.2 _ (List.getElem_mem _)).x ho.x),wrap_succ (show j≤big by omega)]
      unfold NJ
      rw[e0,e1]
    · rw[decide_eq_false (show ¬ (j:Int) > 0 by omega),decide_eq_false h0,wrap_succ (show j≤big by omega)]
      rfl) (by rw[aei,decide_eq_false (by rw[List.length_map]; omega)]; rfl)
 refine this.trans ?_
 rw[←ahA]
 cases dF (Me l) 0 l.length with
 |none=>exact SV _
 |some j=>exact ZJ _ _
theorem ah3 {M:Nat} {l:List En} (hM:big+51≤M) (hl:cO En.ok l):ak env (M+1) 143 [.sl 6 (l.map En.t)]= .ok (.sl 6 ((known l).map En.t)):=by
 obtain⟨m,rfl⟩:=dJ (show 1≤M by omega)
 rw[arV,aX (gJ (dD (fun _ h=>En.ok.wf h) hl)),bJ (aik (by omega) hl)]
 unfold known
 cases sG l<;>rfl
theorem abZ {l:List En} (hl:cO En.ok l):cO En.ok (known l):=⟨Nat.le_trans (Gh l) hl.1,fun e he=>hl.2 e (lU he)⟩
theorem F7 {α:Type} (q:α→Bool):∀ (l:List α) (i:Nat) (p:Nat→Bool),(∀ j x,l[j]? =some x→p (i+j)=q x)→l.find? q=(dF p i l.length).bind fun j=>l[j - i]?
 | [],i,p,_=>rfl
 |x::l,i,p,h=>by
  have h0:=h 0 x rfl
  rw[Nat.add_zero] at h0
  rw[List.find?_cons]
  simp only[List.length_cons,dF]
  rw[h0]
  cases q x with
  |true=>simp
  |false=>
   simp only[cond_false]
   rw[F7 q l (i+1) p fun j y hy=>by rw[show i+1+j=i+(j+1) by omega]; exact h (j+1) y (by simpa using hy)]
   cases hs:dF p (i+1) l.length with
   |none=>rfl
   |some j=>
    have:=(iK hs).1
    simp only[Option.bind_some]
    rw[show j - i=(j - (i+1))+1 by omega,List.getElem?_cons_succ]
theorem ahL {M:Nat} {l:List En} {x:Px} (hM:big+53≤M) (hl:cO En.ok l) (hx:x.ok):ak env (M+1) 108 [.sl 6 (l.map En.t),x.t]= .ok (.au [((pF l x).getD Pa.none).t,.bool (pF l x).isSome]):=by
 obtain⟨m,rfl⟩:=dJ (show 1≤M by omega)
 have hk:=abZ hl
 have hb:=hk.1
 rw[arz,aX (dM (dD (fun _ h=>En.ok.wf h) hl) hx.wf),aH (ah3 (by omega) hl)]
 generalize hL:known l=L at hk hb
 let p:Nat→Bool:=fun j=>match L[j]? with|some e=>Ba e.x x|none=>false
 have hp:∀ j e,L[j]? =some e→p j=Ba e.x x:=fun j e he=>by show(match L[j]? with|some e=>Ba e.x x|none=>false)=_; rw[he]
 have:=J9 (N:=m+1) (F:=108) (r:=3) (id:=0) (S:=fun j=>sG8 L x (j:Int)) (R:=fun j=>⟨slots 29 [(4,.ptr 0 0),(5,.t (.bool true))],[.box 42 4 (.t ((L.getD j ⟨⟨0,0⟩,Pa.none⟩).p.t))]⟩)
  (X:=⟨slots 29 [(4,.ptr 0 0)],[.box 42 4 (.agg [.t (i64 0),.own 1,.t (i64 0),.t (i64 0)]),.row 3 1 []]⟩) p (k:=L.length) (by omega) (fun j hj=>by
  have e1:L[j]? =some L[j]:=List.getElem?_eq_getElem hj
  rw[ad6,decide_eq_true (by rw[List.length_map]; omega)]
  simp only[cond_true]
  rw[aA (aC e1),show(L[j].t.ay 0 2 true)=L[j].x.t from rfl,yT,hp j _ e1,show Ba L[j].x x=decide (L[j].x=x) from zV _ _]
  simp only[]
  cases decide (L[j].x=x) with
  |true=>
   simp only[cond_true]
   rw[aA (aC e1),show(L[j].t.ay 2 4 true)=L[j].p.t from rfl,XP,aN,List.getD_eq_getElem?_getD,e1]; rfl
  |false=>rw[wrap_succ (show j≤big by omega)]; rfl) (by rw[ad6,decide_eq_false (by rw[List.length_map]; omega)]; rfl)
 refine this.trans ?_
 have hg:pF l x=((dF p 0 L.length).bind fun j=>L[j]?).map (·.p):=by
  unfold pF
  rw[hL,F7 (fun e=>Ba e.x x) L 0 p fun j e he=>by rw[Nat.zero_add]; exact hp j e he]
  simp
 rw[hg]
 cases hs:dF p 0 L.length with
 |none=>exact Sl _
 |some j=>
  have hj:j < L.length:=by have:=(iK hs).2.1; omega
  have e1:L[j]? =some L[j]:=List.getElem?_eq_getElem hj
  simp only[Option.bind_some]
  rw[List.getD_eq_getElem?_getD,e1]
  exact Zx _ _ _
theorem ahK {M:Nat} {n:Int} (h:aV n=true):ak env (M+1) 107 [i64 n]= .ok (yA n).t:=by
 rw[arx,aX (gJ (aZ h))]; rfl
theorem yL {M:Nat} {a b:Int} (ha:aV a=true) (hb:aV b=true):ak env (M+1) 139 [i64 a,i64 b]= .ok (i64 (dw a b)):=by
 rw[arR,aX (dM (aZ ha) (aZ hb))]
 unfold dw
 by_cases h:a < b
 · rw[decide_eq_true h,if_pos h]; rfl
 · rw[decide_eq_false h,if_neg h]
   by_cases h2:b < a
   · rw[decide_eq_true (show a > b from h2),if_pos h2]; rfl
   · rw[decide_eq_false (show ¬ a > b from h2),if_neg h2]; rfl
theorem QA:∀ l m:List Int,xk (l++m)=if xk l=0 then xk m else xk l
 | [],m=>by simp[xk]
 |a::l,m=>by
  have e1:xk (a::l)=if a=0 then xk l else a:=rfl
  have e2:xk (a::(l++m))=if a=0 then xk (l++m) else a:=rfl
  show xk (a::(l++m))=_
  by_cases h:a=0
  · rw[if_pos h] at e1 e2
    rw[e1,e2]; exact QA l m
  · rw[if_neg h] at e1 e2
    rw[e1,e2,if_neg h]
theorem aau:∀ (l m:List Int),l.length=m.length→xk ((l.zip m).map fun p=>dw p.1 p.2)=cmpL l m
 | [],[],_=>rfl
 | [],_::_,h=>by simp at h
 |_::_,[],h=>by simp at h
 |a::l,b::m,h=>by
  simp only[List.zip_cons_cons,List.map_cons,xk,cmpL]
  by_cases e:a=b
  · rw[if_pos e,if_pos (kR.2 e)]; exact aau l m (by simpa using h)
  · rw[if_neg e,if_neg (fun h=>e (kR.1 h))]
theorem afp (a b:Rt):xk ([dw b.n a.n,dw a.p.s.length b.p.s.length,dw a.p.o b.p.o]++((a.p.s.zip b.p.s).map fun p=>dw p.1 p.2)++ [dw a.p.h b.p.h,dw a.p.c b.p.c,dw a.f b.f])=jy a b:=by
 rw[List.append_assoc,QA]
 unfold jy
 by_cases h1:dw b.n a.n=0
 case neg=>simp only[xk,h1,if_false]
 by_cases h2:dw (a.p.s.length:Int) (b.p.s.length:Int)=0
 case neg=>simp only[xk,h1,h2,if_true,if_false]
 by_cases h3:dw a.p.o b.p.o=0
 case neg=>simp only[xk,h1,h2,h3,if_true,if_false]
 have hl:a.p.s.length=b.p.s.length:=by have:=kR.1 h2; omega
 rw[QA,aau _ _ hl]
 simp only[xk,h1,h2,h3,if_true]
theorem ahJ {M:Nat} {a b:Rt} (hM:big+3≤M) (ha:a.ok) (hb:b.ok) (hs:(a.p.s.length+6)*8≤big):ak env (M+1) 105 [a.t,b.t]= .ok (i64 (jy a b)):=by
 obtain⟨m,rfl⟩:=dJ (show 1≤M by omega)
 have hbig:=aU
 have ni:∀ n:Nat,n≤big→aV (n:Int)=true:=fun n hn=>iH.2 (by omega)
 have la:=ha.p.l
 have lb:=hb.p.l
 rw[arv,aX (dM ha.wf hb.wf),aH (yL hb.n ha.n),bg,bg,List.length_map,List.length_map,aH (yL (ni _ la) (ni _ lb)),aH (yL ha.p.o hb.p.o)]
 rw[show bW (T.mF 1) [i64 (dw b.n a.n),i64 (dw a.p.s.length b.p.s.length),i64 (dw a.p.o b.p.o)]=fun(K:ah T)=>K from rfl]
 have hz:(a.p.s.zip b.p.s).length≤a.p.s.length:=by rw[List.length_zip]; omega
 have hz2:(a.p.s.zip b.p.s).length=min a.p.s.length b.p.s.length:=List.length_zip
 have f1:=oV (N:=m+1) (F:=105) (r:=3) (id:=0) (S:=fun(l:List Int) j=>aoo a b l (j:Int)) (X:=fun l=>⟨slots 99 [(2,.ptr 0 0),(3,.ptr 1 0),(5,.own 2)],[.box 44 6 (.t a.t),.box 44 6 (.t b.t),.row 3 1 (ints l)]⟩) (fun(l:List Int) j=>l.length=j+3)
  (fun l (p:Int×Int)=>l++ [dw p.1 p.2]) (a.p.s.zip b.p.s) [dw b.n a.n,dw a.p.s.length b.p.s.length,dw a.p.o b.p.o] (by omega) (fun l j p hp hI=>by
   obtain⟨p1,p2⟩:=XW hp
   have hj:j < (a.p.s.zip b.p.s).length:=(List.getElem?_eq_some_iff.1 hp).1
   rw[ad4,decide_eq_true (by rw[bg,List.length_map]; omega),decide_eq_true (by rw[bg,List.length_map]; omega)]
   simp only[cond_true]
   rw[aA (iV p1),aA (iV p2),aH (yL (ha.p.s _ (List.mem_of_getElem? p1)) (hb.p.s _ (List.mem_of_getElem? p2)))]
   rw[show bW (T.mF 1) [i64 (dw p.1 p.2)]=fun(K:ah (Ex×St))=>K from rfl,decide_eq_true (by rw[bg,List.length_map]; omega),aN,wrap_succ (show j≤big by omega),show ints l++ [i64 (dw p.1 p.2)]=ints (l++ [dw p.1 p.2]) by simp[ints]]
   exact⟨rfl,by simp; omega⟩) (fun l hI=>by
   rw[ad4]
   by_cases h:a.p.s.length≤b.p.s.length
   · rw[decide_eq_false (by rw[bg,List.length_map]; omega)]; rfl
   · rw[decide_eq_true (by rw[bg,List.length_map]; omega),decide_eq_false (by rw[bg,List.length_map]; omega)]; rfl) rfl
 obtain⟨f1,f2⟩:=f1
 have hfold:∀ (z:List (Int×Int)) (l:List Int),z.foldl (fun l p=>l++ [dw p.1 p.2]) l=l++z.map fun p=>dw p.1 p.2:=by
  intro z
  induction z with
  |nil=>simp
  |cons p z ih=>intro l; rw[List.foldl_cons,ih]; simp
 rw[hfold] at f1 f2
 refine f1.trans ((Si _ _ _ _).trans ?_)
 rw[aH (yL ha.p.h hb.p.h),aH (yL ha.p.c hb.p.c),aH (yL ha.f hb.f)]
 rw[show bW (T.mF 1) [i64 (dw a.p.h b.p.h),i64 (dw a.p.c b.p.c),i64 (dw a.f b.f)]=fun(K:ah T)=>K from rfl,decide_eq_true (by rw[bg,List.length_map,f2]; omega),aN]
 rw[show ∀ l:List Int,ints l++ [i64 (dw a.p.h b.p.h),i64 (dw a.p.c b.p.c),i64 (dw a.f b.f)]=ints (l++ [dw a.p.h b.p.h,dw a.p.c b.p.c,dw a.f b.f]) by intro l; simp[ints],←afp]
 generalize hv:[dw b.n a.n,dw a.p.s.length b.p.s.length,dw a.p.o b.p.o]++((a.p.s.zip b.p.s).map fun p=>dw p.1 p.2)++ [dw a.p.h b.p.h,dw a.p.c b.p.c,dw a.f b.f]=vs
 have hvl:vs.length≤a.p.s.length+6:=by rw[←hv]; simp; omega
 have hloop:=JQ (B:=aF env (m+1) 105 0 8) (S:=fun j=>ak3 vs (j:Int)) (R:=fun v=>⟨slots 99 [(4,.t (i64 v))],[]⟩) (X:=⟨slots 99 [],[]⟩) (id:=2) vs 0 (m+1) (fun j v hv=>by
  have hj:j < vs.length:=(List.getElem?_eq_some_iff.1 hv).1
  rw[Nat.zero_add,ad5,decide_eq_true (by rw[bg,List.length_map]; omega),show(decide ((0:Int)≤(j:Int)))=true by simp]
  simp only[cond_true,Bool.and_self,aN,Int.toNat_natCast]
  rw[show(ints vs).getD j T.dS=i64 v by rw[List.getD_eq_getElem?_getD,iV hv]; rfl]
  simp only[dI]
  by_cases h0:v=0
  · rw[if_pos h0,h0,wrap_succ (show j≤big by omega)]; rfl
  · rw[if_neg h0,show(v !=0)=true by simp[h0]]; rfl) (by rw[Nat.zero_add,ad5,decide_eq_false (by rw[bg,List.length_map]; omega)]; rfl) (by omega)
 by_cases h0:xk vs=0
 · rw[if_pos h0] at hloop
   rw[h0]
   exact(aQ hloop).trans (Sj _)
 · rw[if_neg h0] at hloop
   exact(aQ hloop).trans (Zw _ _)
theorem amc {M:Nat} {l:List Rt} (hM:big+5≤M) (hl:cO Rt.ok l) (hs:∀ r∈l,(r.p.s.length+6)*8≤big):ak env (M+1) 78 [.sl 6 (l.map Rt.t)]= .ok (I5 (qw l)):=by
 obtain⟨m,rfl⟩:=dJ (show 1≤M by omega)
 rw[q78,aX (gJ (dD (fun _ h=>Rt.ok.wf h) hl)),List.length_map]
 cases l with
 |nil=>rfl
 |cons r l=>
  have hb:=hl.1
  simp only[List.length_cons] at hb
  rw[show(((r::l).length:Int)==0)=false by simp; omega]
  simp only[cond_false]
  rw[show bK ((r::l).map Rt.t) 0=fun K:T→ah T=>K r.t from by funext K; exact aA (i:=0) rfl]
  simp only[]
  rw[tq,aN]
  refine((oV (S:=fun(b:Rt) j=>sBs (r::l) b ((j+1:Nat):Int)) (X:=fun b=>⟨slots 31 [(2,.ptr 0 0),(4,.ptr 1 0)],[.box 44 6 (.agg [.t (i64 0),.t (i64 0),.own 2,.t (i64 0),.t (i64 0),.t (i64 0)]),.box 44 6 (.t b.t),.row 3 1 []]⟩) (id:=0) (fun b _=>b.ok) (fun b r=>if jy r b < 0 then r else b) l r (by omega) (fun b j x hx hI=>?_) (fun b hI=>?_) (hl.2 r List.mem_cons_self)).1).trans ((Xb _ _).trans rfl)
  · have hj:j < l.length:=(List.getElem?_eq_some_iff.1 hx).1
    have hx':(r::l)[j+1]? =some x:=by simpa using hx
    have hm:=List.mem_cons_of_mem r (List.mem_of_getElem? hx)
    have ho:=hl.2 x hm
    rw[ajV,decide_eq_true (by rw[List.length_map,List.length_cons]; omega)]
    simp only[cond_true]
    rw[aA (aC hx'),nG (ahJ (by omega) ho hI (hs x hm))]
    rw[aA (aC hx'),tq,aN,wrap_succ (show j+1≤big by omega)]
    by_cases hc:jy x b < 0
    · rw[decide_eq_true hc,if_pos hc]; exact⟨rfl,ho⟩
    · rw[decide_eq_false hc,if_neg hc]; exact⟨rfl,hI⟩
  · rw[ajV,decide_eq_false (by rw[List.length_map,List.length_cons]; omega)]; rfl
set_option maxHeartbeats 4000000 in
theorem aeO {M:Nat} {l:List Px} {x:Px} (hM:big+2≤M) (hl:cO Px.ok l) (hc:(l.length+2)*16≤big) (hx:x.ok):ak env (M+1) 77 [.sl 2 (l.map Px.t),x.t]= .ok (.sl 2 ((qj x l).map Px.t)):=by
 obtain⟨m,rfl⟩:=dJ (show 1≤M by omega)
 have hb:=hl.1
 have hbig:=aU
 rw[q77,aX (dM (dD (fun _ h=>Px.ok.wf h) hl) hx.wf)]
 have c2:∀ (y:Px) (K:ah (Ex×St)),bW (T.mF 2) [y.t] K=K:=fun y K=>rfl
 have app:∀ (r:List Px) (y:Px),r.map Px.t++ [y.t]=(r++ [y]).map Px.t:=fun r y=>by simp
 have:=oV (N:=m+1) (F:=77) (r:=4) (id:=0) (S:=fun(s:List Px×Bool) j=>sPt l x s.1 s.2 (j:Int)) (X:=fun s=>⟨slots 50 [(3,.ptr 0 0),(5,.own 1),(6,.t (.bool s.2))],[.box 25 2 (.t x.t),.row 25 2 (s.1.map Px.t)]⟩)
  (fun(s:List Px×Bool) j=>s.1.length≤j+(if s.2 then 1 else 0)) (nV x) l ([],false) (by omega) (fun s j y hy hI=>by
   obtain⟨r,d⟩:=s
   have hj:j < l.length:=(List.getElem?_eq_some_iff.1 hy).1
   simp only at hI ⊢
   have hr:r.length≤j+1:=by split at hI<;>omega
   rw[ajU,decide_eq_true (by rw[List.length_map]; omega)]
   simp only[cond_true]
   rw[aA (aC hy),aH (Qq hx (hl.2 y (List.mem_of_getElem? hy)))]
   simp only[dI]
   by_cases h1:kE x y < 0
   · rw[decide_eq_true h1]
     simp only[cond_true]
     cases d with
     |true=>
      simp only[Bool.not_true,cond_false,cond_true]
      rw[aA (aC hy),c2,decide_eq_true (by rw[List.length_map]; omega),aN,app,wrap_succ (show j≤big by omega)]
      refine⟨?_,?_⟩
      · simp[nV,sPt]
      · simp[nV]; simpa using hI
     |false=>
      simp only[Bool.not_false,cond_true,cond_false]
      rw[c2,decide_eq_true (by rw[List.length_map]; omega),aN,aA (aC hy),c2,decide_eq_true (by rw[List.length_append,List.length_map]; simp; omega),aN,app,app,wrap_succ (show j≤big by omega),decide_eq_true (show kE x y≤0 by omega)]
      refine⟨?_,?_⟩
      · have h2:kE x y≤0:=by omega
        simp[nV,sPt,h1,h2]
      · have h2:kE x y≤0:=by omega
        simp[nV,h1,h2]; simpa using hI
   · rw[decide_eq_false h1]
     simp only[cond_false]
     cases d with
     |true=>
      simp only[cond_true]
      rw[aA (aC hy),c2,decide_eq_true (by rw[List.length_map]; omega),aN,app,wrap_succ (show j≤big by omega)]
      refine⟨?_,?_⟩
      · simp[nV,sPt]
      · simp[nV]; simpa using hI
     |false=>
      simp only[cond_false]
      rw[aA (aC hy),c2,decide_eq_true (by rw[List.length_map]; omega),aN,app,wrap_succ (show j≤big by omega)]
      refine⟨?_,?_⟩
      · simp[nV,sPt,h1]
      · simp[nV,h1]; split<;>simp at hI<;>omega) (fun s hI=>by
   rw[ajU,decide_eq_false (by rw[List.length_map]; omega)]; rfl) (by simp)
 obtain⟨g1,g2⟩:=this
 refine g1.trans ((Xa _ _ _ _).trans ?_)
 have hf:=U5 x l []
 rw[List.nil_append] at hf
 rw[←hf]
 generalize l.foldl (nV x) ([],false)=s at g2
 obtain⟨r,d⟩:=s
 simp only at g2 ⊢
 cases d with
 |true=>simp
 |false=>
  simp only[Bool.not_false,cond_true,Bool.false_eq_true,if_false]
  rw[show ∀ K:ah T,bW (T.mF 2) [x.t] K=K from fun K=>rfl,decide_eq_true (by rw[List.length_map]; simp at g2; omega),aN,app]
end
end Go.aT
