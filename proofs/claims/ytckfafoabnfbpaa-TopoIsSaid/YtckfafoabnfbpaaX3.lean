/- The texts of a proof, one behind the other: an interpreter and its soundness, what the functions of the program answer, and plain laws on that. -/
import Derived.Test.YtckfafoabnfbpaaX2
import Derived.Test.YtckfafoabnfbpaaX1
import Derived.Test.YtckfafoabnfbpaaK9
import Derived.Test.YtckfafoabnfbpaaK10
set_option linter.unusedVariables false
set_option linter.unusedSimpArgs false
set_option linter.unnecessarySimpa false
set_option linter.unusedSectionVars false
set_option maxRecDepth 100000
namespace Go.aO
section
open Go.RowKit Go.Proofs
def DT (c:Cf):Prop:=∀ s∈c.s,s.i.length*48≤big∧s.o.length*48≤big
theorem uh (s:Sd):s.t.ah 1 1 false=i64 s.r:=rfl
theorem aew (s:Sd):s.t.ah 3 1 false= .sl 6 (s.o.map Ru.t):=rfl
theorem vT (s:Sd):(s.t.cells.length==4&& !s.t.dS)=true:=rfl
theorem BD {c:Cf} (h:dZ c=true):DT c:=fun s hs=>by
 have:=tJ h hs
 have hb:=bH
 unfold nP qU at this
 simp only[Bool.and_eq_true,decide_eq_true_eq] at this
 omega
theorem Vy {c:Cf} {n:Int} (h:(idxOf c n).isSome=true):0≤dO c n∧dO c n < c.s.length:=by
 unfold dO
 cases h1:idxOf c n with
 |none=>rw[h1] at h; cases h
 |some i=>
  have:=(List.findIdx?_eq_some_iff_getElem.1 h1).1
  simp only[Option.getD_some]
  omega
theorem zu {c:Cf} (h:c.ok) (n:Int):aS (dO c n)=true:=by
 have hb:=bH
 cases h1:idxOf c n with
 |none=>unfold dO; rw[h1]; rfl
 |some i=>have:=Vy (c:=c) (n:=n) (by rw[h1]; rfl); have:=h.s.1; exact lM.2 (by omega)
variable [Lv]
theorem aco {M:Nat} {c:Cf} {n:Int} (hM:big+7≤M) (h:c.ok) (hn:aS n=true) (hs:DT c):
 aB env (M+1) 49 [c.t,i64 n]= .ok (.ak [i64 ((gU c n).getD 0),.bool (gU c n).isSome]):=by
 obtain⟨m,rfl⟩:=gV (show 1≤M by omega)
 have hw:=iY h.wf (bC hn)
 have hout:gU c n=none→n < 0∨n≥c.s.length→aB env (m+1+1) 49 [c.t,i64 n]= .ok (.ak [i64 ((gU c n).getD 0),.bool (gU c n).isSome]):=fun hh ho=>by
  have hp:=TA (M:=m) (l:=[]) (k:=0) (b:=false) (e:=45) (n:=6) (x:=c.t) (by omega) ⟨Nat.zero_le _,fun _ h=>by cases h⟩ (by simp) rfl
  refine su (ps:=[vP [] 0 false 45 6 c.t (.t .dh) [.box 45 6 (.t c.t)]]) ⟨hp,trivial⟩ hw rfl ?_
  refine(aed (m+1) c n 0 []).trans ?_
  rw[hh]
  by_cases h0:n < 0
  · rw[decide_eq_true h0]; rfl
  · rw[decide_eq_false h0,decide_eq_true (show n≥((c.s.map Sd.t).length:Int) by rw[List.length_map]; omega)]; rfl
 by_cases h0:n < 0
 · exact hout (by unfold gU; rw[if_neg (by omega)]) (.inl h0)
 by_cases h1:n≥c.s.length
 · exact hout (by unfold gU; rw[if_pos (by omega),List.getElem?_eq_none (by omega)]) (.inr h1)
 obtain⟨i,rfl⟩:∃ i:Nat,n=i:=⟨n.toNat,by omega⟩
 have hi:i < c.s.length:=by omega
 have hx:c.s[i]? =some c.s[i]:=List.getElem?_eq_getElem hi
 have hm:=List.mem_of_getElem? hx
 have ho:=h.s.2 _ hm
 have hhi:gU c i=(mY false none (bI c.s[i].i c.s[i].r)).map (·.n):=by unfold gU; rw[if_pos (by omega),Int.toNat_natCast,hx]
 have hp:=TA (M:=m) (l:=c.s[i].i) (k:=c.s[i].r) (b:=false) (e:=45) (n:=6) (x:=c.t) (by omega) ho.i (hs _ hm).1 ho.r
 rw[hhi]
 cases hk:mY false none (bI c.s[i].i c.s[i].r) with
 |none=>
  rw[hk] at hp
  refine su (ps:=[vP c.s[i].i c.s[i].r false 45 6 c.t (.t .dh) [.box 45 6 (.t c.t)]]) ⟨hp,trivial⟩ hw rfl ?_
  refine(aed (m+1) c i c.s[i].r c.s[i].i).trans ?_
  rw[decide_eq_false h0,decide_eq_false (show ¬ (i:Int)≥((c.s.map Sd.t).length:Int) by rw[List.length_map]; omega)]
  simp only[cond_false,aF (aI hx)]
  refine(qO (by refine⟨?_,?_⟩<;>first|trivial|rfl)).trans ?_
  have:=q62 m
  rw[aV this]; rfl
 |some r=>
  rw[hk] at hp
  refine su (ps:=[vP c.s[i].i c.s[i].r false 45 6 c.t (.ptr 1 5) [.box 45 6 (.t c.t),.box 72 6 (.t r.t)],NZ [.box 45 6 (.t c.t),.box 72 6 (.t r.t)] 1 r]) ⟨hp,ado _ _ _ _,trivial⟩ hw rfl ?_
  refine(ac6 (m+1) c i c.s[i].r c.s[i].i r).trans ?_
  rw[decide_eq_false h0,decide_eq_false (show ¬ (i:Int)≥((c.s.map Sd.t).length:Int) by rw[List.length_map]; omega)]
  simp only[cond_false,aF (aI hx)]
  refine(qO (by refine⟨?_,?_⟩<;>first|trivial|rfl)).trans ?_
  exact qO (by refine⟨?_,?_⟩<;>first|trivial|rfl)
theorem acz {M:Nat} {r:Ru} (h:r.ok):aB env (M+1) 66 [r.t]= .ok (.bool (r.a !=0)):=by
 rw[q66,dA (jD h.wf)]
theorem acr {M:Nat} {c:Cf} {k n:Int} (hM:big+6≤M) (h:c.ok) (hk:aS k=true) (hn:aS n=true) (hs:DT c):
 aB env (M+1) 51 [c.t,i64 k,i64 n]= .ok (.bool (uT c k n)):=by
 obtain⟨m,rfl⟩:=gV (show 1≤M by omega)
 obtain⟨m,rfl⟩:=gV (show 1≤m by omega)
 rw[q51,dA (show T.wfs [c.t,i64 k,i64 n]=true from FY h.wf (bC hk) (bC hn))]
 unfold uT
 by_cases h0:k < 0
 · rw[decide_eq_true h0,if_neg (by omega)]; rfl
 rw[decide_eq_false h0,if_pos (by omega)]
 by_cases h1:k≥c.s.length
 · rw[decide_eq_true (by rw[List.length_map]; omega),List.getElem?_eq_none (by omega)]; rfl
 rw[decide_eq_false (by rw[List.length_map]; omega)]
 obtain⟨i,rfl⟩:∃ i:Nat,k=i:=⟨k.toNat,by omega⟩
 have hi:i < c.s.length:=by omega
 have hx:c.s[i]? =some c.s[i]:=List.getElem?_eq_getElem hi
 have hm:=List.mem_of_getElem? hx
 have ho:=h.s.2 _ hm
 rw[Int.toNat_natCast,hx]
 simp only[cond_false,aF (aI hx),aew]
 rw[aV (ND (by omega) ho.o (hs _ hm).2 hn)]
 have hr:=D9 n ho.o
 rw[aV (Uj (q:=fun r=>r.a !=0) (by omega) hr rfl rfl fun r hr'=>by
  obtain⟨m,rfl⟩:=gV (show 1≤m by omega); exact acz (hr.2 r hr'))]
def VK (k:Int) (w:Option Ru) (s:Sd):Option Ru:=if s.r=k then mY true w (bI s.i k) else w
theorem QS (c:Cf) (k:Int):QO c k=c.s.foldl (VK k) none:=rfl
def stL (c:Cf) (k:Int) (w:Option Ru) (i:Nat):St:=match w with|none=>FV c k (i:Nat)|some w=>Di c w k (i:Nat)
def aeC:Option Ru→St|none=>⟨slots 32 [(6,.t .dh)],[]⟩|some w=>⟨slots 32 [(6,.ptr 0 5)],[.box 72 6 (.t w.t)]⟩
theorem Vb {m:Nat} {c:Cf} {k:Int} (hM:big+6≤m) (h:c.ok) (hk:aS k=true) (hs:DT c) {w:Option Ru} {j:Nat} {s:Sd} (hx:c.s[j]? =some s):
 aT env (m+1) 50 0 5 (stL c k w j)= .ok (.norm,stL c k (VK k w s) (j+1)):=by
 have hj:j < c.s.length:=(List.getElem?_eq_some_iff.1 hx).1
 have hb:=h.s.1
 have hm:=List.mem_of_getElem? hx
 have ho:=h.s.2 _ hm
 have hd:decide ((j:Int) < ((c.s.map Sd.t).length:Int))=true:=decide_eq_true (by rw[List.length_map]; omega)
 have hwr:=wrap_succ (show j≤big by omega)
 unfold VK
 by_cases hr:s.r=k
 case neg=>
  rw[if_neg hr]
  cases w with
  |none=>
   refine lY (ps:=[]) trivial ?_
   refine(UA (m+1) c k j).trans ?_
   rw[hd]
   simp only[cond_true,aF (aI hx),vT,bD,uh,bM,beq_eq_false_iff_ne.2 hr,cond_false,hwr]; rfl
  |some v=>
   refine lY (ps:=[]) trivial ?_
   refine(KH (m+1) c v k j).trans ?_
   rw[hd]
   simp only[cond_true,aF (aI hx),vT,bD,uh,bM,beq_eq_false_iff_ne.2 hr,cond_false,hwr]; rfl
 rw[if_pos hr]
 have hbq:(s.r==k)=true:=beq_iff_eq.2 hr
 cases w with
 |none=>
  have hp:=TA (M:=m) (l:=s.i) (k:=k) (b:=true) (e:=48) (n:=4) (x:=s.t) (by omega) ho.i (hs _ hm).1 hk
  cases hq:mY true none (bI s.i k) with
  |none=>
   rw[hq] at hp
   refine lY (ps:=[vP s.i k true 48 4 s.t (.t .dh) [.box 48 4 (.t s.t)]]) ⟨hp,trivial⟩ ?_
   refine(Vo (m+1) c s.i s.t k j).trans ?_
   rw[hd]
   simp only[cond_true,aF (aI hx),vT,bD,uh,bM,hbq,hwr]
   exact qO (by refine⟨?_,?_⟩<;>first|trivial|rfl)
  |some r=>
   rw[hq] at hp
   refine lY (ps:=[vP s.i k true 48 4 s.t (.ptr 1 5) [.box 48 4 (.t s.t),.box 72 6 (.t r.t)]]) ⟨hp,trivial⟩ ?_
   refine(Vp (m+1) c s.i s.t r k j).trans ?_
   rw[hd]
   simp only[cond_true,aF (aI hx),vT,bD,uh,bM,hbq,hwr]
   exact qO (by refine⟨?_,?_⟩<;>first|trivial|rfl)
 |some v=>
  have hp:=aeU (M:=m) (l:=s.i) (k:=k) (b:=true) (e:=48) (n:=4) (x:=s.t) (w:=v) (by omega) ho.i (hs _ hm).1 hk
  have hsk:mY true (some v) (bI s.i k)=some (((bI s.i k).foldl (uH true v) none).getD v):=EY true v (bI s.i k) none
  rw[hsk]
  cases hq:(bI s.i k).foldl (uH true v) none with
  |none=>
   rw[hq] at hp
   refine lY (ps:=[Jh s.i k true 48 4 s.t v (.ptr 0 5) [.box 72 6 (.t v.t),.box 48 4 (.t s.t)]]) ⟨hp,trivial⟩ ?_
   refine(Vq (m+1) c s.i s.t v k j).trans ?_
   rw[hd]
   simp only[cond_true,aF (aI hx),vT,bD,uh,bM,hbq,hwr]
   exact qO (by refine⟨?_,?_⟩<;>first|trivial|rfl)
  |some r=>
   rw[hq] at hp
   refine lY (ps:=[Jh s.i k true 48 4 s.t v (.ptr 2 5) [.box 72 6 (.t v.t),.box 48 4 (.t s.t),.box 72 6 (.t r.t)]]) ⟨hp,trivial⟩ ?_
   refine(Vr (m+1) c s.i s.t v r k j).trans ?_
   rw[hd]
   simp only[cond_true,aF (aI hx),vT,bD,uh,bM,hbq,hwr]
   exact qO (by refine⟨?_,?_⟩<;>first|trivial|rfl)
theorem aae {m:Nat} {c:Cf} {k:Int} {w:Option Ru}:aT env (m+1) 50 0 5 (stL c k w c.s.length)= .ok (.exit 0,aeC w):=by
 have hd:decide ((c.s.length:Int) < ((c.s.map Sd.t).length:Int))=false:=decide_eq_false (by rw[List.length_map]; omega)
 cases w with
 |none=>refine lY (ps:=[]) trivial ((UA (m+1) c k _).trans ?_); rw[hd]; rfl
 |some v=>refine lY (ps:=[]) trivial ((KH (m+1) c v k _).trans ?_); rw[hd]; rfl
theorem acp {M:Nat} {c:Cf} {k:Int} (hM:big+8≤M) (h:c.ok) (hk:aS k=true) (hs:DT c):
 aB env (M+1) 50 [c.t,i64 k]= .ok (.ak [i64 ((xB c k).getD 0),.bool (xB c k).isSome]):=by
 obtain⟨m,rfl⟩:=gV (show 1≤M by omega)
 rw[q50,dA (iY h.wf (bC hk))]
 unfold xB
 by_cases h0:k=0
 · rw[beq_iff_eq.2 h0,if_pos h0]; rfl
 rw[beq_eq_false_iff_ne.2 h0,if_neg h0,cond_false]
 have hb:=h.s.1
 have it:=(jM (B:=aT env (m+1) 50 0 5) (S:=stL c k) (X:=aeC) (id:=0) (fun _ _=>True) (VK k) c.s (n:=m+1) none (by omega)
  (fun w j s hx _=>⟨Vb (by omega) h hk hs hx,trivial⟩) (fun w _=>aae) trivial).1
 refine(aN it).trans ?_
 rw[←QS]
 cases hw:QO c k with
 |none=>
  refine(MH (m+1)).trans ?_
  rw[aV (q62 m)]; rfl
 |some v=>
  obtain⟨m,rfl⟩:=gV (show 1≤m by omega)
  refine SV (ps:=[NZ [.box 72 6 (.t v.t)] 0 v]) ⟨adn v,trivial⟩ ?_
  exact(Ji (m+1+1) v).trans (qO (by refine⟨?_,?_⟩<;>first|trivial|rfl))
theorem Ub {M:Nat} {a b:Cf} (hM:big+15≤M) (h:a.ok) (h':b.ok):
 aB env (M+1) 24 [a.t,b.t]= .ok (.bool (zZ a b)):=by
 obtain⟨m,rfl⟩:=gV (show 1≤M by omega)
 rw[q24,dA (iY h.wf h'.wf),aV (Ht (by omega) h h'.a)]
 show cl (m+1) 29 [b.t,i64 a.a] _=_
 rw[aV (Ht (by omega) h' h.a)]
 show jJ (m+1) 23 [a.t] _=_
 rw[dM (Dn (by omega) h)]
 unfold zZ
 cases h1:dZ a with
 |false=>rfl
 |true=>
 simp only[Bool.not_true,cond_false]
 rw[dM (Dn (by omega) h')]
 cases h2:dZ b with
 |false=>rfl
 |true=>
 have s1:=BD h1
 have s2:=BD h2
 cases h3:(idxOf a b.a).isSome with
 |false=>rfl
 |true=>
 cases h4:(idxOf b a.a).isSome with
 |false=>rfl
 |true=>
 refine Eq.trans (show _=cl (m+1) 49 [b.t,i64 (dO b a.a)] _ from rfl) ?_
 rw[aV (aco (by omega) h' (zu h' _) s2)]
 refine Eq.trans (show _=eG env (m+1) 24 7 (Io a (i64 ((gU b (dO b a.a)).getD 0)) (i64 (dO a b.a)) (.bool (gU b (dO b a.a)).isSome) 0) from rfl) ?_
 have e4:∀ i:Nat,i < 4→([0,1,2,3]:List Int)[i]? =some (i:Int):=by decide
 have it:=yZ (q:=fun n=> !pF a (gU b (dO b a.a)) (dO a b.a) n) (l:=([0,1,2,3]:List Int)) (B:=aT env (m+1) 24 0 7)
  (S:=fun i=>Io a (i64 ((gU b (dO b a.a)).getD 0)) (i64 (dO a b.a)) (.bool (gU b (dO b a.a)).isSome) (i:Int)) (X:=⟨slots 75 [],[]⟩) (R:=⟨slots 75 [(4,.t (.bool false))],[]⟩) (e:=0)
  (fun i x hx=>by
   have hi:i < 4:=(List.getElem?_eq_some_iff.1 hx).1
   rw[e4 i hi] at hx
   injection hx with hx
   subst hx
   have hbg:=bH
   have hok:aS (i:Int)=true:=lM.2 (by omega)
   rw[aaE,decide_eq_true (show(i:Int)≤3 by omega),cond_true,aV (acp (by omega) h hok s1)]
   unfold pF
   have hw:=wrap_succ (show i≤big by omega)
   cases hl:(xB a i).isSome with
   |false=>simp only[aH,List.getElem?_cons_zero,List.getElem?_cons_succ,bT,cond_false,hw]; rfl
   |true=>
   cases hh:(gU b (dO b a.a)).isSome with
   |false=>simp only[aH,List.getElem?_cons_zero,List.getElem?_cons_succ,bT,cond_false,cond_true,hw]; rfl
   |true=>
   simp only[aH,List.getElem?_cons_zero,List.getElem?_cons_succ,bT,cond_true,bM]
   cases hg:decide ((gU b (dO b a.a)).getD 0 > (xB a i).getD 0) with
   |false=>simp only[cond_false,hw]; rfl
   |true=>
   rw[cond_true,dM (acr (by omega) h (zu h _) hok s1),hw]
   cases uT a (dO a b.a) i<;>rfl)
  (by rw[aaE]; rfl) 4 0 (m+1) rfl (by omega)
 rw[List.drop_zero] at it
 have ha:(!([0,1,2,3]:List Int).any (pF a (gU b (dO b a.a)) (dO a b.a)))=([0,1,2,3]:List Int).all fun n=> !pF a (gU b (dO b a.a)) (dO a b.a) n:=by rw[List.not_any_eq_all_not]
 simp only[Bool.true_and]
 rw[ha]
 cases hq:([0,1,2,3]:List Int).all fun n=> !pF a (gU b (dO b a.a)) (dO a b.a) n with
 |false=>
  rw[hq] at it
  refine(aN it).trans ?_
  rw[Sm]
 |true=>
  rw[hq] at it
  refine(aN it).trans ?_
  rw[L6]
end
section
open Go.RowKit Go.Proofs
variable [Lv]
def VW (l:List Cf) (f:T) (i:Int):St:=⟨slots 19 [(0,.t (.sl 6 (l.map Cf.t))),(1,.t f),(7,.t (i64 (l.map Cf.t).length)),(8,.t (i64 i))],[]⟩
theorem q27 (N:Nat) (l:List Cf) (f:T):aB env (N+1) 27 [.sl 6 (l.map Cf.t),f]=W [.sl 6 (l.map Cf.t),f] (eG env N 27 2 (VW l f 0)):=by kernel_rfl
theorem aeQ (N:Nat) (l:List Cf) (f:T) (i:Int):aT env N 27 0 2 (VW l f i)=bif decide (i < (↑(List.map Cf.t l).length:Int)) then dF (List.map Cf.t l) i fun e=>vg env (aJ env N) f [e] fun r=>bT r fun v=>bif v then aj.ok (Ex.ret,{tmps:=slots 19 [(4,PV.t (i64 i))],heap:=[]}) else aj.ok (Ex.norm,VW l f (IntKind.i64.wrap (i+1))) else aj.ok (Ex.exit 0,{tmps:=slots 19 [],heap:=[]}):=by kernel_rfl
theorem Sv (N:Nat) (i:Int):bK env N 27 0 2 (bU env 27) (.ret) (⟨slots 19 [(4,.t (i64 i))],[]⟩)=rI i:=by kernel_rfl
theorem Mc (N:Nat):bK env N 27 0 2 (bU env 27) (.exit 0) (⟨slots 19 [],[]⟩)=rI (-1):=by kernel_rfl
theorem q31 (N:Nat) (l:List Cf) (f:T):aB env (N+1) 31 [.sl 6 (l.map Cf.t),f]=W [.sl 6 (l.map Cf.t),f] (Qy N 27 [T.sl 6 (List.map Cf.t l),f] fun a=>rB (decide (a≥0))):=by kernel_rfl
theorem q12 (N:Nat) (t:List Cf) (a:Int):aB env (N+1) 12 [.sl 6 (t.map Cf.t),i64 a]=W [.sl 6 (t.map Cf.t),i64 a] (cl N 27 [T.sl 6 (List.map Cf.t t),T.fn 28 [] [(i64 a).ref]] fun x=>iT IntKind.i64 x fun n=>iT IntKind.i64 x fun a=>aj.ok (T.ak [i64 (dP true [0] n),T.bool (decide (a≥0))])):=by kernel_rfl
theorem q28 (N:Nat) (c:Cf) (a:Int):aB env (N+1) 28 [c.t,.ref (i64 a)]=W [c.t,.ref (i64 a)] (rB (c.a==a)):=by kernel_rfl
theorem q14 (N:Nat) (t:List Cf) (i k:Int):aB env (N+1) 14 [.sl 6 (t.map Cf.t),i64 i,i64 k]=W [.sl 6 (t.map Cf.t),i64 i,i64 k] (bif decide (i < 0) then aj.ok (T.ak [i64 0,i64 0,T.bool false]) else bif decide (i≥(↑(List.map Cf.t t).length:Int)) then aj.ok (T.ak [i64 0,i64 0,T.bool false]) else bif decide (k < 0) then aj.ok (T.ak [i64 0,i64 0,T.bool false]) else dF (List.map Cf.t t) i fun e=>jF (e.ah 5 1 false) fun n=>bif decide (k≥n) then aj.ok (T.ak [i64 0,i64 0,T.bool false]) else dF (List.map Cf.t t) i fun e=>nD 4 (e.ah 5 1 false) fun xs=>dF xs k fun e=>cl N 12 [T.sl 6 (List.map Cf.t t),e.ah 0 1 false] fun x=>aH x 0 fun y=>aH x 1 fun y_1=>bT y_1 fun b=>bif !b then aj.ok (T.ak [i64 0,i64 0,T.bool false]) else qB y fun kV=>dF (List.map Cf.t t) kV fun e=>dF (List.map Cf.t t) i fun e_1=>cl N 29 [e,e_1.ah 0 1 false] fun x=>aH x 0 fun sZ=>aH x 1 fun Cc=>bT Cc fun b=>bif !b then aj.ok (T.ak [i64 0,i64 0,T.bool false]) else aj.ok (T.ak [y,sZ,T.bool true])):=by kernel_rfl
def sPv (t:List Cf) (l:List Sd) (r:List T) (i:Int):St:=⟨slots 39 [(0,.t (.sl 6 (t.map Cf.t))),(5,.own 0),(14,.t (.sl 4 (l.map Sd.t))),(15,.t (i64 (l.map Sd.t).length)),(16,.t (i64 i))],[.row 3 1 r]⟩
theorem q38 (N:Nat) (t:List Cf) (i:Int):aB env (N+1) 38 [.sl 6 (t.map Cf.t),i64 i]=W [.sl 6 (t.map Cf.t),i64 i] (dF (List.map Cf.t t) i fun e=>jF (e.ah 5 1 false) fun n=>eG env N 38 3 {tmps:=slots 39 [(0,PV.t (T.sl 6 (List.map Cf.t t))),(5,PV.own 0),(14,PV.t (e.ah 5 1 false)),(15,PV.t (i64 n)),(16,PV.t (i64 0))],heap:=[au.row 3 1 []]}):=by kernel_rfl
theorem aaI (N:Nat) (t:List Cf) (l:List Sd) (r:List T) (i:Int):aT env N 38 0 3 (sPv t l r i)=bif decide (i < (↑(List.map Sd.t l).length:Int)) then dF (List.map Sd.t l) i fun e=>chk (e.cells.length==4&& !e.dS) (cl N 12 [T.sl 6 (List.map Cf.t t),e.ah 0 1 false] fun x=>aH x 0 fun y=>aH x 1 fun y_1=>bT y_1 fun b=>bif b then iT IntKind.i64 (e.ah 1 1 false) fun a=>bif a==3 then jk (T.DC 1) [y] (chk (decide ((r.length+1)*8≤140737488355328)) (aj.ok (Ex.norm,sPv t l (r++ [y]) (IntKind.i64.wrap (i+1))))) else aj.ok (Ex.norm,sPv t l r (IntKind.i64.wrap (i+1))) else aj.ok (Ex.norm,sPv t l r (IntKind.i64.wrap (i+1)))) else aj.ok (Ex.exit 0,{tmps:=slots 39 [(5,PV.own 0)],heap:=[au.row 3 1 r]}):=by kernel_rfl
theorem MF (N:Nat) (r:List T):bK env N 38 0 3 (bU env 38) (.exit 0) (⟨slots 39 [(5,.own 0)],[.row 3 1 r]⟩)=aj.ok (T.sl 1 r):=by kernel_rfl
def UD (t:List Cf) (f:T) (i:Int):St:=⟨slots 43 [(0,.t (.sl 6 (t.map Cf.t))),(1,.t f),(12,.t (i64 (t.map Cf.t).length)),(13,.t (i64 i))],[]⟩
def WA (t:List Cf) (f:T) (i n k:Int):St:=⟨slots 43 [(0,.t (.sl 6 (t.map Cf.t))),(1,.t f),(6,.t (i64 i)),(12,.t (i64 (t.map Cf.t).length)),(13,.t (i64 i)),(21,.t (i64 n)),(22,.t (i64 k))],[]⟩
theorem q33 (N:Nat) (t:List Cf) (f:T):aB env (N+1) 33 [.sl 6 (t.map Cf.t),f]=W [.sl 6 (t.map Cf.t),f] (eG env N 33 2 (UD t f 0)):=by kernel_rfl
theorem Tz (N:Nat) (t:List Cf) (f:T) (i:Int):aT env N 33 0 2 (UD t f i)=bif decide (i < (↑(List.map Cf.t t).length:Int)) then dF (List.map Cf.t t) i fun e=>jF (e.ah 5 1 false) fun n=>oq env N 33 2 5 (WA t f i n 0) else aj.ok (Ex.exit 0,{tmps:=slots 43 [],heap:=[]}):=by kernel_rfl
theorem PG (N:Nat) (t:List Cf) (f:T) (i n k:Int):kE env N 33 0 2 5 (WA t f i n k)=bif decide (k < n) then cl N 14 [T.sl 6 (List.map Cf.t t),i64 i,i64 k] fun x=>aH x 0 fun y=>aH x 1 fun y_1=>aH x 2 fun sZ=>vg env (aJ env N) f [i64 i,i64 k,y,y_1,sZ] fun r=>bT r fun v=>bif v then aj.ok (Ex.ret,{tmps:=slots 43 [(4,PV.t (i64 i)),(5,PV.t (T.bool true))],heap:=[]}) else aj.ok (Ex.norm,WA t f i n (IntKind.i64.wrap (k+1))) else aj.ok (Ex.exit 2,UD t f i):=by kernel_rfl
theorem Gv (N:Nat) (t:List Cf) (f:T) (i:Int):nR env N 33 0 2 5 (.exit 2) (UD t f i)=aj.ok (Ex.norm,UD t f (IntKind.i64.wrap (i+1))):=by kernel_rfl
theorem Me (N:Nat) (i:Int):nR env N 33 0 2 5 (.ret) (⟨slots 43 [(4,.t (i64 i)),(5,.t (.bool true))],[]⟩)=aj.ok (Ex.ret,{tmps:=slots 43 [(4,PV.t (i64 i)),(5,PV.t (T.bool true))],heap:=[]}):=by kernel_rfl
theorem SA (N:Nat) (i:Int):bK env N 33 0 2 (bU env 33) (.ret) (⟨slots 43 [(4,.t (i64 i)),(5,.t (.bool true))],[]⟩)=aj.ok (T.ak [i64 i,T.bool true]):=by kernel_rfl
theorem MB (N:Nat):bK env N 33 0 2 (bU env 33) (.exit 0) (⟨slots 43 [],[]⟩)=aj.ok (T.ak [i64 0,T.bool false]):=by kernel_rfl
theorem q32 (N:Nat) (d c:Cf):aB env (N+1) 32 [d.t,.ref c.t]=W [d.t,.ref c.t] (bif d.a==c.a then rB true else rB (d.d==c.d)):=by kernel_rfl
theorem q34 (N:Nat) (i k j m:Int) (b:Bool):aB env (N+1) 34 [i64 i,i64 k,i64 j,i64 m,.bool b]=W [i64 i,i64 k,i64 j,i64 m,.bool b] (rB !b):=by kernel_rfl
theorem q35 (N:Nat) (t:List Cf) (i k j m:Int) (b:Bool):aB env (N+1) 35 [i64 i,i64 k,i64 j,i64 m,.bool b,.ref (.sl 6 (t.map Cf.t))]=W [i64 i,i64 k,i64 j,i64 m,.bool b,.ref (.sl 6 (t.map Cf.t))] (dF (List.map Cf.t t) i fun e=>nD 4 (e.ah 5 1 false) fun xs=>dF xs k fun e=>dF (List.map Cf.t t) j fun e_1=>nD 4 (e_1.ah 5 1 false) fun xs=>dF xs m fun e_2=>iT IntKind.i64 (e.ah 1 1 false) fun a=>iT IntKind.i64 (e_2.ah 1 1 false) fun b=>rB (IntKind.i64.wrap (a+b) !=4)):=by kernel_rfl
theorem q36 (N:Nat) (t:List Cf) (i k j m:Int) (b:Bool):aB env (N+1) 36 [i64 i,i64 k,i64 j,i64 m,.bool b,.ref (.sl 6 (t.map Cf.t))]=W [i64 i,i64 k,i64 j,i64 m,.bool b,.ref (.sl 6 (t.map Cf.t))] (dF (List.map Cf.t t) i fun e=>dF (List.map Cf.t t) j fun e_1=>jJ N 24 [e,e_1] fun b=>rB !b):=by kernel_rfl
def sCa (t:List Cf) (i:Int):St:=⟨slots 80 [(1,.ptr 0 0),(24,.t (.sl 6 (t.map Cf.t))),(25,.t (i64 (t.map Cf.t).length)),(26,.t (i64 i))],[.box 22 1 (.t (.sl 6 (t.map Cf.t)))]⟩
def UC (t:List Cf) (i:Int):St:=⟨slots 80 [(1,.ptr 0 0),(36,.t (.sl 6 (t.map Cf.t))),(37,.t (i64 (t.map Cf.t).length)),(38,.t (i64 i))],[.box 22 1 (.t (.sl 6 (t.map Cf.t)))]⟩
theorem q16 (N:Nat) (t:List Cf):aB env (N+1) 16 [.sl 6 (t.map Cf.t)]=W [.sl 6 (t.map Cf.t)] (bif (↑(List.map Cf.t t).length:Int)==0 then aj.ok (T.ak [i64 0,i64 1]) else bif decide ((↑(List.map Cf.t t).length:Int) > 8) then aj.ok (T.ak [i64 0,i64 4]) else eG env N 16 6 (sCa t 0)):=by kernel_rfl
theorem Tv (N:Nat) (t:List Cf) (i:Int):aT env N 16 0 6 (sCa t i)=bif decide (i < (↑(List.map Cf.t t).length:Int)) then dF (List.map Cf.t t) i fun e=>chk (e.cells.length==6&& !e.dS) (jJ N 23 [e] fun b=>bif !b then aj.ok (Ex.ret,{tmps:=slots 80 [(2,PV.t (i64 i)),(3,PV.t (i64 2))],heap:=[]}) else aj.ok (Ex.norm,sCa t (IntKind.i64.wrap (i+1)))) else aj.ok (Ex.exit 1,{tmps:=slots 80 [(1,PV.ptr 0 0)],heap:=[au.box 22 1 (PV.t (T.sl 6 (List.map Cf.t t)))]}):=by kernel_rfl
theorem Si (N:Nat) (i e:Int):bK env N 16 0 6 (bU env 16) (.ret) (⟨slots 80 [(2,.t (i64 i)),(3,.t (i64 e))],[]⟩)=aj.ok (T.ak [i64 i,i64 e]):=by kernel_rfl
theorem LW (N:Nat) (t:List Cf):bK env N 16 0 6 (bU env 16) (.exit 1) (⟨slots 80 [(1,.ptr 0 0)],[.box 22 1 (.t (.sl 6 (t.map Cf.t)))]⟩)=eG env N 16 12 (UC t 0):=by kernel_rfl
theorem Ph (N:Nat) (i e:Int):bK env N 16 0 12 (bU env 16) (.ret) (⟨slots 80 [(2,.t (i64 i)),(3,.t (i64 e))],[]⟩)=aj.ok (T.ak [i64 i,i64 e]):=by kernel_rfl
theorem Js (N:Nat) (t:List Cf):bK env N 16 0 12 (bU env 16) (.exit 3) (⟨slots 80 [(1,.ptr 0 0)],[.box 22 1 (.t (.sl 6 (t.map Cf.t)))]⟩)=cl N 33 [T.sl 6 (List.map Cf.t t),T.fn 34 [] []] fun x=>aH x 0 fun y=>aH x 1 fun y_1=>bT y_1 fun v=>bif v then aj.ok (T.ak [y,i64 8]) else cl N 33 [T.sl 6 (List.map Cf.t t),T.fn 35 [] [(T.sl 6 (List.map Cf.t t)).ref]] fun x=>aH x 0 fun y=>aH x 1 fun sZ=>bT sZ fun v=>bif v then aj.ok (T.ak [y,i64 9]) else cl N 33 [T.sl 6 (List.map Cf.t t),T.fn 36 [] [(T.sl 6 (List.map Cf.t t)).ref]] fun x=>aH x 0 fun y=>aH x 1 fun Cc=>bT Cc fun v=>bif v then aj.ok (T.ak [y,i64 10]) else cl N 18 [T.sl 6 (List.map Cf.t t)] fun x=>aH x 0 fun y=>aH x 1 fun Qq=>bT Qq fun v=>bif v then aj.ok (T.ak [y,i64 11]) else aj.ok (T.ak [i64 0,i64 0]):=by kernel_rfl
end
section
open Go.RowKit Go.Proofs
variable [Lv]
theorem Iz (N:Nat) (t:List Cf) (i:Int):bF env N 16 [5] 0 2 (UC t i)=bif decide (i < (↑(List.map Cf.t t).length:Int)) then aj.ok (Ex.norm,{tmps:=slots 80 [(1,PV.ptr 0 0),(36,PV.t (T.sl 6 (List.map Cf.t t))),(37,PV.t (i64 (↑(List.map Cf.t t).length:Int))),(38,PV.t (i64 i)),(39,PV.t (T.bool (decide (i < (↑(List.map Cf.t t).length:Int)))))],heap:=[au.box 22 1 (PV.t (T.sl 6 (List.map Cf.t t)))]}) else aj.ok (Ex.exit 3,{tmps:=slots 80 [(1,PV.ptr 0 0),(36,PV.t (T.sl 6 (List.map Cf.t t))),(37,PV.t (i64 (↑(List.map Cf.t t).length:Int))),(38,PV.t (i64 i)),(39,PV.t (T.bool (decide (i < (↑(List.map Cf.t t).length:Int)))))],heap:=[au.box 22 1 (PV.t (T.sl 6 (List.map Cf.t t)))]}):=by kernel_rfl
def abC (t:List Cf) (i:Int):St:=⟨slots 80 [(1,.ptr 0 0),(36,.t (.sl 6 (t.map Cf.t))),(37,.t (i64 (t.map Cf.t).length)),(38,.t (i64 i)),(39,.t (.bool true))],[.box 22 1 (.t (.sl 6 (t.map Cf.t)))]⟩
theorem Nh (N:Nat) (t:List Cf) (i:Int):bF env N 16 [5,2] 0 1 (abC t i)=dF (List.map Cf.t t) i fun e=>chk (e.cells.length==6&& !e.dS) (aj.ok (Ex.norm,{tmps:=slots 80 [(1,PV.ptr 0 0),(6,PV.t (i64 i)),(7,PV.ptr 1 0),(36,PV.t (T.sl 6 (List.map Cf.t t))),(37,PV.t (i64 (↑(List.map Cf.t t).length:Int))),(38,PV.t (i64 i)),(39,PV.t (T.bool true)),(40,PV.t (i64 i)),(41,PV.rp 6 e 0),(42,PV.t e)],heap:=[au.box 22 1 (PV.t (T.sl 6 (List.map Cf.t t))),au.box 45 6 (PV.t e)]})):=by kernel_rfl
def abD (t:List Cf) (i:Int) (c:Cf):St:=⟨slots 80 [(1,.ptr 0 0),(6,.t (i64 i)),(7,.ptr 1 0),(36,.t (.sl 6 (t.map Cf.t))),(37,.t (i64 (t.map Cf.t).length)),(38,.t (i64 i)),(39,.t (.bool true)),(40,.t (i64 i)),(41,.rp 6 c.t 0),(42,.t c.t)],[.box 22 1 (.t (.sl 6 (t.map Cf.t))),.box 45 6 (.t c.t)]⟩
theorem zCB (N:Nat) (t:List Cf) (i:Int) (c:Cf):(mJ env N 16 [5,2] 1 2 (abD t i c) (AL env N 16 [] 5 4 3 1))=chk (decide (0≤i)&&decide (i≤(↑(List.map Cf.t t).length:Int))) (jJ N 31 [T.sl 6 (List.drop 0 (List.take i.toNat (List.map Cf.t t))),T.fn 32 [] [c.t.ref]] fun v=>bif v then aj.ok (Ex.ret,{tmps:=slots 80 [(2,PV.t (i64 i)),(3,PV.t (i64 7))],heap:=[]}) else aj.ok (Ex.norm,{tmps:=slots 80 [(1,PV.ptr 0 0),(36,PV.t (T.sl 6 (List.map Cf.t t))),(37,PV.t (i64 (↑(List.map Cf.t t).length:Int))),(38,PV.t (i64 (IntKind.i64.wrap (i+1))))],heap:=[au.box 22 1 (PV.t (T.sl 6 (List.map Cf.t t)))]})):=by kernel_rfl
end
section
def kF (t:List Cf) (a:Int):Option Nat:=t.findIdx? fun c=>c.a==a
theorem yX {t:List Cf} {a:Int} {j:Nat} (h:kF t a=some j):j < t.length:=(List.findIdx?_eq_some_iff_getElem.1 h).1
def iF (t:List Cf) (i:Nat):List Nat:=match t[i]? with
 |some c=>c.s.filterMap fun s=>if s.r=3 then kF t s.a else none
 |none=>[]
theorem Qi {t:List Cf} {i j:Nat} (h:j∈iF t i):j < t.length:=by
 unfold iF at h
 split at h
 · obtain⟨s,_,h2⟩:=List.mem_filterMap.1 h
   split at h2
   · exact yX h2
   · cases h2
 · cases h
inductive Up (t:List Cf) (i:Nat):Nat→Prop
 |one {j:Nat}:j∈iF t i→Up t i j
 |more {j m:Nat}:Up t i j→m∈iF t j→Up t i m
theorem Up.lt {t:List Cf} {i j:Nat} (h:Up t i j):j < t.length:=by cases h<;>exact Qi ‹_›
structure Work (t:List Cf) (i:Nat) (wait gone:Nat→Prop):Prop where
 up:∀ j,wait j∨gone j→Up t i j
 own:∀ j∈iF t i,wait j∨gone j
 next:∀ j,gone j→∀ m∈iF t j,wait m∨gone m
theorem Work.done {t:List Cf} {i:Nat} {wait gone:Nat→Prop} (h:Work t i wait gone) (hw:∀ j,¬ wait j) (j:Nat):gone j↔Up t i j:=by
 constructor
 · exact fun hg=>h.up j (.inr hg)
 · intro hu
   induction hu with
   |one hj=>exact(h.own _ hj).resolve_left (hw _)
   |more _ hm ih=>exact(h.next _ ih _ hm).resolve_left (hw _)
theorem Work.step {t:List Cf} {i j:Nat} {wait gone:Nat→Prop} (h:Work t i wait gone) (hj:wait j):Work t i (fun m=>(wait m∧m≠j)∨(m∈iF t j∧ ¬ (gone m∨m=j))) (fun m=>gone m∨m=j) where
 up m hm:=by
  rcases hm with (⟨hm,_⟩|⟨hm,_⟩)|(hm|rfl)
  · exact h.up m (.inl hm)
  · exact .more (h.up j (.inl hj)) hm
  · exact h.up m (.inr hm)
  · exact h.up m (.inl hj)
 own m hm:=by
  rcases h.own m hm with hm|hm
  · by_cases e:m=j
    · exact .inr (.inr e)
    · exact .inl (.inl ⟨hm,e⟩)
  · exact .inr (.inl hm)
 next k hk m hm:=by
  rcases hk with hk|rfl
  · rcases h.next k hk m hm with hm'|hm'
    · by_cases e:m=j
      · exact .inr (.inr e)
      · exact .inl (.inl ⟨hm',e⟩)
    · exact .inr (.inl hm')
  · by_cases e:gone m∨m=k
    · exact .inr e
    · exact .inl (.inr ⟨hm,e⟩)
def CP (t:List Cf) (i:Nat) (p:Nat→Bool):Nat→Bool:=fun b=>p b||(List.range t.length).any fun a=>(a==i||p a)&&(iF t a).contains b
def fF (t:List Cf) (i:Nat):Nat→Nat→Bool
 |0=>fun _=>false
 |n+1=>CP t i (fF t i n)
theorem mO {t:List Cf} {i b:Nat} {p:Nat→Bool}:CP t i p b=true↔p b=true∨∃ a,a < t.length∧(a=i∨p a=true)∧b∈iF t a:=by
 unfold CP
 simp[List.any_eq_true,and_assoc]
theorem zA {t:List Cf} {i:Nat}:∀ (n b:Nat),fF t i n b=true→Up t i b
 |0,b,h=>by cases h
 |n+1,b,h=>by
  rcases mO.1 h with h|⟨a,_,rfl|h,hb⟩
  · exact zA n b h
  · exact .one hb
  · exact .more (zA n a h) hb
theorem zH {p q:Nat→Bool} (hpq:∀ x,p x=true→q x=true):∀ (l:List Nat),(l.filter p).length≤(l.filter q).length∧((∃ x∈l,q x=true∧p x=false)→(l.filter p).length < (l.filter q).length)
 | []=>⟨Nat.le_refl _,fun⟨_,h,_⟩=>by cases h⟩
 |a::l=>by
  obtain⟨h1,h2⟩:=zH hpq l
  have e:∀ r:Nat→Bool,((a::l).filter r).length=(if r a=true then 1 else 0)+(l.filter r).length:=fun r=>by
   rw[List.filter_cons]
   split<;>simp<;>omega
  rw[e,e]
  refine⟨?_,?_⟩
  · by_cases ha:p a=true
    · rw[if_pos ha,if_pos (hpq a ha)]; omega
    · rw[if_neg ha]; split<;>omega
  · rintro⟨x,hx,hq,hp⟩
    rcases List.mem_cons.1 hx with rfl|hx
    · rw[if_neg (by rw[hp]; simp),if_pos hq]; omega
    · have:=h2 ⟨x,hx,hq,hp⟩
      by_cases ha:p a=true
      · rw[if_pos ha,if_pos (hpq a ha)]; omega
      · rw[if_neg ha]; split<;>omega
def Shut (t:List Cf) (i:Nat) (p:Nat→Bool):Prop:=∀ b,CP t i p b=true→p b=true
theorem Qn {t:List Cf} {i:Nat}:∀ n,Shut t i (fF t i n)∨n≤((List.range t.length).filter (fF t i n)).length
 |0=> .inr (Nat.zero_le _)
 |n+1=>by
  by_cases h:Shut t i (fF t i n)
  · refine .inl fun b hb=>?_
    have hle:∀ x,fF t i (n+1) x=true→fF t i n x=true:=h
    refine mO.2 (.inl ?_)
    rcases mO.1 hb with hb|⟨a,ha,hp,hb⟩
    · exact hle b hb
    · exact h b (mO.2 (.inr ⟨a,ha,hp.imp id (hle a),hb⟩))
  · have h0:=(Qn n).resolve_left h
    obtain⟨b,hb1,hb2⟩:∃ b,CP t i (fF t i n) b=true∧fF t i n b=false:=by
     unfold Shut at h
     simp only[Classical.not_forall] at h
     obtain⟨b,h1,h2⟩:=h
     exact⟨b,h1,by simpa using h2⟩
    refine .inr ?_
    have hlt:b < t.length:=by
     rcases mO.1 hb1 with h1|⟨a,_,_,h1⟩
     · rw[hb2] at h1; cases h1
     · exact Qi h1
    have:=(zH (p:=fF t i n) (q:=fF t i (n+1)) (fun x hx=>mO.2 (.inl hx)) (List.range t.length)).2 ⟨b,List.mem_range.2 hlt,hb1,hb2⟩
    omega
theorem Fe {t:List Cf} {i:Nat}:Shut t i (fF t i t.length):=by
 rcases Qn (t:=t) (i:=i) t.length with h|h
 · exact h
 · intro b hb
   have hlt:b < t.length:=(zA (t.length+1) b hb).lt
   have hall:(List.range t.length).filter (fF t i t.length)=List.range t.length:=by
    refine List.filter_sublist.eq_of_length_le ?_
    rw[List.length_range]; exact h
   have:=List.filter_eq_self.1 hall b (List.mem_range.2 hlt)
   exact this
theorem steps_iff {t:List Cf} {i:Nat} (hi:i < t.length) {b:Nat}:fF t i t.length b=true↔Up t i b:=by
 constructor
 · exact zA _ _
 · intro hu
   induction hu with
   |one h=>exact Fe _ (mO.2 (.inr ⟨i,hi,.inl rfl,h⟩))
   |more hu h ih=>exact Fe _ (mO.2 (.inr ⟨_,hu.lt,.inr ih,h⟩))
noncomputable def nN (t:List Cf):Option Nat:=(List.range t.length).find? fun i=>fF t i t.length i
end
section
open Go.RowKit Go.Proofs
variable [Lv]
def aiL (t:List Cf):Prop:=dN Cf.ok t
theorem jR {t:List Cf} (h:dN Cf.ok t):(T.sl 6 (t.map Cf.t)).wf=true:=gq (fun _ h=>Cf.ok.wf h) h
theorem Uc {M:Nat} {l:List Cf} {g:FuncId} {cs:List T} {q:Cf→Bool} (hM:big+1≤M) (hl:dN Cf.ok l) (hw:T.wfs cs=true) (hm:env.mode g=0) (hq:∀ r∈l,aB env M g (r.t::cs)= .ok (.bool (q r))):
 aB env (M+1) 27 [.sl 6 (l.map Cf.t),.fn g [] cs]= .ok (i64 (wH (l.findIdx? q))):=by
 rw[q27,dA (iY (jR hl) (Aj hw))]
 exact IE Cf.t (S:=VW l _) q (by have:=hl.1; omega) hl.1 (aeQ M l _) (Sv M) (Mc M) fun x hx K=>(qL hm).trans (aV (hq x hx))
theorem ach {M:Nat} {l:List Cf} {g:FuncId} {cs:List T} {q:Cf→Bool} (hM:big+2≤M) (hl:dN Cf.ok l) (hw:T.wfs cs=true) (hm:env.mode g=0) (hq:∀ m,M≤m+1→∀ r∈l,aB env m g (r.t::cs)= .ok (.bool (q r))):
 aB env (M+1) 31 [.sl 6 (l.map Cf.t),.fn g [] cs]= .ok (.bool (l.any q)):=by
 obtain⟨m,rfl⟩:=gV (show 1≤M by omega)
 rw[q31,dA (iY (jR hl) (Aj hw)),wS (Uc (by omega) hl hw hm (hq m (Nat.le_refl _))),yL,rE]
theorem acg {M:Nat} {c:Cf} {a:Int} (h:c.ok) (ha:aS a=true):aB env (M+1) 28 [c.t,.ref (i64 a)]= .ok (.bool (c.a==a)):=by
 rw[q28,dA (iY h.wf (mP (bC ha)))]
theorem Hq {M:Nat} {t:List Cf} {a:Int} (hM:big+2≤M) (ht:dN Cf.ok t) (ha:aS a=true):aB env (M+1) 12 [.sl 6 (t.map Cf.t),i64 a]= .ok (.ak [i64 (((kF t a).getD 0:Nat):Int),.bool (kF t a).isSome]):=by
 obtain⟨m,rfl⟩:=gV (show 1≤M by omega)
 rw[q12,dA (iY (jR ht) (bC ha)),aV (Uc (q:=fun c=>c.a==a) (by omega) ht (jD (mP (bC ha))) rfl fun c hc=>by
  obtain⟨m,rfl⟩:=gV (show 1≤m by omega); exact acg (ht.2 c hc) ha)]
 simp only[bM,J6,yL]
 rfl
def iE (t:List Cf) (i k:Int):Option (Nat×Nat):=if 0≤i∧0≤k then(match t[i.toNat]? with
 |some c=>(match c.s[k.toNat]? with
  |some s=>(match kF t s.a with
   |some j=>(match t[j]? with|some d=>(idxOf d c.a).map fun m=>(j,m)|none=>none)
   |none=>none)
  |none=>none)
 |none=>none) else none
def yT (r:Option (Nat×Nat)):Int:=((r.map (·.1)).getD 0:Nat)
def yU (r:Option (Nat×Nat)):Int:=((r.map (·.2)).getD 0:Nat)
def AO (r:Option (Nat×Nat)):T:= .ak [i64 (yT r),i64 (yU r),.bool r.isSome]
theorem uX (c:Cf):c.t.ah 5 1 false= .sl 4 (c.s.map Sd.t):=rfl
theorem NQ (c:Cf):c.t.ah 0 1 false=i64 c.a:=rfl
theorem Oi (s:Sd):s.t.ah 0 1 false=i64 s.a:=rfl
theorem yV {t:List Cf} {i k:Nat} {c:Cf} {s:Sd} (hc:t[i]? =some c) (hs:c.s[k]? =some s):iE t i k=(match kF t s.a with
 |some j=>(match t[j]? with|some d=>(idxOf d c.a).map fun m=>(j,m)|none=>none)
 |none=>none):=by
 unfold iE
 rw[if_pos ⟨by omega,by omega⟩,Int.toNat_natCast,Int.toNat_natCast,hc]
 simp only[hs]
theorem Dl {M:Nat} {t:List Cf} {i k:Int} (hM:big+6≤M) (ht:dN Cf.ok t) (hi:aS i=true) (hk:aS k=true):aB env (M+1) 14 [.sl 6 (t.map Cf.t),i64 i,i64 k]= .ok (AO (iE t i k)):=by
 obtain⟨m,rfl⟩:=gV (show 1≤M by omega)
 rw[q14,dA (FY (jR ht) (bC hi) (bC hk))]
 have hnone:iE t i k=none→aj.ok (T.ak [i64 0,i64 0,T.bool false])=aj.ok (AO (iE t i k)):=fun h=>by rw[h]; rfl
 by_cases h0:i < 0
 · rw[decide_eq_true h0]; exact hnone (by unfold iE; rw[if_neg (by omega)])
 rw[decide_eq_false h0]
 by_cases h1:i≥t.length
 · rw[decide_eq_true (by rw[List.length_map]; omega)]
   refine hnone ?_
   unfold iE
   rw[List.getElem?_eq_none (by omega)]
   split<;>rfl
 rw[decide_eq_false (by rw[List.length_map]; omega)]
 by_cases h2:k < 0
 · rw[decide_eq_true h2]; exact hnone (by unfold iE; rw[if_neg (by omega)])
 rw[decide_eq_false h2]
 obtain⟨i,rfl⟩:∃ n:Nat,i=n:=⟨i.toNat,by omega⟩
 obtain⟨k,rfl⟩:∃ n:Nat,k=n:=⟨k.toNat,by omega⟩
 have hc:t[i]? =some t[i]:=List.getElem?_eq_getElem (by omega)
 have hco:=ht.2 _ (List.mem_of_getElem? hc)
 generalize t[i]=c at hc hco
 simp only[cond_false,aF (aI hc),uX,jF]
 by_cases h3:(k:Int)≥c.s.length
 · rw[decide_eq_true (by rw[List.length_map]; omega)]
   refine hnone ?_
   unfold iE
   rw[if_pos ⟨by omega,by omega⟩,Int.toNat_natCast,Int.toNat_natCast,hc]
   simp only[]
   rw[List.getElem?_eq_none (by omega)]
 rw[decide_eq_false (by rw[List.length_map]; omega)]
 have hs:c.s[k]? =some c.s[k]:=List.getElem?_eq_getElem (by omega)
 have hso:=hco.s.2 _ (List.mem_of_getElem? hs)
 generalize c.s[k]=s at hs hso
 simp only[cond_false,nD,if_true]
 rw[aF (aI hs),Oi,aV (Hq (by omega) ht hso.a),yV hc hs]
 cases hf:kF t s.a with
 |none=>rfl
 |some j=>
  have hj:=yX hf
  have hd:t[j]? =some t[j]:=List.getElem?_eq_getElem hj
  have hdo:=ht.2 _ (List.mem_of_getElem? hd)
  generalize t[j]=d at hd hdo
  simp only[aH,List.getElem?_cons_zero,List.getElem?_cons_succ,Option.getD_some,Option.isSome_some,bT,Bool.not_true,cond_false,qB,aF (aI hd),NQ,hd]
  rw[aV (Ht (by omega) hdo hco.a)]
  cases hx:idxOf d c.a with
  |none=>rfl
  |some m'=>
   have e:dO d c.a=(m':Int):=by unfold dO; rw[hx]; rfl
   simp only[e,aH,List.getElem?_cons_zero,List.getElem?_cons_succ,Option.isSome_some,bT,Bool.not_true,cond_false]; rfl
def dW (l:List Nat):List T:=l.map fun(j:Nat)=>i64 (j:Int)
def F7 (t:List Cf) (r:List Nat) (s:Sd):List Nat:=match (if s.r=3 then kF t s.a else none) with|some j=>r++ [j]|none=>r
theorem Ih (t:List Cf):∀ (l:List Sd) (r:List Nat),l.foldl (F7 t) r=r++l.filterMap fun s=>if s.r=3 then kF t s.a else none
 | [],r=>by simp
 |s::l,r=>by
  rw[List.foldl_cons,Ih t l,List.filterMap_cons]
  unfold F7
  cases (if s.r=3 then kF t s.a else none)<;>simp
theorem Rh {t:List Cf} {s:Sd} {r:List Nat}:(F7 t r s).length≤r.length+1:=by
 unfold F7
 split<;>simp
theorem Ud {M i:Nat} {t:List Cf} {c:Cf} (hM:big+4≤M) (ht:dN Cf.ok t) (hc:t[i]? =some c) (hs:(c.s.length+1)*8≤big):aB env (M+1) 38 [.sl 6 (t.map Cf.t),i64 i]= .ok (.sl 1 (dW (iF t i))):=by
 obtain⟨m,rfl⟩:=gV (show 1≤M by omega)
 have hb:=ht.1
 have hbg:=bH
 have hi:i < t.length:=(List.getElem?_eq_some_iff.1 hc).1
 have hco:=ht.2 c (List.mem_of_getElem? hc)
 rw[q38,dA (iY (jR ht) (bC (fQ (by omega)))),aF (aI hc)]
 simp only[uX,jF]
 have it:=(jM (B:=aT env (m+1) 38 0 3) (S:=fun r k=>sPv t c.s (dW r) (k:Nat)) (X:=fun r=>⟨slots 39 [(5,.own 0)],[.row 3 1 (dW r)]⟩) (id:=0) (fun r k=>r.length≤k) (F7 t) c.s (n:=m+1) [] (by omega)
  (fun r k s hx hr=>⟨?_,Nat.le_trans Rh (by omega)⟩) (fun r hr=>?_) (Nat.le_refl _)).1
 · refine(aN it).trans ?_
   rw[MF,Ih]
   unfold iF
   rw[hc]; rfl
 · have hk:=(List.getElem?_eq_some_iff.1 hx).1
   have hso:=hco.s.2 s (List.mem_of_getElem? hx)
   have hw:=wrap_succ (show k≤big by omega)
   rw[aaI,decide_eq_true (by rw[List.length_map]; omega)]
   simp only[cond_true]
   rw[aF (aI hx),show(s.t.cells.length==4&& !s.t.dS)=true from rfl,bD,Oi,aV (Hq (by omega) ht hso.a)]
   unfold F7
   cases hf:kF t s.a with
   |none=>
    simp only[aH,List.getElem?_cons_zero,List.getElem?_cons_succ,Option.isSome_none,bT,cond_false,hw]
    cases hr3:decide (s.r=3) with
    |true=>rw[if_pos (of_decide_eq_true hr3)]
    |false=>rw[if_neg (of_decide_eq_false hr3)]
   |some j=>
    simp only[aH,List.getElem?_cons_zero,List.getElem?_cons_succ,Option.isSome_some,bT,cond_true,Option.getD_some,uh,bM,hw]
    by_cases h3:s.r=3
    · rw[if_pos h3,beq_iff_eq.2 h3,cond_true]
      have hl:(dW r).length=r.length:=by simp[dW]
      show chk _ (chk _ (aj.ok _))=_
      rw[decide_eq_true (show((dW r).length+1)*8≤140737488355328 by rw[hl]; omega)]
      show aj.ok (Ex.norm,sPv t c.s (dW r++ [i64 j]) _)=_
      simp only[dW,List.map_append,List.map_cons,List.map_nil]
    · rw[if_neg h3,beq_eq_false_iff_ne.2 h3,cond_false]
 · rw[aaI,decide_eq_false (by rw[List.length_map]; omega)]
   rfl
end
section
open Go.RowKit Go.Proofs
variable [Lv]
def sIx (l:List Int) (n:Int) (i:Int):St:=⟨slots 19 [(0,.t (.sl 1 (ints l))),(1,.t (i64 n)),(7,.t (i64 (ints l).length)),(8,.t (i64 i))],[]⟩
def ak3 (l:List Int) (f:T) (i:Int):St:=⟨slots 19 [(0,.t (.sl 1 (ints l))),(1,.t f),(7,.t (i64 (ints l).length)),(8,.t (i64 i))],[]⟩
end
section
open Go.RowKit Go.Proofs
def abq (n:Int):Bool:=decide (n < 1)||decide (n > 4294967295)
def uI (p:Pa):Bool:= !(p.s.any abq)&&(decide (p.s.length≤255)&&(decide (p.o≥0)&&(decide (p.o≤2)&&(decide (p.h > 0)&&(decide (p.h≤4294967295)&&(decide (p.c≥0)&&decide (p.c≤4294967295)))))))
def Q7 (a b:Int):Int:=if a=0 then b else a
def DJ (a b c:Int):Option Int:=if a=3 then some (Q7 c b) else if a=2 then(if Q7 c b=b then some (Q7 c b) else none) else if a=1 then(if c=0 then some 0 else none) else none
def Df (a b c:Int):Option Int:=if a=1 then some (Q7 c b) else if a=2 then(if c=0 then some (Q7 c b) else none) else if a=3 then(if c=0 then some 0 else none) else none
def F6 (v:Vw) (r:Ru):Bool:=if r.m=0 then true else if r.m=1 then aec r.x v.x else if r.m=2 then v.s.contains r.v else if r.m=3 then decide ((v.s.length:Int) > r.v) else if r.m=4 then v.c==r.v else false
def zT (l:List Ru) (v:Vw):Option Ru:=l.find? (F6 v)
variable [Lv]
end
section
open Go.RowKit Go.Proofs
variable [Lv]
end
section
open Go.RowKit Go.Proofs
variable [Lv]
end
section
open Go.RowKit Go.Proofs
variable [Lv]
def hasB (c:Cf) (k:Int):Bool:=decide (k≥0)&&decide (k < (c.s.length:Int))
def sD (c:Cf) (k:Int):Int:=if 0≤k then(match c.s[k.toNat]? with|some s=>s.r|none=>0) else 0
end
section
open Go.RowKit Go.Proofs
variable [Lv]
def ad4 (c:Cf) (k:Int) (x:Px) (p:Pa):Bool:=dZ c&&(hasB c k&&(jo x&&uI p))
def vwI (x:Px) (p:Pa) (r:Int):Vw:=⟨x,p.s,r⟩
end
section
open Go.RowKit Go.Proofs
variable [Lv]
end
section
open Go.RowKit Go.Proofs
variable [Lv]
def zR:T:=T.agg [i64 0,i64 0,T.sl 1 [],i64 0,i64 0,i64 0]
def Wx (c:Cf) (k:Int) (x:Px) (p:Pa):Option Rt:=
 if ad4 c k x p then match c.s[k.toNat]? with
  |some s=>if (p.s[0]? =some s.a∧p.s.length≤32)∧p.s.contains c.a=false then match DJ s.r s.a p.c with
   |some m=>match zT s.i (vwI x p s.r) with
    |some r=>if r.a=2 then some ⟨r.n,⟨p.o,p.s,p.h,m⟩,k⟩ else none
    |none=>none
   |none=>none
   else none
  |none=>none
 else none
def akU:Option Rt→T
 |some r=> .ak [r.t,.bool true]
 |none=> .ak [zR,.bool false]
end
section
open Go.RowKit Go.Proofs
def aeb (h:Int):Rt:=⟨400,⟨0,[],h,0⟩,-1⟩
def AB (a b:Int):Int:=if a < b then -1 else if b < a then 1 else 0
def cmpL:List Int→List Int→Int
 | [],[]=>0
 | [],_::_=> -1
 |_::_,[]=>1
 |a::l,b::m=>if a=b then cmpL l m else AB a b
def PX:List Int→Int
 | []=>0
 |x::l=>if x=0 then PX l else x
def abr (a b:Rt):Int:=PX [AB b.n a.n,AB a.p.s.length b.p.s.length,AB a.p.o b.p.o,cmpL a.p.s b.p.s,AB a.p.h b.p.h,AB a.p.c b.p.c,AB a.f b.f]
def wY (r:Rt):Bool:=uI r.p&&(decide (r.p.s.length≤32)&&(if r.f= -1 then abr r (aeb r.p.h)==0 else decide (r.f≥0)&&(decide (r.f≤7)&&(decide (r.n > 0)&&decide (r.n < 400)))))
def N7 (c:Cf) (u:Ru) (r:Rt):List Int:=List.replicate (1+u.n).toNat c.a++r.p.s
def Q8 (c:Cf) (k:Int) (x:Px) (r:Rt):Option Pa:=
 if (dZ c&&(hasB c k&&(jo x&&wY r)))&&(decide (r.f≠k)&&decide (r.f < (c.s.length:Int))) then match c.s[k.toNat]? with
  |some s=>match zT s.o (vwI x r.p (sD c r.f)) with
   |some u=>if u.a=0 then none else match Df s.r c.a r.p.c with
    |some m=>if (N7 c u r).length≤32 then some ⟨r.p.o,N7 c u r,c.d,m⟩ else none
    |none=>none
   |none=>none
  |none=>none
 else none
variable [Lv]
def aiK:Ru:=⟨0,⟨0,0⟩,0,0,0⟩
end
section
open Go.RowKit Go.Proofs
variable [Lv]
def sRp (l:List T) (j:Int):St:=⟨slots 48 [(7,.own 0),(8,.t (i64 j))],[.row 3 1 l]⟩
def sCc (l:List (List Int)) (n i:Int):St:=⟨slots 36 [(0,.t (.sl 1 (l.map fun a=> .sl 1 (ints a)))),(3,.t (i64 n)),(9,.t (.sl 1 (l.map fun a=> .sl 1 (ints a)))),(10,.t (i64 l.length)),(11,.t (i64 i))],[]⟩
def ak2 (l:List (List Int)) (r:List Int) (i:Int):St:=⟨slots 36 [(6,.own 0),(25,.t (.sl 1 (l.map fun a=> .sl 1 (ints a)))),(26,.t (i64 l.length)),(27,.t (i64 i))],[.row 3 1 (ints r)]⟩
def sCm (l m:List Int) (i:Int):St:=⟨slots 36 [(0,.t (.sl 1 (ints l))),(1,.t (.sl 1 (ints m))),(9,.t (.sl 1 (ints l))),(10,.t (i64 l.length)),(11,.t (i64 i))],[]⟩
end
section
open Go.RowKit Go.Proofs
variable [Lv]
def twT (a b:Rt):T:=T.agg [i64 a.n,i64 a.p.o,T.sl 1 (ints a.p.s),i64 a.p.h,i64 a.p.c,i64 a.f,i64 b.n,i64 b.p.o,T.sl 1 (ints b.p.s),i64 b.p.h,i64 b.p.c,i64 b.f]
end
section
open Go.RowKit Go.Proofs
variable [Lv]
end
section
open Go.RowKit Go.Proofs
variable [Lv]
def WH (m i:Int):St:=⟨slots 14 [(3,.t (i64 m)),(4,.t (i64 i))],[]⟩
def sHa (l:List Int) (n i:Int):St:=⟨slots 18 [(0,.t (.sl 1 (ints l))),(1,.t (i64 n)),(5,.t (i64 i))],[]⟩
def sPk (l:List Ru) (v:Vw) (i:Int):St:=⟨slots 24 [(0,.t (.sl 6 (l.map Ru.t))),(3,.ptr 0 0),(4,.ptr 1 0),(6,.t (i64 i))],[.box 102 4 (.t v.t),.box 72 6 (.t (T.agg [i64 0,i64 0,i64 0,i64 0,i64 0,i64 0]))]⟩
def sRu (l:List Ru) (b:Bool) (i:Int):St:=⟨slots 22 [(0,.t (.sl 6 (l.map Ru.t))),(1,.t (.bool b)),(5,.t (i64 i))],[]⟩
def RF (l:List Px) (i:Int):St:=⟨slots 34 [(0,.t (.sl 2 (l.map Px.t))),(3,.t (i64 i))],[]⟩
def RG (l:List Px) (i k:Int):St:=⟨slots 34 [(0,.t (.sl 2 (l.map Px.t))),(3,.t (i64 i)),(4,.t (i64 k))],[]⟩
def RJ (l:List Sd) (a i:Int):St:=⟨slots 70 [(0,.t (.sl 4 (l.map Sd.t))),(1,.t (i64 a)),(5,.t (i64 i))],[]⟩
def V5 (l:List Sd) (a i:Int) (s:Sd) (k:Int):St:=⟨slots 70 [(0,.t (.sl 4 (l.map Sd.t))),(1,.t (i64 a)),(5,.t (i64 i)),(6,.ptr 0 0),(7,.t (i64 k))],[.box 48 4 (.t s.t)]⟩
def sHb (l:List Int) (n i:Int):St:=⟨slots 18 [(0,.t (.sl 1 (ints l))),(1,.t (i64 n)),(5,.t (i64 i))],[]⟩
theorem q73 (N:Nat) (n:Int):aB env (N+1) 73 [i64 n]=W [i64 n] (eG env N 73 3 (WH 1 (dP true [0] n))):=by kernel_rfl
theorem aaR (N:Nat) (m i:Int):aT env N 73 0 3 (WH m i)=bif decide (i < 32) then aj.ok (Ex.norm,WH (IntKind.i64.wrap (m*2)) (IntKind.i64.wrap (i+1))) else aj.ok (Ex.exit 0,{tmps:=slots 14 [(3,PV.t (i64 m))],heap:=[]}):=by kernel_rfl
theorem MV (N:Nat) (m:Int):bK env N 73 0 3 (bU env 73) (.exit 0) (⟨slots 14 [(3,.t (i64 m))],[]⟩)=rI m:=by kernel_rfl
theorem q60 (N:Nat) (a n:Int):aB env (N+1) 60 [i64 a,i64 n]=W [i64 a,i64 n] (Qy N 73 [i64 n] fun b=>chk (!b==0) (rI (IntKind.i64.wrap (IntKind.i64.wrap (↑(BitVec.ofInt 64 a&&& BitVec.ofInt 64 4294967295).toNat:Int) - (IntKind.i64.wrap (↑(BitVec.ofInt 64 a&&& BitVec.ofInt 64 4294967295).toNat:Int)).tmod b)))):=by kernel_rfl
theorem q44 (N:Nat) (x:Px):aB env (N+1) 44 [x.t]=W [x.t] (bif decide (x.n≥0) then bif decide (x.n≤32) then bif decide (x.a≥0) then bif decide (x.a≤4294967295) then Qy N 60 [i64 x.a,i64 x.n] fun a=>rB (a==x.a) else rB false else rB false else rB false else rB false):=by kernel_rfl
theorem q89 (N:Nat) (r:Ru):aB env (N+1) 89 [r.t]=W [r.t] (bif r.m==0 then bif r.x.a==0&&(r.x.n==0&&true) then rB (r.v==0) else rB false else bif r.m==1 then jJ N 44 [r.x.t] fun b=>bif b then rB (r.v==0) else rB false else bif r.m==2 then bif r.x.a==0&&(r.x.n==0&&true) then bif decide (r.v≥1) then rB (decide (r.v≤4294967295)) else rB false else rB false else bif r.m==3 then bif r.x.a==0&&(r.x.n==0&&true) then bif decide (r.v≥0) then rB (decide (r.v≤32)) else rB false else rB false else bif r.m==4 then bif r.x.a==0&&(r.x.n==0&&true) then bif decide (r.v≥0) then rB (decide (r.v≤3)) else rB false else rB false else rB false):=by kernel_rfl
theorem q86 (N:Nat) (r:Ru) (b:Bool):aB env (N+1) 86 [r.t,.bool b]=W [r.t,.bool b] (jJ N 89 [r.t] fun b_1=>bif !b_1 then rB false else bif b then bif r.m==4 then rB false else bif r.a==0 then rB (r.n==0) else bif r.a==1 then bif !b then rB (r.n==0) else rB false else bif r.a==2 then bif b then bif decide (r.n≥1) then rB (decide (r.n≤399)) else rB false else rB false else bif r.a==3 then bif !b then bif decide (r.n≥1) then rB (decide (r.n≤8)) else rB false else rB false else rB false else bif r.a==0 then rB (r.n==0) else bif r.a==1 then bif !b then rB (r.n==0) else rB false else bif r.a==2 then bif b then bif decide (r.n≥1) then rB (decide (r.n≤399)) else rB false else rB false else bif r.a==3 then bif !b then bif decide (r.n≥1) then rB (decide (r.n≤8)) else rB false else rB false else rB false):=by kernel_rfl
theorem q82 (N:Nat) (l:List Ru) (b:Bool):aB env (N+1) 82 [.sl 6 (l.map Ru.t),.bool b]=W [.sl 6 (l.map Ru.t),.bool b] (eG env N 82 2 (sRu l b 0)):=by kernel_rfl
theorem aaS (N:Nat) (l:List Ru) (b:Bool) (i:Int):aT env N 82 0 2 (sRu l b i)=bif decide (i < (↑(List.map Ru.t l).length:Int)) then dF (List.map Ru.t l) i fun e=>jJ N 86 [e,T.bool b] fun b_1=>bif !b_1 then aj.ok (Ex.ret,{tmps:=slots 22 [(4,PV.t (T.bool false))],heap:=[]}) else aj.ok (Ex.norm,sRu l b (IntKind.i64.wrap (i+1))) else aj.ok (Ex.exit 0,{tmps:=slots 22 [(0,PV.t (T.sl 6 (List.map Ru.t l)))],heap:=[]}):=by kernel_rfl
theorem MX (N:Nat) (l:List Ru):bK env N 82 0 2 (bU env 82) (.exit 0) (⟨slots 22 [(0,.t (.sl 6 (l.map Ru.t)))],[]⟩)=rB (decide ((↑(List.map Ru.t l).length:Int)≤8)):=by kernel_rfl
theorem q67 (N:Nat) (n:Int):aB env (N+1) 67 [i64 n]=W [i64 n] (bif n==0 then rB true else bif decide (n≥3) then rB (decide (n≤65535)) else rB false):=by kernel_rfl
theorem q68 (N:Nat) (l:List Px):aB env (N+1) 68 [.sl 2 (l.map Px.t)]=W [.sl 2 (l.map Px.t)] (eG env N 68 2 (RF l 0)):=by kernel_rfl
theorem aaM (N:Nat) (l:List Px) (i:Int):aT env N 68 0 2 (RF l i)=bif decide (i < (↑(List.map Px.t l).length:Int)) then dF (List.map Px.t l) i fun e=>jJ N 44 [e] fun b=>bif !b then aj.ok (Ex.ret,{tmps:=slots 34 [(2,PV.t (T.bool false))],heap:=[]}) else oq env N 68 2 7 (RG l i 0) else aj.ok (Ex.exit 0,{tmps:=slots 34 [(0,PV.t (T.sl 2 (List.map Px.t l)))],heap:=[]}):=by kernel_rfl
theorem PK (N:Nat) (l:List Px) (i k:Int):kE env N 68 0 2 7 (RG l i k)=bif decide (k < i) then dF (List.map Px.t l) k fun e=>dF (List.map Px.t l) i fun e_1=>match T.fA [0,0] e.cells e_1.cells with|some b=>bif b then aj.ok (Ex.ret,{tmps:=slots 34 [(2,PV.t (T.bool false))],heap:=[]}) else aj.ok (Ex.norm,RG l i (IntKind.i64.wrap (k+1)))|none=>aj.stuck else aj.ok (Ex.exit 2,RF l i):=by kernel_rfl
theorem MN (N:Nat) (l:List Px):bK env N 68 0 2 (bU env 68) (.exit 0) (⟨slots 34 [(0,.t (.sl 2 (l.map Px.t)))],[]⟩)=rB (decide ((↑(List.map Px.t l).length:Int)≤8)):=by kernel_rfl
theorem Gx (N:Nat) (l:List Px) (i:Int):nR env N 68 0 2 7 (.exit 2) (⟨slots 34 [(0,.t (.sl 2 (l.map Px.t))),(3,.t (i64 i))],[]⟩)=aj.ok (Ex.norm,RF l (IntKind.i64.wrap (i+1))):=by kernel_rfl
theorem q69 (N:Nat) (l:List Sd) (a:Int):aB env (N+1) 69 [.sl 4 (l.map Sd.t),i64 a]=W [.sl 4 (l.map Sd.t),i64 a] (eG env N 69 2 (RJ l a 0)):=by kernel_rfl
theorem aaN (N:Nat) (l:List Sd) (a i:Int):aT env N 69 0 2 (RJ l a i)=bif decide (i < (↑(List.map Sd.t l).length:Int)) then dF (List.map Sd.t l) i fun e=>chk (e.cells.length==4&& !e.dS) (iT IntKind.i64 (e.ah 0 1 false) fun a_1=>bif decide (a_1 < 1) then aj.ok (Ex.ret,{tmps:=slots 70 [(4,PV.t (T.bool false))],heap:=[]}) else iT IntKind.i64 (e.ah 0 1 false) fun a_2=>bif decide (a_2 > 4294967295) then aj.ok (Ex.ret,{tmps:=slots 70 [(4,PV.t (T.bool false))],heap:=[]}) else iT IntKind.i64 (e.ah 0 1 false) fun iD=>bif iD==a then aj.ok (Ex.ret,{tmps:=slots 70 [(4,PV.t (T.bool false))],heap:=[]}) else iT IntKind.i64 (e.ah 1 1 false) fun ji=>bif decide (ji < 1) then aj.ok (Ex.ret,{tmps:=slots 70 [(4,PV.t (T.bool false))],heap:=[]}) else iT IntKind.i64 (e.ah 1 1 false) fun lu=>bif decide (lu > 3) then aj.ok (Ex.ret,{tmps:=slots 70 [(4,PV.t (T.bool false))],heap:=[]}) else jJ N 82 [e.ah 2 1 false,T.bool true] fun b=>bif !b then aj.ok (Ex.ret,{tmps:=slots 70 [(4,PV.t (T.bool false))],heap:=[]}) else jJ N 82 [e.ah 3 1 false,T.bool false] fun b=>bif !b then aj.ok (Ex.ret,{tmps:=slots 70 [(4,PV.t (T.bool false))],heap:=[]}) else oq env N 69 2 8 {tmps:=slots 70 [(0,PV.t (T.sl 4 (List.map Sd.t l))),(1,PV.t (i64 a)),(5,PV.t (i64 i)),(6,PV.ptr 0 0),(7,PV.t (i64 0))],heap:=[au.box 48 4 (PV.t e)]}) else aj.ok (Ex.exit 0,{tmps:=slots 70 [(0,PV.t (T.sl 4 (List.map Sd.t l)))],heap:=[]}):=by kernel_rfl
theorem PL (N:Nat) (l:List Sd) (a i:Int) (s:Sd) (k:Int):kE env N 69 0 2 8 (V5 l a i s k)=bif decide (k < i) then dF (List.map Sd.t l) k fun e=>iT IntKind.i64 (e.ah 0 1 false) fun a_1=>bif a_1==s.a then aj.ok (Ex.ret,{tmps:=slots 70 [(4,PV.t (T.bool false))],heap:=[]}) else aj.ok (Ex.norm,V5 l a i s (IntKind.i64.wrap (k+1))) else aj.ok (Ex.exit 2,RJ l a i):=by kernel_rfl
theorem MP (N:Nat) (l:List Sd):bK env N 69 0 2 (bU env 69) (.exit 0) (⟨slots 70 [(0,.t (.sl 4 (l.map Sd.t)))],[]⟩)=rB (decide ((↑(List.map Sd.t l).length:Int)≤8)):=by kernel_rfl
theorem Gy (N:Nat) (l:List Sd) (a i:Int):nR env N 69 0 2 8 (.exit 2) (⟨slots 70 [(0,.t (.sl 4 (l.map Sd.t))),(1,.t (i64 a)),(5,.t (i64 i))],[]⟩)=aj.ok (Ex.norm,RJ l a (IntKind.i64.wrap (i+1))):=by kernel_rfl
theorem q54 (N:Nat) (c:Cf):aB env (N+1) 54 [c.t]=W [c.t] (bif decide (c.a≥1) then bif decide (c.a≤4294967295) then bif decide (c.d≥1) then bif decide (c.d≤4294967295) then jJ N 67 [i64 c.h] fun b=>bif b then bif decide (c.k≥1) then bif decide (c.k≤1000) then jJ N 68 [T.sl 2 (List.map Px.t c.w)] fun b=>bif b then cl N 69 [T.sl 4 (List.map Sd.t c.s),i64 c.a] fun x=>aj.ok x else rB false else rB false else rB false else rB false else rB false else rB false else rB false else rB false):=by kernel_rfl
end
section
open Go.RowKit Go.Proofs
variable [Lv]
theorem SQ (N:Nat) (v:Bool):bK env N 82 0 2 (bU env 82) (.ret) (⟨slots 22 [(4,.t (.bool v))],[]⟩)=rB v:=by kernel_rfl
theorem SH (N:Nat) (v:Bool):bK env N 68 0 2 (bU env 68) (.ret) (⟨slots 34 [(2,.t (.bool v))],[]⟩)=rB v:=by kernel_rfl
theorem ML (N:Nat) (v:Bool):nR env N 68 0 2 7 (.ret) (⟨slots 34 [(2,.t (.bool v))],[]⟩)=aj.ok (Ex.ret,{tmps:=slots 34 [(2,PV.t (T.bool v))],heap:=[]}):=by kernel_rfl
theorem SK (N:Nat) (v:Bool):bK env N 69 0 2 (bU env 69) (.ret) (⟨slots 70 [(4,.t (.bool v))],[]⟩)=rB v:=by kernel_rfl
theorem MO (N:Nat) (v:Bool):nR env N 69 0 2 8 (.ret) (⟨slots 70 [(4,.t (.bool v))],[]⟩)=aj.ok (Ex.ret,{tmps:=slots 70 [(4,PV.t (T.bool v))],heap:=[]}):=by kernel_rfl
end
section
open Go.RowKit Go.Proofs
variable [Lv]
end
section
open Go.RowKit Go.Proofs
variable [Lv]
end
section
open Go.RowKit Go.Proofs
theorem Bj {p:Nat→Bool}:∀ {k i j:Nat},dH p i k=some j→∀ m,i≤m→m < j→p m=false
 |0,i,j,h,m,a,b=>by simp[dH] at h
 |k+1,i,j,h,m,a,b=>by
  cases hp:p i with
  |true=>simp[dH,hp] at h; omega
  |false=>
   simp only[dH,hp,cond_false] at h
   rcases Nat.lt_or_ge i m with c|c
   · exact Bj h m (by omega) b
   · have:m=i:=by omega
     subst this; exact hp
def TL (n:Int):Int:=2 ^ (32 - max n 0).toNat
theorem zk {s:Nat} (h:s≤32):(2:Int) ^ s≤4294967296∧0 < (2:Int) ^ s:=by
 constructor
 · have:(2:Int) ^ s≤2 ^ 32:=by exact_mod_cast Nat.pow_le_pow_right (by omega) h
   simpa using this
 · exact_mod_cast Nat.pow_pos (by omega:0 < 2)
theorem Au (a:Int):0≤((BitVec.toNat (BitVec.ofInt 64 a&&& BitVec.ofInt 64 4294967295):Nat):Int)∧((BitVec.toNat (BitVec.ofInt 64 a&&& BitVec.ofInt 64 4294967295):Nat):Int)≤4294967295:=by
 have h:BitVec.toNat (BitVec.ofInt 64 a&&& BitVec.ofInt 64 4294967295)≤4294967295:=by
  rw[BitVec.toNat_and]
  exact Nat.le_trans Nat.and_le_right (by decide)
 omega
theorem Qa {a n:Int} (h0:0≤n) (h1:n≤32):vO a n=((BitVec.toNat (BitVec.ofInt 64 a&&& BitVec.ofInt 64 4294967295):Nat):Int) / 2 ^ (32 - n).toNat*2 ^ (32 - n).toNat:=by
 have hx:=Au a
 have hs:Ag n=32 - n:=by rw[Iq]; omega
 unfold vO
 rw[hs,Nat.min_eq_left (show(32 - n).toNat≤64 by omega)]
 generalize ((BitVec.toNat (BitVec.ofInt 64 a&&& BitVec.ofInt 64 4294967295):Nat):Int)=y at hx ⊢
 obtain⟨p1,p2⟩:=zk (s:=(32 - n).toNat) (by omega)
 generalize (2:Int) ^ (32 - n).toNat=p at p1 p2 ⊢
 have e1:IntKind.i64.wrap y=y:=wrap64 (by omega)
 rw[e1,Int.fdiv_eq_ediv_of_nonneg y (by omega)]
 have q1:=Int.ediv_mul_le y (show p≠0 by omega)
 have q2:0≤y / p*p:=Int.mul_nonneg (Int.ediv_nonneg hx.1 (by omega)) (by omega)
 rw[wrap64 (by omega)]
theorem OQ {a n:Int} (h0:0≤n) (h1:n≤32):0≤vO a n∧vO a n≤4294967295:=by
 rw[Qa h0 h1]
 have hx:=Au a
 generalize ((BitVec.toNat (BitVec.ofInt 64 a&&& BitVec.ofInt 64 4294967295):Nat):Int)=y at hx ⊢
 obtain⟨p1,p2⟩:=zk (s:=(32 - n).toNat) (by omega)
 generalize (2:Int) ^ (32 - n).toNat=p at p1 p2 ⊢
 have q1:=Int.ediv_mul_le y (show p≠0 by omega)
 have q2:0≤y / p*p:=Int.mul_nonneg (Int.ediv_nonneg hx.1 (by omega)) (by omega)
 omega
theorem AU {α κ:Type} [DecidableEq κ] {kf:α→κ} {q:α→Bool}:∀ {l:List α} {s:List κ},jl kf q s l=true↔∀ (i:Nat) (x:α),l[i]? =some x→(s++(l.take i).map kf).contains (kf x)=false∧q x=true
 | [],s=>by simp[jl]
 |y::l,s=>by
  unfold jl
  rw[Bool.and_eq_true,Bool.and_eq_true,AU]
  constructor
  · rintro⟨h1,h2,h3⟩ i x hx
    cases i with
    |zero=>
     simp only[List.getElem?_cons_zero,Option.some.injEq] at hx
     subst hx
     refine⟨?_,h2⟩
     simpa using h1
    |succ i=>
     have:=h3 i x (by simpa using hx)
     rw[List.take_succ_cons,List.map_cons]
     rw[List.append_assoc] at this
     exact this
  · intro h
    have h0:=h 0 y rfl
    refine⟨by simpa using h0.1,h0.2,fun i x hx=>?_⟩
    have:=h (i+1) x (by simpa using hx)
    rw[List.take_succ_cons,List.map_cons] at this
    rw[List.append_assoc]
    exact this
variable [Lv]
theorem acG {M:Nat} {n:Int} (hM:40≤M) (hn:aS n=true):aB env (M+1) 73 [i64 n]= .ok (i64 (TL n)):=by
 rw[q73,dA (jD (bC hn))]
 have hm:dP true [0] n=max n 0:=by
  simp only[dP,cond_true]
  split<;>omega
 rw[hm]
 have main:∀ (d k:Nat) (i m:Int),(32 - i).toNat=d→0≤i→i≤9223372036854775807→0≤m→m*2 ^ d≤4294967296→d < k→eF (aT env M 73 0 3) k (WH m i)= .ok (.exit 0,⟨slots 14 [(3,.t (i64 (m*2 ^ d)))],[]⟩):=by
  intro d
  induction d with
  |zero=>
   intro k i m hd h0 h9 hm0 hm1 hk
   obtain⟨k,rfl⟩:∃ j,k=j+1:=⟨k - 1,by omega⟩
   have hb:aT env M 73 0 3 (WH m i)= .ok (.exit 0,⟨slots 14 [(3,.t (i64 (m*2 ^ 0)))],[]⟩):=by
    rw[aaR,decide_eq_false (by omega),Int.pow_zero,Int.mul_one]; rfl
   exact iH hb
  |succ d ih=>
   intro k i m hd h0 h9 hm0 hm1 hk
   obtain⟨k,rfl⟩:∃ j,k=j+1:=⟨k - 1,by omega⟩
   have hp:(1:Int)≤2 ^ d:=(by exact_mod_cast Nat.pow_pos (by omega:0 < 2):(0:Int) < 2 ^ d)
   have e:m*2 ^ (d+1)=(m*2)*2 ^ d:=by rw[Int.pow_succ,Int.mul_comm (2 ^ d) 2,Int.mul_assoc]
   have hle:m*2≤4294967296:=by
    rw[e] at hm1
    exact Int.le_trans (by have:=Int.mul_le_mul_of_nonneg_left hp (show 0≤m*2 by omega); omega) hm1
   have hb:aT env M 73 0 3 (WH m i)= .ok (.norm,WH (m*2) (i+1)):=by
    rw[aaR,decide_eq_true (by omega),wrap64 (by omega),wrap64 (by omega)]; rfl
   rw[bJ hb,e]
   exact ih k (i+1) (m*2) (by omega) (by omega) (by omega) (by omega) (by rw[←e]; exact hm1) (by omega)
 have hn':=lM.1 hn
 have hd:(32 - max n 0).toNat≤32:=by omega
 obtain⟨p1,p2⟩:=zk hd
 have it:=main (32 - max n 0).toNat M (max n 0) 1 rfl (by omega) (by omega) (by omega) (by rw[Int.one_mul]; exact p1) (by omega)
 refine(aN it).trans ((MV M _).trans ?_)
 rw[Int.one_mul]; rfl
theorem acy {M:Nat} {a n:Int} (hM:42≤M) (ha:aS a=true) (hn:aS n=true) (h0:0≤n) (h1:n≤32):aB env (M+1) 60 [i64 a,i64 n]= .ok (i64 (vO a n)):=by
 obtain⟨m,rfl⟩:=gV (show 1≤M by omega)
 rw[q60,dA (iY (bC ha) (bC hn)),wS (acG (by omega) hn),Qa h0 h1]
 have hs:TL n=2 ^ (32 - n).toNat:=by unfold TL; rw[show max n 0=n by omega]
 rw[hs]
 have hx:=Au a
 generalize ((BitVec.toNat (BitVec.ofInt 64 a&&& BitVec.ofInt 64 4294967295):Nat):Int)=y at hx ⊢
 obtain⟨p1,p2⟩:=zk (s:=(32 - n).toNat) (by omega)
 generalize (2:Int) ^ (32 - n).toNat=p at p1 p2 ⊢
 have hp:(p==0)=false:=beq_eq_false_iff_ne.2 (by omega)
 rw[hp,wrap64 (show -9223372036854775808≤y∧y≤9223372036854775807 by omega),Int.tmod_eq_emod_of_nonneg hx.1]
 have q1:=Int.ediv_mul_le y (show p≠0 by omega)
 have q2:0≤y / p*p:=Int.mul_nonneg (Int.ediv_nonneg hx.1 (by omega)) (by omega)
 have q3:y - y % p=y / p*p:=by have:=Int.emod_add_mul_ediv y p; rw[Int.mul_comm] at this; omega
 rw[q3,wrap64 (by omega)]
 rfl
theorem Ug {M:Nat} {x:Px} (hM:44≤M) (h:x.ok):aB env (M+1) 44 [x.t]= .ok (.bool (jo x)):=by
 obtain⟨m,rfl⟩:=gV (show 1≤M by omega)
 rw[q44,dA (jD h.wf)]
 unfold jo
 by_cases h0:x.n≥0
 case neg=>rw[decide_eq_false h0]; rfl
 by_cases h1:x.n≤32
 case neg=>rw[decide_eq_true h0,decide_eq_false h1]; rfl
 have hr:=OQ (a:=x.a) h0 h1
 rw[decide_eq_true h0,decide_eq_true h1]
 simp only[cond_true,Bool.true_and]
 by_cases h2:x.a≥0
 case neg=>rw[decide_eq_false h2,beq_eq_false_iff_ne.2 (show x.a≠vO x.a x.n by omega)]; rfl
 by_cases h3:x.a≤4294967295
 case neg=>rw[decide_eq_true h2,decide_eq_false h3,beq_eq_false_iff_ne.2 (show x.a≠vO x.a x.n by omega)]; rfl
 rw[decide_eq_true h2,decide_eq_true h3]
 simp only[cond_true]
 rw[wS (acy (by omega) h.a h.n h0 h1),Bool.beq_comm]
theorem IC {n:Int}:decide (n≥1)=decide (n > 0):=decide_eq_decide.2 (by omega)
theorem dec_lt {n:Int}:decide (n≤399)=decide (n < 400):=decide_eq_decide.2 (by omega)
theorem TQ {a b:Bool}:(bif a then rB b else rB false)= .ok (.bool (a&&b)):=by cases a<;>rfl
theorem acM {M:Nat} {r:Ru} (hM:46≤M) (h:r.ok):aB env (M+1) 89 [r.t]= .ok (.bool (iJ r)):=by
 obtain⟨m,rfl⟩:=gV (show 1≤M by omega)
 rw[q89,dA (jD h.wf)]
 unfold iJ qF
 by_cases h0:r.m=0
 · rw[h0,if_pos rfl]
   have:(r.v==0)=(decide (r.v≥0)&&decide (r.v≤0)):=by
    rw[Bool.eq_iff_iff,beq_iff_eq,Bool.and_eq_true,decide_eq_true_eq,decide_eq_true_eq]; omega
   rw[this]
   exact TQ
 rw[beq_eq_false_iff_ne.2 h0,if_neg h0]
 by_cases h1:r.m=1
 · rw[h1,if_pos rfl]
   simp only[cond_false,beq_self_eq_true,cond_true]
   rw[dM (Ug (by omega) h.x)]
   exact TQ
 rw[beq_eq_false_iff_ne.2 h1,if_neg h1]
 by_cases h2:r.m=2
 · rw[h2,if_pos rfl]
   simp only[cond_false,beq_self_eq_true,cond_true,jV]
 rw[beq_eq_false_iff_ne.2 h2,if_neg h2]
 by_cases h3:r.m=3
 · rw[h3,if_pos rfl]
   simp only[cond_false,beq_self_eq_true,cond_true,jV]
 rw[beq_eq_false_iff_ne.2 h3,if_neg h3]
 by_cases h4:r.m=4
 · rw[h4,if_pos rfl]
   simp only[cond_false,beq_self_eq_true,cond_true,jV]
 rw[beq_eq_false_iff_ne.2 h4,if_neg h4]
 rfl
theorem acL {M:Nat} {r:Ru} {b:Bool} (hM:48≤M) (h:r.ok):aB env (M+1) 86 [r.t,.bool b]= .ok (.bool (oZ r b)):=by
 obtain⟨m,rfl⟩:=gV (show 1≤M by omega)
 rw[q86,dA (iY h.wf (vU b)),dM (acM (by omega) h)]
 unfold oZ
 cases iJ r with
 |false=>rfl
 |true=>
 have key:(bif r.a==0 then rB (r.n==0) else bif r.a==1 then bif !b then rB (r.n==0) else rB false else bif r.a==2 then bif b then bif decide (r.n≥1) then rB (decide (r.n≤399)) else rB false else rB false else bif r.a==3 then bif !b then bif decide (r.n≥1) then rB (decide (r.n≤8)) else rB false else rB false else rB false)= .ok (.bool (Fj r b)):=by
  unfold Fj
  rw[IC,dec_lt]
  by_cases h0:r.a=0
  · rw[h0,if_pos rfl]; rfl
  rw[beq_eq_false_iff_ne.2 h0,if_neg h0]
  by_cases h1:r.a=1
  · rw[h1,if_pos rfl]; simp only[cond_false,beq_self_eq_true,cond_true,jV]
  rw[beq_eq_false_iff_ne.2 h1,if_neg h1]
  by_cases h2:r.a=2
  · rw[h2,if_pos rfl]; simp only[cond_false,beq_self_eq_true,cond_true,jV]
  rw[beq_eq_false_iff_ne.2 h2,if_neg h2]
  by_cases h3:r.a=3
  · rw[h3,if_pos rfl]; simp only[cond_false,beq_self_eq_true,cond_true,jV]
  rw[beq_eq_false_iff_ne.2 h3,if_neg h3]
  rfl
 simp only[Bool.not_true,cond_false]
 rw[key]
 cases b with
 |false=>rfl
 |true=>cases r.m==4<;>rfl
theorem acA {M:Nat} {n:Int} (hn:aS n=true):aB env (M+1) 67 [i64 n]= .ok (.bool (holdB n)):=by
 rw[q67,dA (jD (bC hn))]
 simp only[jV,TJ]
 rfl
theorem Uk {M:Nat} {l:List Ru} {b:Bool} (hM:big+50≤M) (hl:dN Ru.ok l):aB env (M+1) 82 [.sl 6 (l.map Ru.t),.bool b]= .ok (.bool (qU l b)):=by
 obtain⟨m,rfl⟩:=gV (show 1≤M by omega)
 have hb:=hl.1
 rw[q82,dA (iY (gq (fun _ h=>Ru.ok.wf h) hl) (vU b))]
 have it:=rU (B:=aT env (m+1) 82 0 2) (S:=fun i=>sRu l b i) (R:=⟨slots 22 [(4,.t (.bool false))],[]⟩) (X:=⟨slots 22 [(0,.t (.sl 6 (l.map Ru.t)))],[]⟩) (id:=0) (fun r=> !oZ r b) l (n:=m+1) (by omega) (fun j x hx=>by
  have hj:=(List.getElem?_eq_some_iff.1 hx).1
  rw[aaS,decide_eq_true (by rw[List.length_map]; omega)]
  simp only[cond_true]
  rw[aF (aI hx),dM (acL (by omega) (hl.2 _ (List.mem_of_getElem? hx))),wrap_succ (show j≤big by omega)]) (by rw[aaS,decide_eq_false (by rw[List.length_map]; omega)]; rfl)
 unfold qU
 cases hc:l.any (fun r=> !oZ r b) with
 |true=>rw[hc] at it; rw[Bool.not_true,Bool.and_false]; exact(aN it).trans (SQ (m+1) false)
 |false=>rw[hc] at it; rw[Bool.not_false,Bool.and_true,←List.length_map (f:=Ru.t)]; exact(aN it).trans (MX (m+1) l)
end
end Go.aO
