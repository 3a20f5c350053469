/- The texts of a proof, one behind the other: an interpreter and its soundness, what the functions of the program answer, and plain laws on that. -/
import Derived.Test.YtckfafoabnfbpaaX1
import Derived.Test.YtckfafoabnfbpaaK9
set_option linter.unusedVariables false
set_option linter.unusedSimpArgs false
set_option linter.unnecessarySimpa false
set_option linter.unusedSectionVars false
set_option maxRecDepth 100000
namespace Go.aO
section
open Go.RowKit
def Ag (b:Int):Int:=IntKind.i64.wrap (32 - dP true [dP false [32] b] 0)
def vO (a b:Int):Int:=IntKind.i64.wrap (Int.fdiv (IntKind.i64.wrap ((BitVec.toNat (BitVec.ofInt 64 a&&& BitVec.ofInt 64 4294967295):Nat):Int)) (2 ^ min (Int.toNat (Ag b)) 64)*2 ^ min (Int.toNat (Ag b)) 64)
theorem Iq (b:Int):Ag b=32 - max 0 (min b 32):=by
 unfold Ag
 have h:dP true [dP false [32] b] 0=max 0 (min b 32):=by
  simp only[dP,cond_true,cond_false]
  split<;>split<;>omega
 rw[h,wrap64 (by omega)]
def jo (x:Px):Bool:=decide (x.n≥0)&&(decide (x.n≤32)&&(x.a==vO x.a x.n))
def aec (x y:Px):Bool:=jo x&&(jo y&&(decide (x.n≤y.n)&&(vO y.a x.n==x.a)))
def qF (r:Ru) (lo hi:Int):Bool:=(r.x.a==0&&(r.x.n==0&&true))&&(decide (r.v≥lo)&&decide (r.v≤hi))
def iJ (r:Ru):Bool:=if r.m=0 then qF r 0 0 else if r.m=1 then jo r.x&&(r.v==0) else if r.m=2 then qF r 1 4294967295 else if r.m=3 then qF r 0 32 else if r.m=4 then qF r 0 3 else false
def Fj (r:Ru) (b:Bool):Bool:=if r.a=0 then r.n==0 else if r.a=1 then !b&&(r.n==0) else if r.a=2 then b&&(decide (r.n > 0)&&decide (r.n < 400)) else if r.a=3 then !b&&(decide (r.n > 0)&&decide (r.n≤8)) else false
def oZ (r:Ru) (b:Bool):Bool:=iJ r&&(!(b&&(r.m==4))&&Fj r b)
def kT (c:Int) (r:Ru):Bool:=(r.m==0)||((r.m==4)&&(r.v==c))
def eX (c:Int) (r:Ru):Bool:=(r.m==4)&&(r.v !=c)
def bI (l:List Ru) (c:Int):List Ru:=((match l.findIdx? (kT c) with|some k=>l.take (k+1)|none=>l).filter fun r=> !eX c r)
def nX (n:Int):Bool:=decide (n > 0)&&decide (n≤4294967295)
def holdB (n:Int):Bool:=(n==0)||(decide (n≥3)&&decide (n≤65535))
def qU (l:List Ru) (b:Bool):Bool:=decide ((l.length:Int)≤8)&& !(l.any fun r=> !oZ r b)
def nP (s:Sd):Bool:=nX s.a&&(decide (s.r≥1)&&(decide (s.r≤3)&&(qU s.i true&&qU s.o false)))
def jl {α κ:Type} [DecidableEq κ] (k:α→κ) (q:α→Bool):List κ→List α→Bool
 |_,[]=>true
 |seen,x::l=> !(seen.contains (k x))&&(q x&&jl k q (seen++ [k x]) l)
def dZ (c:Cf):Bool:=nX c.a&&(nX c.d&&(holdB c.h&&(decide (1≤c.k)&&(decide (c.k≤1000)&&(decide (c.w.length≤8)&&(decide (c.s.length≤8)&&
 (jl id jo [] c.w&&jl Sd.a nP [c.a] c.s)))))))
def vI (c:Cf):Bool:=c.s.all (fun s=>decide (s.i.length≤20)&&decide (s.o.length≤20))&&(decide (c.w.length≤20)&&decide (c.s.length≤20))
def idxOf (c:Cf) (n:Int):Option Nat:=c.s.findIdx? fun s=>s.a==n
def dO (c:Cf) (n:Int):Int:=((idxOf c n).getD 0:Nat)
def mY (b:Bool) (w:Option Ru) (l:List Ru):Option Ru:=l.foldl (fun w r=>if r.a=2 then(match w with|none=>some r|some v=>if decide (r.n < v.n)==b then some r else some v) else w) w
def QO (c:Cf) (k:Int):Option Ru:=c.s.foldl (fun w s=>if s.r=k then mY true w (bI s.i k) else w) none
def xB (c:Cf) (k:Int):Option Int:=if k=0 then some 400 else(QO c k).map (·.n)
def gU (c:Cf) (k:Int):Option Int:=if 0≤k then(match c.s[k.toNat]? with|some s=>(mY false none (bI s.i s.r)).map (·.n)|none=>none) else none
def uT (c:Cf) (k n:Int):Bool:=if 0≤k then(match c.s[k.toNat]? with|some s=>(bI s.o n).any (fun r=>r.a !=0)|none=>false) else false
def pF (a:Cf) (h:Option Int) (k n:Int):Bool:=(xB a n).isSome&&(h.isSome&&(decide (h.getD 0 > (xB a n).getD 0)&&uT a k n))
def zZ (a b:Cf):Bool:=dZ a&&(dZ b&&((idxOf a b.a).isSome&&((idxOf b a.a).isSome&& !([0,1,2,3].any (pF a (gU b (dO b a.a)) (dO a b.a))))))
end
section
open Go.RowKit Go.Proofs
theorem jV (a b:Bool):(bif a then rB b else rB false)=rB (a&&b):=by cases a<;>rfl
theorem TJ (a b:Bool):(bif a then rB true else rB b)=rB (a||b):=by cases a<;>rfl
theorem gV {M:Nat} (h:1≤M):∃ m,M=m+1:=⟨M - 1,by omega⟩
theorem vU (b:Bool):(T.bool b).wf=true:=rfl
theorem mP {x:T} (h:x.wf=true):(T.ref x).wf=true:=by simpa[T.wf] using h
theorem Aj {f:FuncId} {xs:List T} (h:T.wfs xs=true):(T.fn f [] xs).wf=true:=by simp[T.wf,T.wfs,h]
variable [Lv]
theorem qL {β:Type} {N:Nat} {g:FuncId} {fs ts cs:List T} {K:T→aj β} (h:env.mode g=0):vg env (aJ env N) (.fn g fs cs) ts K=cl N g (fs++ts++cs) K:=by simp[vg,h,cl,aJ]
theorem Uh {M:Nat} {a b:Int} (ha:aS a=true) (hb:aS b=true):aB env (M+1) 59 [i64 a,i64 b]= .ok (i64 (vO a b)):=by
 rw[q59,dA (iY (bC ha) (bC hb))]
 have h:decide (0≤IntKind.i64.wrap (32 - dP true [dP false [32] b] 0))=true:=decide_eq_true (by have:=Iq b; unfold Ag at this; rw[this]; omega)
 simp only[h,chk,cond_true]
 rfl
theorem Dp {M:Nat} {x:Px} (h:x.ok) (hM:1≤M):aB env (M+1) 41 [x.t]= .ok (.bool (jo x)):=by
 obtain⟨m,rfl⟩:=gV hM
 rw[q41,dA (jD h.wf),wS (Uh h.a h.n)]
 simp only[jV]
 rfl
theorem acN {M:Nat} {r:Ru} {lo hi:Int} (h:r.ok) (hl:aS lo=true) (hh:aS hi=true):aB env (M+1) 91 [r.t,i64 lo,i64 hi]= .ok (.bool (qF r lo hi)):=by
 rw[q91,dA (FY h.wf (bC hl) (bC hh))]
 simp only[jV]
 rfl
theorem acJ {M:Nat} {r:Ru} {c:Int} (h:r.ok) (hc:aS c=true):aB env (M+1) 78 [r.t,i64 c]= .ok (.bool (kT c r)):=by
 rw[q78,dA (iY h.wf (bC hc))]
 simp only[jV,TJ]
 rfl
theorem acI {M:Nat} {r:Ru} {c:Int} (h:r.ok) (hc:aS c=true) (hM:1≤M):aB env (M+1) 77 [r.t,.ref (i64 c)]= .ok (.bool (kT c r)):=by
 obtain⟨m,rfl⟩:=gV hM
 rw[q77,dA (iY h.wf (mP (bC hc))),aV (acJ h hc)]
theorem NG {M:Nat} {r:Ru} {c:Int} (h:r.ok) (hc:aS c=true):aB env (M+1) 81 [r.t,.ref (i64 c)]= .ok (.bool (eX c r)):=by
 rw[q81,dA (iY h.wf (mP (bC hc)))]
 simp only[jV]
 rfl
def zM (m:Int):T:=if m=0 then .agg [.fn 90 [] [],.fn 92 [] []] else if m=1 then .agg [.fn 93 [] [],.fn 94 [] []] else if m=2 then .agg [.fn 96 [] [],.fn 97 [] []] else if m=3 then .agg [.fn 99 [] [],.fn 100 [] []] else if m=4 then .agg [.fn 101 [] [],.fn 102 [] []] else .agg [.lT,.lT]
def inK (m:Int):Bool:=decide (0≤m)&&decide (m < 5)
theorem EI (m:Int):(inK m=false∧(m < 0∨m≥5)∧m≠0∧m≠1∧m≠2∧m≠3∧m≠4)∨m=0∨m=1∨m=2∨m=3∨m=4:=by
 unfold inK
 by_cases h:0≤m∧m < 5
 · right; omega
 · left
   refine⟨?_,by omega,by omega,by omega,by omega,by omega,by omega⟩
   rcases(show m < 0∨0≤m by omega) with h1|h1
   · rw[decide_eq_false (by omega)]; rfl
   · rw[decide_eq_false (show ¬ m < 5 by omega)]; simp
theorem acK {M:Nat} {r:Ru} (h:r.ok) (hM:1≤M):aB env (M+1) 85 [r.t]= .ok (.ak [zM r.m,.bool (inK r.m)]):=by
 obtain⟨m,rfl⟩:=gV hM
 rw[q85,dA (jD h.wf),aV (show aB env (m+1) 88 []=_ from by rw[q88,dA rfl])]
 rcases EI r.m with ⟨h1,h2,h3,h4,h5,h6,h7⟩|h1|h1|h1|h1|h1
 · rw[h1,zM,if_neg h3,if_neg h4,if_neg h5,if_neg h6,if_neg h7]
   rcases h2 with h2|h2
   · rw[decide_eq_true h2]; rfl
   · rw[decide_eq_true h2]; cases decide (r.m < 0)<;>rfl
 all_goals (rw[h1]; rfl)
theorem ae9 {p:Prop} [Decidable p] {a b:Bool}:(if p then rB a else rB b)=rB (if p then a else b):=by split<;>rfl
theorem WQ {n k:Int} {β:Type} {x y:β}:(bif n==k then x else y)=if n=k then x else y:=by
 by_cases h:n=k
 · rw[if_pos h,beq_iff_eq.2 h]; rfl
 · rw[if_neg h,beq_eq_false_iff_ne.2 h]; rfl
theorem acH {M:Nat} {r:Ru} {b:Bool} (h:r.ok) (hM:4≤M):aB env (M+1) 75 [r.t,.bool b]= .ok (.bool (oZ r b)):=by
 obtain⟨m,rfl⟩:=gV (show 1≤M by omega)
 obtain⟨m,rfl⟩:=gV (show 1≤m by omega)
 rw[q75,dA (iY h.wf (vU b)),aV (acK h (by omega))]
 have num:∀ lo hi,aS lo=true→aS hi=true→aB env (m+1) 91 [r.t,i64 lo,i64 hi]= .ok (.bool (qF r lo hi)):=fun lo hi a c=>acN h a c
 have act:∀ (t:aj T) (q:Bool),(bif !q then rB false else t)=rB (q&&(!(b&&(r.m==4))&&Fj r b))↔q=false∨t=rB (!(b&&(r.m==4))&&Fj r b):=fun t q=>by cases q<;>simp
 have rest:∀ q:Bool,(bif !q then rB false else bif b then bif r.m==4 then rB false else bif r.a==0 then rB (r.n==0) else bif r.a==1 then bif !b then rB (r.n==0) else rB false else bif r.a==2 then bif b then bif decide (r.n > 0) then rB (decide (r.n < 400)) else rB false else rB false else bif r.a==3 then bif !b then bif decide (r.n > 0) then rB (decide (r.n≤8)) else rB false else rB false else rB false else bif r.a==0 then rB (r.n==0) else bif r.a==1 then bif !b then rB (r.n==0) else rB false else bif r.a==2 then bif b then bif decide (r.n > 0) then rB (decide (r.n < 400)) else rB false else rB false else bif r.a==3 then bif !b then bif decide (r.n > 0) then rB (decide (r.n≤8)) else rB false else rB false else rB false)=rB (q&&(!(b&&(r.m==4))&&Fj r b)):=fun q=>by
  cases q with
  |false=>rfl
  |true=>
   simp only[Bool.not_true,cond_false,jV,WQ,ae9,Bool.true_and]
   unfold Fj
   cases b with
   |true=>
    simp only[cond_true,Bool.true_and,Bool.not_true,Bool.false_and]
    by_cases h4:r.m=4
    · simp[h4]
    · simp[h4]
   |false=>simp only[cond_false,Bool.false_and,Bool.not_false,Bool.true_and]
 rcases EI r.m with ⟨h1,h2,h3,h4,h5,h6,h7⟩|h1|h1|h1|h1|h1
 · have:oZ r b=false:=by unfold oZ iJ; rw[if_neg h3,if_neg h4,if_neg h5,if_neg h6,if_neg h7]; rfl
   rw[this,h1,zM,if_neg h3,if_neg h4,if_neg h5,if_neg h6,if_neg h7]
   rfl
 · have hm:iJ r=qF r 0 0:=by unfold iJ; rw[if_pos h1]
   have hk:aB env (m+1+1) 90 [r.t]= .ok (.bool (qF r 0 0)):=by rw[q90,dA (jD h.wf),aV (num _ _ (by decide) (by decide))]
   have e:∀ K:T→aj T,vg env (aJ env (m+1+1)) (T.ah (zM 0) 0 1 false) [r.t] K=K (.bool (qF r 0 0)):=fun K=>(qL (g:=90) (fs:=[]) (cs:=[]) rfl).trans (aV hk)
   have hr:=rest (iJ r)
   rw[hm] at hr
   show _=rB (iJ r&&_)
   rw[hm,←hr]
   rw[h1]
   exact e _
 · have hm:iJ r=(jo r.x&&(r.v==0)):=by unfold iJ; rw[if_neg (by omega),if_pos h1]
   have hk:aB env (m+1+1) 93 [r.t]= .ok (.bool (jo r.x&&(r.v==0))):=by rw[q93,dA (jD h.wf),dM (Dp h.x (by omega)),jV]
   have e:∀ K:T→aj T,vg env (aJ env (m+1+1)) (T.ah (zM 1) 0 1 false) [r.t] K=K (.bool (jo r.x&&(r.v==0))):=fun K=>(qL (g:=93) (fs:=[]) (cs:=[]) rfl).trans (aV hk)
   have hr:=rest (iJ r)
   rw[hm] at hr
   show _=rB (iJ r&&_)
   rw[hm,←hr]
   rw[h1]
   exact e _
 · have hm:iJ r=qF r 1 4294967295:=by unfold iJ; rw[if_neg (by omega),if_neg (by omega),if_pos h1]
   have hk:aB env (m+1+1) 96 [r.t]= .ok (.bool (qF r 1 4294967295)):=by rw[q96,dA (jD h.wf),aV (num _ _ (by decide) (by decide))]
   have e:∀ K:T→aj T,vg env (aJ env (m+1+1)) (T.ah (zM 2) 0 1 false) [r.t] K=K (.bool (qF r 1 4294967295)):=fun K=>(qL (g:=96) (fs:=[]) (cs:=[]) rfl).trans (aV hk)
   have hr:=rest (iJ r)
   rw[hm] at hr
   show _=rB (iJ r&&_)
   rw[hm,←hr]
   rw[h1]
   exact e _
 · have hm:iJ r=qF r 0 32:=by unfold iJ; rw[if_neg (by omega),if_neg (by omega),if_neg (by omega),if_pos h1]
   have hk:aB env (m+1+1) 99 [r.t]= .ok (.bool (qF r 0 32)):=by rw[q99,dA (jD h.wf),aV (num _ _ (by decide) (by decide))]
   have e:∀ K:T→aj T,vg env (aJ env (m+1+1)) (T.ah (zM 3) 0 1 false) [r.t] K=K (.bool (qF r 0 32)):=fun K=>(qL (g:=99) (fs:=[]) (cs:=[]) rfl).trans (aV hk)
   have hr:=rest (iJ r)
   rw[hm] at hr
   show _=rB (iJ r&&_)
   rw[hm,←hr]
   rw[h1]
   exact e _
 · have hm:iJ r=qF r 0 3:=by unfold iJ; rw[if_neg (by omega),if_neg (by omega),if_neg (by omega),if_neg (by omega),if_pos h1]
   have hk:aB env (m+1+1) 101 [r.t]= .ok (.bool (qF r 0 3)):=by rw[ahD,dA (jD h.wf),aV (num _ _ (by decide) (by decide))]
   have e:∀ K:T→aj T,vg env (aJ env (m+1+1)) (T.ah (zM 4) 0 1 false) [r.t] K=K (.bool (qF r 0 3)):=fun K=>(qL (g:=101) (fs:=[]) (cs:=[]) rfl).trans (aV hk)
   have hr:=rest (iJ r)
   rw[hm] at hr
   show _=rB (iJ r&&_)
   rw[hm,←hr]
   rw[h1]
   exact e _
theorem J7 {N:Nat} {F:FuncId} {α:Type} {S R:Int→St} {X:St} {l:List α} (q:α→Bool) (hN:l.length+1≤N)
 (step:∀ j x,l[j]? =some x→aT env N F 0 2 (S (j:Nat))=bif q x then .ok (.ret,R (j:Nat)) else .ok (.norm,S ((j+1:Nat):Int))) (hend:aT env N F 0 2 (S (l.length:Nat))= .ok (.exit 0,X))
 (hr:∀ i:Int,bK env N F 0 2 (bU env F) .ret (R i)=rI i) (hx:bK env N F 0 2 (bU env F) (.exit 0) X=rI (-1)):eG env N F 2 (S 0)=rI (wH (l.findIdx? q)):=by
 have main:∀ (r p:List α) (n:Nat),l=p++r→r.length < n→(eF (aT env N F 0 2) n (S (p.length:Nat))).bind (fun x=>bK env N F 0 2 (bU env F) x.1 x.2)=rI (wH ((r.findIdx? q).map (· +p.length))):=by
  intro r
  induction r with
  |nil=>
   intro p n hp hn
   obtain⟨n,rfl⟩:=gV (show 1≤n by omega)
   have:p.length=l.length:=by rw[hp]; simp
   rw[this,iH hend]
   simp only[aj.bind_ok]
   exact hx
  |cons x r ih=>
   intro p n hp hn
   obtain⟨n,rfl⟩:=gV (show 1≤n by omega)
   have hs:=step p.length x (by rw[hp]; simp)
   rw[List.findIdx?_cons]
   cases hq:q x with
   |true=>
    rw[hq,cond_true] at hs
    rw[iV hs]
    simp only[aj.bind_ok,hr,if_true,Option.map_some,wH,Nat.zero_add]
   |false=>
    rw[hq,cond_false] at hs
    have:=ih (p++ [x]) n (by rw[hp]; simp) (by simp at hn; omega)
    rw[List.length_append] at this
    rw[bJ hs]
    refine Eq.trans this ?_
    have e:Option.map (fun y=>y+(p.length+ [x].length)) (r.findIdx? q)=Option.map (fun y=>y+p.length) (if false=true then some 0 else Option.map (fun i=>i+1) (r.findIdx? q)):=by
     cases r.findIdx? q with
     |none=>rfl
     |some k=>simp; omega
    rw[e]
 have:=main l [] N rfl (by omega)
 simp only[List.length_nil,Nat.add_zero] at this
 have e:(l.findIdx? q).map (fun x=>x)=l.findIdx? q:=by cases l.findIdx? q<;>rfl
 rw[e] at this
 exact this
theorem IE {N:Nat} {F:FuncId} {α:Type} (f:α→T) {S R:Int→St} {X:St} {g:T} {l:List α} (q:α→Bool) (hN:l.length+1≤N) (hl:l.length≤big)
 (hb:∀ i:Int,aT env N F 0 2 (S i)=bif decide (i < ((l.map f).length:Int)) then dF (l.map f) i fun e=>vg env (aJ env N) g [e] fun r=>bT r fun v=>bif v then aj.ok (Ex.ret,R i) else aj.ok (Ex.norm,S (IntKind.i64.wrap (i+1))) else aj.ok (Ex.exit 0,X))
 (hr:∀ i:Int,bK env N F 0 2 (bU env F) .ret (R i)=rI i) (hx:bK env N F 0 2 (bU env F) (.exit 0) X=rI (-1))
 (hg:∀ x∈l,∀ K:T→aj (Ex×St),vg env (aJ env N) g [f x] K=K (.bool (q x))):eG env N F 2 (S 0)=rI (wH (l.findIdx? q)):=by
 have hln:(l.map f).length=l.length:=by simp
 have step:∀ j x,l[j]? =some x→aT env N F 0 2 (S (j:Nat))=bif q x then .ok (.ret,R (j:Nat)) else .ok (.norm,S ((j+1:Nat):Int)):=fun j x hx=>by
  have hj:j < l.length:=(List.getElem?_eq_some_iff.1 hx).1
  rw[hb,decide_eq_true (by rw[hln]; omega)]
  simp only[cond_true,aF (aI hx)]
  rw[hg x (List.mem_of_getElem? hx)]
  simp only[bT,wrap_succ (show j≤big by omega)]
 have hend:aT env N F 0 2 (S (l.length:Nat))= .ok (.exit 0,X):=by rw[hb,decide_eq_false (by rw[hln]; omega)]; rfl
 exact J7 q hN step hend hr hx
theorem yL (k:Option Nat):decide (wH k≥0)=k.isSome:=by
 cases k with
 |none=>decide
 |some i=>exact decide_eq_true (by simp[wH])
theorem rE {α:Type} (q:α→Bool):∀ l:List α,(l.findIdx? q).isSome=l.any q
 | []=>rfl
 |x::l=>by
  rw[List.findIdx?_cons,List.any_cons]
  cases q x with
  |true=>rfl
  |false=>simp[rE q l]
theorem Hu {M:Nat} {l:List Ru} {g:FuncId} {cs:List T} {q:Ru→Bool} (hM:big+1≤M) (hl:dN Ru.ok l) (hw:T.wfs cs=true) (hm:env.mode g=0) (hq:∀ r∈l,aB env M g (r.t::cs)= .ok (.bool (q r))):
 aB env (M+1) 76 [.sl 6 (l.map Ru.t),.fn g [] cs]= .ok (i64 (wH (l.findIdx? q))):=by
 rw[q76,dA (iY (gq (fun _ h=>Ru.ok.wf h) hl) (Aj hw))]
 exact IE Ru.t (S:=VX l _) q (by have:=hl.1; omega) hl.1 (aeS M l _) (SN M) (MW M) fun x hx K=>(qL hm).trans (aV (hq x hx))
theorem Uj {M:Nat} {l:List Ru} {g:FuncId} {cs:List T} {q:Ru→Bool} (hM:big+1≤M) (hl:dN Ru.ok l) (hw:T.wfs cs=true) (hm:env.mode g=0) (hq:∀ r∈l,aB env M g (r.t::cs)= .ok (.bool (q r))):
 aB env (M+1+1) 64 [.sl 6 (l.map Ru.t),.fn g [] cs]= .ok (.bool (l.any q)):=by
 rw[q64,dA (iY (gq (fun _ h=>Ru.ok.wf h) hl) (Aj hw)),wS (Hu (by omega) hl hw hm hq),yL,rE]
end
section
open Go.RowKit Go.Proofs
structure wB {α:Type} (f:α→T) (q:α→Bool) (l:List α) (L:List T) (i j:Nat):Prop where
 len:L.length=l.length
 le:i≤j
 tk:L.take i=((l.take j).filter fun x=> !q x).map f
 dp:L.drop j=(l.drop j).map f
theorem wB.get {α:Type} {f:α→T} {q:α→Bool} {l:List α} {L:List T} {i j:Nat} (h:wB f q l L i j) {x:α} (hx:l[j]? =some x):L[j]? =some (f x):=by
 have:=congrArg (fun l=>l[0]?) h.dp
 simp only[List.getElem?_drop,List.getElem?_map,Nat.add_zero] at this
 rw[this,hx]; rfl
theorem take_succ' {α:Type} {l:List α} {j:Nat} {x:α} (hx:l[j]? =some x):l.take (j+1)=l.take j++ [x]:=by
 rw[List.take_add_one,hx]; rfl
theorem wB.skip {α:Type} {f:α→T} {q:α→Bool} {l:List α} {L:List T} {i j:Nat} (h:wB f q l L i j) {x:α} (hx:l[j]? =some x) (hq:q x=true):wB f q l L i (j+1):=by
 refine⟨h.len,by have:=h.le; omega,?_,?_⟩
 · rw[h.tk,take_succ' hx,List.filter_append]
   simp[hq]
 · have:=congrArg (List.drop 1) h.dp
   simpa[List.drop_drop,List.map_drop] using this
theorem wB.keep {α:Type} {f:α→T} {q:α→Bool} {l:List α} {L:List T} {i j:Nat} (h:wB f q l L i j) {x:α} (hx:l[j]? =some x) (hq:q x=false):wB f q l (L.set i (f x)) (i+1) (j+1):=by
 have hj:j < l.length:=(List.getElem?_eq_some_iff.1 hx).1
 have hi:i < L.length:=by have:=h.le; rw[h.len]; omega
 refine⟨by simp[h.len],by have:=h.le; omega,?_,?_⟩
 · rw[take_succ' (show(L.set i (f x))[i]? =some (f x) from by rw[List.getElem?_set_self hi]),List.take_set_of_le (Nat.le_refl i),h.tk,take_succ' hx,List.filter_append]
   simp[hq]
 · rw[List.drop_set_of_lt (by have:=h.le; omega)]
   have:=congrArg (List.drop 1) h.dp
   simpa[List.drop_drop,List.map_drop] using this
theorem Iu {α:Type} (q:α→Bool):∀ {l:List α} {k:Nat},l.findIdx? q=some k→(l.take k).filter (fun x=> !q x)=l.take k∧∃ x,l[k]? =some x∧q x=true
 | [],k,h=>by simp at h
 |x::l,k,h=>by
  rw[List.findIdx?_cons] at h
  cases hq:q x with
  |true=>
   rw[hq,if_pos rfl] at h
   injection h with h
   subst h
   exact⟨rfl,x,rfl,hq⟩
  |false=>
   rw[hq,if_neg (by simp)] at h
   rw[Option.map_eq_some_iff] at h
   obtain⟨k,h,rfl⟩:=h
   obtain⟨a,y,b,c⟩:=Iu q h
   exact⟨by simp[hq,a],y,by simpa using b,c⟩
theorem QY {α:Type} (q:α→Bool) {l:List α} (h:l.findIdx? q=none):l.filter (fun x=> !q x)=l:=by
 rw[List.filter_eq_self]
 intro x hx
 have:=List.findIdx?_eq_none_iff.1 h x hx
 simp[this]
variable [Lv]
theorem UU {M:Nat} {l:List Ru} {c:Int} (hM:big+2≤M) (hl:dN Ru.ok l) (hc:aS c=true) (h:l.findIdx? (eX c)=none):zB env (M+1) (NY (l.map Ru.t) c (.own 1) (l.map Ru.t)):=by
 intro β K
 show kL env (aJ env M) M _ _ _ K=_
 obtain⟨m,rfl⟩:=gV (show 1≤M by omega)
 refine(k79 (m+1) (l.map Ru.t) _ _ K).trans ?_
 rw[aV (Hu (q:=eX c) (by omega) hl (jD (mP (bC hc))) rfl fun r hr=>by obtain⟨m,rfl⟩:=gV (show 1≤m by omega); exact NG (hl.2 r hr) hc),h]
 rfl
theorem UW {M:Nat} {l:List Ru} {c:Int} {k:Nat} (hM:big+2≤M) (hl:dN Ru.ok l) (hc:aS c=true) (h:l.findIdx? (eX c)=some k):
 ∃ n ys,ys.take n=(l.filter fun r=> !eX c r).map Ru.t∧n≤ys.length∧zB env (M+1) (NY (l.map Ru.t) c (.view 1 6 0 n) ys):=by
 obtain⟨m,rfl⟩:=gV (show 1≤M by omega)
 obtain⟨hk1,x0,hx0,hq0⟩:=Iu _ h
 have hk:k < l.length:=(List.getElem?_eq_some_iff.1 hx0).1
 have hp:∀ r∈l,∀ K:T→aj (Ex×St),vg env (aJ env (m+1)) (.fn 81 [] [.ref (i64 c)]) [r.t] K=K (.bool (eX c r)):=fun r hr K=>(qL rfl).trans (aV (NG (hl.2 r hr) hc))
 have start:wB Ru.t (eX c) l (l.map Ru.t) k (k+1):=by
  have:wB Ru.t (eX c) l (l.map Ru.t) k k:=⟨by simp,Nat.le_refl _,by rw[hk1,List.map_take],by rw[List.map_drop]⟩
  exact this.skip hx0 hq0
 have step:∀ (L:List T) (i j:Nat),wB Ru.t (eX c) l L i j→j < l.length→∃ L' i',um env (aJ env (m+1)) (m+1) 79 2 5 (Oa L (.fn 81 [] [.ref (i64 c)]) (i64 c) i j)= .ok (.norm,Oa L' (.fn 81 [] [.ref (i64 c)]) (i64 c) (i':Nat) ((j+1:Nat):Int))∧wB Ru.t (eX c) l L' i' (j+1):=by
  intro L i j I hj
  have hx:l[j]? =some l[j]:=List.getElem?_eq_getElem hj
  have hL:=I.get hx
  have hjL:j < L.length:=by rw[I.len]; exact hj
  have hle:=I.le
  have hb:=hl.1
  have hget:L.getD j T.dh=l[j].t:=by rw[List.getD_eq_getElem?_getD,hL]; rfl
  rw[Uu,decide_eq_true (show(j:Int) < (L.length:Int) by omega),decide_eq_true (show(0:Int)≤(j:Int) by omega),decide_eq_true (show(0:Int)≤(i:Int) by omega),decide_eq_true (show(i:Int) < (L.length:Int) by omega)]
  simp only[Int.toNat_natCast,hget,cond_true,Bool.and_self,chk]
  rw[hp _ (List.getElem_mem _)]
  cases hq:eX c l[j] with
  |true=>exact⟨L,i,by simp only[bT,Bool.not_true,cond_false,wrap_succ (show j≤big by omega)]; rfl,I.skip hx hq⟩
  |false=>exact⟨_,i+1,by simp only[bT,Bool.not_false,cond_true,wrap_succ (show j≤big by omega),wrap_succ (show i≤big by omega)]; rfl,I.keep hx hq⟩
 have loop:∀ (d:Nat) (L:List T) (i j n:Nat),wB Ru.t (eX c) l L i j→j+d=l.length→d < n→∃ L' i',eF (um env (aJ env (m+1)) (m+1) 79 2 5) n (Oa L (.fn 81 [] [.ref (i64 c)]) (i64 c) i j)= .ok (.exit 0,⟨slots 42 [(0,.own 1),(5,.t (i64 (i':Nat)))],[.kK 3 1 (i64 c),.row 72 6 L']⟩)∧wB Ru.t (eX c) l L' i' l.length:=by
  intro d
  induction d with
  |zero=>
   intro L i j n I hj hn
   obtain⟨n,rfl⟩:=gV (show 1≤n by omega)
   obtain rfl:j=l.length:=by omega
   exact⟨L,i,iH (by rw[Uu,decide_eq_false (by rw[I.len]; omega)]; rfl),I⟩
  |succ d ih=>
   intro L i j n I hj hn
   obtain⟨n,rfl⟩:=gV (show 1≤n by omega)
   obtain⟨L',i',e,I'⟩:=step L i j I (by omega)
   obtain⟨L2,i2,e2,I2⟩:=ih L' i' (j+1) n I' (by omega) (by omega)
   exact⟨L2,i2,by rw[bJ e]; exact e2,I2⟩
 have hb:=hl.1
 obtain⟨L',i',e,I'⟩:=loop (l.length - (k+1)) _ _ _ (m+1) start (by omega) (by omega)
 have htk:=I'.tk
 rw[List.take_of_length_le (Nat.le_refl _)] at htk
 have hle:=I'.le
 have hlen:=I'.len
 refine⟨i',gJ L' i' (List.replicate (L'.length - i') (.agg [i64 0,i64 0,i64 0,i64 0,i64 0,i64 0])),?_,?_,fun β K=>?_⟩
 · rw[←htk,gJ,List.append_assoc,List.take_append_of_le_length (by simp; omega),List.take_take,Nat.min_self]
 · simp[gJ]; omega
 · show kL env (aJ env (m+1)) (m+1) _ _ _ K=_
   refine(k79 (m+1) (l.map Ru.t) _ _ K).trans ?_
   rw[aV (Hu (q:=eX c) (by omega) hl (jD (mP (bC hc))) rfl fun r hr=>by obtain⟨m,rfl⟩:=gV (show 1≤m by omega); exact NG (hl.2 r hr) hc),h]
   have e1:((k:Int)== -1)=false:=beq_eq_false_iff_ne.2 (by omega)
   simp only[wH,T.plain,T.scalar,chk,cond_true,bM,e1,cond_false,wrap_succ (show k≤big by omega)]
   refine(AX (K:=K) e).trans ?_
   rw[Jb]
   simp only[Int.toNat_natCast,Nat.zero_add]
   have hsl:(gJ L' i' (List.replicate (L'.length - i') (T.agg [i64 0,i64 0,i64 0,i64 0,i64 0,i64 0]))).length=L'.length:=by simp[gJ]; omega
   rw[decide_eq_true (show(0:Int)≤(i':Int) by omega),decide_eq_true (show(i':Int)≤(L'.length:Int) by omega),decide_eq_true (show i'≤L'.length by omega),decide_eq_true (Nat.le_refl L'.length),hsl,decide_eq_true (show(i':Int)≤(L'.length:Int) by omega)]
   rfl
theorem JW {M:Nat} {l:List Ru} (hl:dN Ru.ok l) (hb:l.length*48≤big):aB env (M+1) 80 [.sl 6 (l.map Ru.t)]= .ok (.sl 6 (l.map Ru.t)):=by
 have e:aB env (M+1) 80 [.sl 6 (l.map Ru.t)]=W [.sl 6 (l.map Ru.t)] (wV 6 48 [.sl 6 (l.map Ru.t)]):=by kernel_rfl
 rw[e,dA (jD (gq (fun _ h=>Ru.ok.wf h) hl))]
 simp only[wV,List.length_map,decide_eq_true hb]
 rfl
theorem D6 {α:Type} {p:α→Prop} {l:List α} (h:dN p l) (n:Nat):dN p (l.take n):=⟨by have:=h.1; simp; omega,fun x hx=>h.2 x (List.mem_of_mem_take hx)⟩
theorem O0 {α:Type} {p:α→Prop} {l:List α} (h:dN p l) (q:α→Bool):dN p (l.filter q):=⟨Nat.le_trans (List.length_filter_le _ _) h.1,fun x hx=>h.2 x (List.mem_filter.1 hx).1⟩
theorem ND {M:Nat} {l:List Ru} {c:Int} (hM:big+4≤M) (hl:dN Ru.ok l) (hb:l.length*48≤big) (hc:aS c=true):aB env (M+1) 65 [.sl 6 (l.map Ru.t),i64 c]= .ok (.sl 6 ((bI l c).map Ru.t)):=by
 obtain⟨m,rfl⟩:=gV (show 1≤M by omega)
 have hw:T.wfs [.sl 6 (l.map Ru.t),i64 c]=true:=iY (gq (fun _ h=>Ru.ok.wf h) hl) (bC hc)
 have hidx:=Hu (M:=m) (g:=77) (q:=kT c) (by omega) hl (jD (mP (bC hc))) rfl fun r hr=>by obtain⟨m,rfl⟩:=gV (show 1≤m by omega); exact acI (hl.2 r hr) hc (by omega)
 obtain⟨l',hl',ho',hb',hcl⟩:∃ l':List Ru,bI l c=l'.filter (fun r=> !eX c r)∧dN Ru.ok l'∧l'.length*48≤big∧∀ (ps:List Pin) (R:List T→aj T),
  (cl (m+1) 76 [T.sl 6 (l.map Ru.t),T.fn 77 [] [(i64 c).ref]] fun x=>iT IntKind.i64 x fun a=>bif decide (a≥0) then iT IntKind.i64 x fun a=>chk (decide (0≤IntKind.i64.wrap (a+1))&&decide (IntKind.i64.wrap (a+1)≤(↑(l.map Ru.t).length:Int))) (cl (m+1) 80 [T.sl 6 (List.drop 0 (List.take (IntKind.i64.wrap (a+1)).toNat (l.map Ru.t)))] fun x=>nD 6 x R) else cl (m+1) 80 [T.sl 6 (l.map Ru.t)] fun x=>nD 6 x R)=R (l'.map Ru.t):=by
  cases hk:l.findIdx? (kT c) with
  |none=>
   refine⟨l,by rw[bI,hk],hl,hb,fun _ R=>?_⟩
   rw[aV hidx,hk]
   simp only[bM,wH]
   rw[show decide ((-1:Int)≥0)=false from rfl,cond_false,aV (JW hl hb)]
   simp only[nD,if_true]
  |some k=>
   have hlt:k < l.length:=(List.findIdx?_eq_some_iff_getElem.1 hk).1
   have h1:=hl.1
   refine⟨l.take (k+1),by rw[bI,hk],D6 hl _,by simp; omega,fun _ R=>?_⟩
   rw[aV hidx,hk]
   simp only[bM,wH,wrap_succ (show k≤big by omega)]
   rw[decide_eq_true (show(k:Int)≥0 by omega),decide_eq_true (show(0:Int)≤((k+1:Nat):Int) by omega),decide_eq_true (show((k+1:Nat):Int)≤(↑(l.map Ru.t).length:Int) by simp; omega)]
   simp only[cond_true,Bool.and_self,chk,List.drop_zero,Int.toNat_natCast,←List.map_take]
   rw[aV (JW (D6 hl _) (by simp; omega))]
   simp only[nD,if_true]
 rw[hl']
 cases hk:l'.findIdx? (eX c) with
 |none=>
  have hp:=UU (M:=m) (by omega) ho' hc hk
  refine su (ps:=[NY (l'.map Ru.t) c (.own 1) (l'.map Ru.t)]) ⟨hp,trivial⟩ hw rfl ?_
  refine(ahC (m+1) (l.map Ru.t) _ _ c).trans ?_
  rw[hcl [],GY,QY _ hk]
 |some k=>
  obtain⟨n,ys,h1,h2,hp⟩:=UW (M:=m) (by omega) ho' hc hk
  refine su (ps:=[NY (l'.map Ru.t) c (.view 1 6 0 n) ys]) ⟨hp,trivial⟩ hw rfl ?_
  refine(ac7 (m+1) (l.map Ru.t) _ _ c n).trans ?_
  rw[hcl [],GY,decide_eq_true h2,cond_true,h1]
end
section
open Go.RowKit Go.Proofs
section
variable {β:Type} {l:List Nat} {k:T} {es:List (T×T×Nat)} {Kn:aj β} {K:Nat→T→Nat→aj β}
theorem wG (h:iK l k es 0=some none):eY l k es Kn K=Kn:=by rw[eY,h]
theorem lZ {i b:Nat} {v:T} (h:iK l k es 0=some (some (i,v,b))):eY l k es Kn K=K i v b:=by rw[eY,h]
end
def fU (ks:List T):List (T×T×Nat):=ks.zipIdx.map fun p=>(p.1,i64 1,p.2)
theorem mg (ks:List T):(fU ks).length=ks.length:=by simp[fU]
theorem wL {ks:List T} {i:Nat} (h:i < ks.length):(fU ks)[i]? =some (ks[i],i64 1,i):=by simp[fU,h]
theorem yx (ks:List T) (k:T):fU (ks++ [k])=fU ks++ [(k,i64 1,ks.length)]:=by simp[fU,List.zipIdx_append]
theorem DW {l:List Nat} {k:T}:∀ {es:List (T×T×Nat)} {j:Nat},(∀ e∈es,T.fA l (k.flat l) (e.1.flat l)=some false)→iK l k es j=some none
 | [],_,_=>rfl
 |e::es,j,h=>by
  unfold iK
  rw[h e List.mem_cons_self]
  exact DW fun e he=>h e (List.mem_cons_of_mem _ he)
theorem AP {l:List Nat} {k:T}:∀ {es:List (T×T×Nat)} {j:Nat},(∀ e∈es,∃ b,T.fA l (k.flat l) (e.1.flat l)=some b)→(∃ e∈es,T.fA l (k.flat l) (e.1.flat l)=some true)→
 ∃ i e,es[i]? =some e∧T.fA l (k.flat l) (e.1.flat l)=some true∧iK l k es j=some (some (j+i,e.2.1,e.2.2))∧∀ (x:T) (b:Nat),iK l k (es.set i (e.1,x,b)) j=some (some (j+i,x,b))
 | [],j,_,h=>by obtain⟨e,he,_⟩:=h; cases he
 |e::es,j,h1,h=>by
  obtain⟨b,hb⟩:=h1 e List.mem_cons_self
  cases b with
  |true=>
   refine⟨0,e,rfl,hb,by unfold iK; rw[hb]; rfl,fun x b=>?_⟩
   rw[List.set_cons_zero]
   unfold iK
   simp only[hb]
   rfl
  |false=>
   obtain⟨i,e',h2,h2',h3,h4⟩:=AP (l:=l) (k:=k) (es:=es) (j:=j+1) (fun e he=>h1 e (List.mem_cons_of_mem _ he)) (by
    obtain⟨e',he',ht⟩:=h
    rcases List.mem_cons.1 he' with rfl|he'
    · rw[hb] at ht; cases ht
    · exact⟨e',he',ht⟩)
   refine⟨i+1,e',by simpa using h2,h2',?_,fun x b=>?_⟩
   · unfold iK; simp only[hb]; rw[h3,show j+1+i=j+(i+1) by omega]
   · rw[List.set_cons_succ]; unfold iK; simp only[hb]; rw[h4,show j+1+i=j+(i+1) by omega]
theorem LP {es:List (T×T×Nat)} {k x:T} (h:∀ e∈es,e.2.2 < es.length):mM (es++ [(k,x,es.length)]) (es.length:Int)=some es.length:=by
 unfold mM
 rw[List.findIdx?_append]
 have:es.findIdx? (fun e=>(e.2.2:Int)==(es.length:Int))=none:=by
  rw[List.findIdx?_eq_none_iff]
  intro e he
  have:=h e he
  rw[beq_eq_false_iff_ne]; omega
 rw[this]
 simp
theorem LM {ks:List T} {i:Nat} (h:i < ks.length):mM (fU ks) (i:Int)=some i:=by
 unfold mM
 rw[List.findIdx?_eq_some_iff_getElem]
 refine⟨by rw[mg]; exact h,by simp[fU],fun j hj=>?_⟩
 simp[fU]
 omega
theorem Vm {ks:List T}:∀ e∈fU ks,e.2.2 < (fU ks).length:=fun e he=>by
 obtain⟨i,hi,rfl⟩:=List.getElem_of_mem he
 rw[mg] at hi ⊢
 simp[fU]; exact hi
theorem Xc (x:Px):jg [0,0] x.t=true:=rfl
theorem U7 (n:Int):jg [0] (i64 n)=true:=rfl
theorem Hg (x y:Px):T.fA [0,0] (x.t.flat [0,0]) (y.t.flat [0,0])=some (decide (x=y)):=by
 have:T.fA [0,0] (x.t.flat [0,0]) (y.t.flat [0,0])=some ((x.a==y.a)&&((x.n==y.n)&&true)):=rfl
 rw[this]
 congr 1
 rw[Bool.eq_iff_iff]
 cases x; cases y
 simp
theorem yJ (x y:Int):T.fA [0] ((i64 x).flat [0]) ((i64 y).flat [0])=some (decide (x=y)):=by
 have:T.fA [0] ((i64 x).flat [0]) ((i64 y).flat [0])=some ((x==y)&&true):=rfl
 rw[this]
 congr 1
 rw[Bool.eq_iff_iff]
 simp
theorem PO:(140737488355328:Nat)=big:=rfl
variable [Lv]
theorem Nz {M:Nat} {n:Int} (h:aS n=true):aB env (M+1) 46 [i64 n]= .ok (.bool (nX n)):=by
 rw[q46,dA (jD (bC h)),jV]; rfl
theorem acj {M:Nat} {n:Int} (h:aS n=true):aB env (M+1) 47 [i64 n]= .ok (.bool (holdB n)):=by
 rw[q47,dA (jD (bC h)),jV,TJ]; rfl
theorem Ui {M:Nat} {l:List Ru} {b:Bool} (hM:big+10≤M) (hl:dN Ru.ok l):aB env (M+1) 61 [.sl 6 (l.map Ru.t),.bool b]= .ok (.bool (qU l b)):=by
 obtain⟨m,rfl⟩:=gV (show 1≤M by omega)
 obtain⟨m,rfl⟩:=gV (show 1≤m by omega)
 rw[q61,dA (iY (gq (fun _ h=>Ru.ok.wf h) hl) (vU b)),dM (Uj (q:=fun r=> !oZ r b) (by omega) hl (jD (mP (vU b))) rfl fun r hr=>by
  obtain⟨m,rfl⟩:=gV (show 1≤m by omega)
  obtain⟨m,rfl⟩:=gV (show 1≤m by omega)
  rw[q74,dA (iY (hl.2 r hr).wf (mP (vU b))),dM (acH (hl.2 r hr) (by omega))]),jV,List.length_map]
 rfl
theorem acn {M:Nat} {s:Sd} (hM:big+11≤M) (h:s.ok):aB env (M+1) 48 [s.t]= .ok (.bool (nP s)):=by
 obtain⟨m,rfl⟩:=gV (show 1≤M by omega)
 rw[q48,dA (jD h.wf),dM (Nz h.a),dM (Ui (by omega) h.i),aV (Ui (by omega) h.o)]
 simp only[jV]
 rfl
theorem adb {M:Nat} {c:Cf} (hc:c.ok) (h2:c.w.length≤8) {i:Nat} {x:Px} (hx:c.w[i]? =some x) (hM:2≤M):
 aT env M 23 0 5 (xJ c (fU ((c.w.take i).map Px.t)) i (i:Int))=if (c.w.take i).contains x=true∨jo x=false then .ok (.ret,⟨slots 98 [(2,.t (.bool false))],[]⟩)
  else .ok (.norm,xJ c (fU ((c.w.take (i+1)).map Px.t)) (i+1) ((i+1:Nat):Int)):=by
 obtain⟨m,rfl⟩:=gV (show 1≤M by omega)
 have hi:i < c.w.length:=(List.getElem?_eq_some_iff.1 hx).1
 have hlen:((c.w.take i).map Px.t).length=i:=by simp; omega
 have hps:=Dp (M:=m) (hc.w.2 x (List.mem_of_getElem? hx)) (by omega)
 have hes:(fU ((c.w.take i).map Px.t)).length=i:=by rw[mg,hlen]
 have hb:i≤140737488355328:=by omega
 rw[aaD,decide_eq_true (show(i:Int) < ((c.w.map Px.t).length:Int) by simp; omega)]
 simp only[cond_true,aF (aI hx),Xc]
 have hch:∀ {β:Type} (r:aj β),chk (x.t.cells.length==2&& !x.t.dS) r=r:=fun r=>rfl
 have hct:∀ {β:Type} (r:aj β),chk true r=r:=fun r=>rfl
 rw[hch,hct]
 have hall:∀ e∈fU ((c.w.take i).map Px.t),∃ y,y∈c.w.take i∧e.1=y.t:=fun e he=>by
  obtain⟨j,hj,rfl⟩:=List.getElem_of_mem he
  rw[mg,hlen] at hj
  exact⟨(c.w.take i)[j]'(by simp; omega),List.getElem_mem _,by simp[fU]⟩
 by_cases hcon:(c.w.take i).contains x=true
 · rw[if_pos (.inl hcon)]
   obtain⟨j,e,g1,g0,g2,g3⟩:=AP (l:=[0,0]) (k:=x.t) (es:=fU ((c.w.take i).map Px.t)) (j:=0) (fun e he=>by obtain⟨y,_,hy⟩:=hall e he; rw[hy]; exact⟨_,Hg x y⟩) (by
    have hm:x∈c.w.take i:=List.contains_iff_mem.1 hcon
    obtain⟨j,hj,e⟩:=List.getElem_of_mem hm
    refine⟨_,List.mem_of_getElem? (wL (ks:=(c.w.take i).map Px.t) (i:=j) (by simp at hj ⊢; omega)),?_⟩
    simp only[List.getElem_map,e]
    rw[Hg]; simp)
   have hj:j < ((c.w.take i).map Px.t).length:=by rw[←mg]; exact(List.getElem?_eq_some_iff.1 g1).1
   have he:=wL hj
   rw[g1] at he
   injection he with he
   subst he
   simp only[Nat.zero_add] at g2 g3
   rw[lZ g2]
   simp only[bM,hct]
   rw[lZ g2,decide_eq_true (show j≤140737488355328 by omega),hct,LM hj]
   simp only[aK,g1,hct]
   rw[lZ (g3 _ _)]
   rfl
 · have hno:=DW (l:=[0,0]) (k:=x.t) (es:=fU ((c.w.take i).map Px.t)) (j:=0) (fun e he=>by
    obtain⟨y,hy,e1⟩:=hall e he
    rw[e1,Hg,decide_eq_false]
    rintro rfl
    exact hcon (List.contains_iff_mem.2 hy))
   have hpu:∀ v,iK [0,0] x.t (fU ((c.w.take i).map Px.t)++ [(x.t,v,i)]) 0=some (some (i,v,i)):=fun v=>by
    have:=tK (x:=v) (c:=i) (show T.fA [0,0] (x.t.flat [0,0]) (x.t.flat [0,0])=some true by rw[Hg]; simp) hno
    rw[this,hes,Nat.zero_add]
   have hst:mM (fU ((c.w.take i).map Px.t)++ [(x.t,i64 0,i)]) (i:Int)=some i:=by
    have:=LP (k:=x.t) (x:=i64 0) (Vm (ks:=(c.w.take i).map Px.t))
    rw[hes] at this; exact this
   have hgt:(fU ((c.w.take i).map Px.t)++ [(x.t,i64 0,i)])[i]? =some (x.t,i64 0,i):=by
    rw[List.getElem?_append_right (by omega),hes]; simp
   have hset:(fU ((c.w.take i).map Px.t)++ [(x.t,i64 0,i)]).set i (x.t,i64 1,i)=fU ((c.w.take (i+1)).map Px.t):=by
    rw[take_succ' hx,List.map_append,List.map_cons,List.map_nil,yx,hlen,List.set_append_right _ _ (by omega),hes]; simp
   have hfi:iK [0,0] x.t (fU ((c.w.take (i+1)).map Px.t)) 0=some (some (i,i64 1,i)):=by
    rw[take_succ' hx,List.map_append,List.map_cons,List.map_nil,yx,hlen]; exact hpu _
   rw[wG hno,hct,wG hno,decide_eq_true hb,hct,hst]
   simp only[aK,hgt,hset,hct]
   rw[lZ hfi]
   simp only[bM]
   rw[show decide ((1:Int) > 1)=false from rfl,cond_false,dM hps,wrap_succ (by rw[←PO]; exact hb)]
   cases hq:jo x with
   |true=>rw[if_neg (fun h=>h.elim hcon fun h=>by cases h)]; rfl
   |false=>rw[if_pos (.inr rfl)]; rfl
theorem aao {M:Nat} {c:Cf} (hc:c.ok) (h2:c.s.length≤8) {i:Nat} {x:Sd} (hx:c.s[i]? =some x) (hM:big+13≤M):
 aT env M 23 0 13 (o7 c (fU ((c.a::(c.s.take i).map Sd.a).map i64)) (i+1) (i:Int))=if (c.a::(c.s.take i).map Sd.a).contains x.a=true∨nP x=false then .ok (.ret,⟨slots 98 [(2,.t (.bool false))],[]⟩)
  else .ok (.norm,o7 c (fU ((c.a::(c.s.take (i+1)).map Sd.a).map i64)) (i+1+1) ((i+1:Nat):Int)):=by
 obtain⟨m,rfl⟩:=gV (show 1≤M by omega)
 have hi:i < c.s.length:=(List.getElem?_eq_some_iff.1 hx).1
 have hlen:((c.a::(c.s.take i).map Sd.a).map i64).length=i+1:=by simp; omega
 have hps:=acn (M:=m) (s:=x) (by omega) (hc.s.2 x (List.mem_of_getElem? hx))
 have hes:(fU ((c.a::(c.s.take i).map Sd.a).map i64)).length=i+1:=by rw[mg,hlen]
 have hnext:(c.a::(c.s.take (i+1)).map Sd.a).map i64=(c.a::(c.s.take i).map Sd.a).map i64++ [i64 x.a]:=by rw[take_succ' hx]; simp
 have hk:x.t.ah 0 1 false=i64 x.a:=rfl
 rw[TT,decide_eq_true (show(i:Int) < ((c.s.map Sd.t).length:Int) by simp; omega)]
 simp only[cond_true,aF (aI hx),hk,U7]
 have hch:∀ {β:Type} (r:aj β),chk (x.t.cells.length==4&& !x.t.dS) r=r:=fun r=>rfl
 have hct:∀ {β:Type} (r:aj β),chk true r=r:=fun r=>rfl
 rw[hch,hct]
 have hall:∀ e∈fU ((c.a::(c.s.take i).map Sd.a).map i64),∃ y,y∈c.a::(c.s.take i).map Sd.a∧e.1=i64 y:=fun e he=>by
  obtain⟨j,hj,rfl⟩:=List.getElem_of_mem he
  rw[mg,hlen] at hj
  exact⟨(c.a::(c.s.take i).map Sd.a)[j]'(by simp; omega),List.getElem_mem _,by simp only[fU,List.getElem_map,List.getElem_zipIdx]⟩
 by_cases hcon:(c.a::(c.s.take i).map Sd.a).contains x.a=true
 · rw[if_pos (.inl hcon)]
   obtain⟨j,e,g1,g0,g2,g3⟩:=AP (l:=[0]) (k:=i64 x.a) (es:=fU ((c.a::(c.s.take i).map Sd.a).map i64)) (j:=0) (fun e he=>by obtain⟨y,_,hy⟩:=hall e he; rw[hy]; exact⟨_,yJ x.a y⟩) (by
    have hm:x.a∈c.a::(c.s.take i).map Sd.a:=List.contains_iff_mem.1 hcon
    obtain⟨j,hj,e⟩:=List.getElem_of_mem hm
    refine⟨_,List.mem_of_getElem? (wL (ks:=(c.a::(c.s.take i).map Sd.a).map i64) (i:=j) (by simp at hj ⊢; omega)),?_⟩
    simp only[List.getElem_map,e]
    rw[yJ]; simp)
   have hj:j < ((c.a::(c.s.take i).map Sd.a).map i64).length:=by rw[←mg]; exact(List.getElem?_eq_some_iff.1 g1).1
   have he:=wL hj
   rw[g1] at he
   injection he with he
   subst he
   simp only[Nat.zero_add] at g2 g3
   rw[lZ g2]
   simp only[bM,hct]
   rw[lZ g2]
   have hky:((c.a::(c.s.take i).map Sd.a).map i64)[j]=i64 x.a:=by
    obtain⟨y,hy,e2⟩:=hall _ (List.mem_of_getElem? g1)
    simp only at e2 g0
    rw[e2,yJ] at g0
    rw[e2]
    injection g0 with g0
    rw[of_decide_eq_true g0]
   rw[hky] at g3
   rw[lZ (g3 _ _)]
   rfl
 · have hno:=DW (l:=[0]) (k:=i64 x.a) (es:=fU ((c.a::(c.s.take i).map Sd.a).map i64)) (j:=0) (fun e he=>by
    obtain⟨y,hy,e1⟩:=hall e he
    rw[e1,yJ,decide_eq_false]
    rintro rfl
    exact hcon (List.contains_iff_mem.2 hy))
   have hpu:iK [0] (i64 x.a) (fU ((c.a::(c.s.take i).map Sd.a).map i64)++ [(i64 x.a,i64 1,i+1)]) 0=some (some (i+1,i64 1,i+1)):=by
    have:=tK (x:=i64 1) (c:=i+1) (show T.fA [0] ((i64 x.a).flat [0]) ((i64 x.a).flat [0])=some true by rw[yJ]; simp) hno
    rw[this,hes,Nat.zero_add]
   have hset:fU ((c.a::(c.s.take i).map Sd.a).map i64)++ [(i64 x.a,i64 1,i+1)]=fU ((c.a::(c.s.take (i+1)).map Sd.a).map i64):=by
    rw[hnext,yx,hlen]
   rw[wG hno,hct,wG hno,hct,lZ hpu]
   simp only[bM]
   rw[show decide ((1:Int) > 1)=false from rfl,cond_false,dM hps,wrap_succ (by rw[←PO]; omega),hset]
   cases hq:nP x with
   |true=>rw[if_neg (fun h=>h.elim hcon fun h=>by cases h)]; rfl
   |false=>rw[if_pos (.inr rfl)]; rfl
end
section
open Go.RowKit Go.Proofs
variable [Lv]
theorem yh {α κ:Type} [DecidableEq κ] {kf:α→κ} {q:α→Bool} {l:List α} {s0:List κ} {B:St→aj (Ex×St)} {S:Nat→St} {X R:St} {e:Nat}
 (h1:∀ i x,l[i]? =some x→B (S i)=if (s0++(l.take i).map kf).contains (kf x)=true∨q x=false then .ok (.ret,R) else .ok (.norm,S (i+1))) (h2:B (S l.length)= .ok (.exit e,X)):
 ∀ (d i n:Nat),i+d=l.length→d < n→eF B n (S i)=bif jl kf q (s0++(l.take i).map kf) (l.drop i) then .ok (.exit e,X) else .ok (.ret,R)
 |0,i,n,hi,hn=>by
  obtain⟨n,rfl⟩:=gV (show 1≤n by omega)
  obtain rfl:i=l.length:=by omega
  rw[iH h2,List.drop_length]; rfl
 |d+1,i,n,hi,hn=>by
  obtain⟨n,rfl⟩:=gV (show 1≤n by omega)
  have hlt:i < l.length:=by omega
  have hx:l[i]? =some l[i]:=List.getElem?_eq_getElem hlt
  have hb:=h1 i _ hx
  have ih:=yh h1 h2 d (i+1) n (by omega) (by omega)
  rw[take_succ' hx,List.map_append,←List.append_assoc,List.map_cons,List.map_nil] at ih
  rw[List.drop_eq_getElem_cons hlt]
  unfold jl
  by_cases hc:(s0++(l.take i).map kf).contains (kf l[i])=true
  · rw[if_pos (.inl hc)] at hb
    rw[iV hb,hc]; rfl
  · cases hq:q l[i] with
    |false=>
     rw[if_pos (.inr hq)] at hb
     rw[iV hb,Bool.and_comm]
     simp
    |true=>
     rw[if_neg (fun h=>h.elim hc fun h=>by rw[hq] at h; cases h)] at hb
     rw[bJ hb,ih,eq_false_of_ne_true hc]; rfl
theorem Dn {M:Nat} {c:Cf} (hM:big+14≤M) (h:c.ok):aB env (M+1) 23 [c.t]= .ok (.bool (dZ c)):=by
 obtain⟨m,rfl⟩:=gV (show 1≤M by omega)
 rw[q23,dA (jD h.wf),dM (Nz h.a)]
 cases h1:nX c.a with
 |false=>rw[show dZ c=false by simp[dZ,h1]]; rfl
 |true=>
 simp only[Bool.not_true,cond_false]
 rw[dM (Nz h.d)]
 cases h2:nX c.d with
 |false=>rw[show dZ c=false by simp[dZ,h2]]; rfl
 |true=>
 simp only[Bool.not_true,cond_false]
 rw[dM (acj h.h)]
 cases h3:holdB c.h with
 |false=>rw[show dZ c=false by simp[dZ,h3]]; rfl
 |true=>
 simp only[Bool.not_true,cond_false]
 by_cases h4:c.k < 1
 · rw[decide_eq_true h4,show dZ c=false by simp[dZ,show ¬ 1≤c.k by omega]]; rfl
 rw[decide_eq_false h4,cond_false]
 by_cases h5:c.k > 1000
 · rw[decide_eq_true h5,show dZ c=false by simp[dZ,show ¬ c.k≤1000 by omega]]; rfl
 rw[decide_eq_false h5,cond_false]
 by_cases h6:c.w.length≤8
 case neg=>rw[decide_eq_true (by rw[List.length_map]; omega),show dZ c=false by simp[dZ,h6]]; rfl
 rw[decide_eq_false (by rw[List.length_map]; omega),cond_false]
 by_cases h7:c.s.length≤8
 case neg=>rw[decide_eq_true (by rw[List.length_map]; omega),show dZ c=false by simp[dZ,h7]]; rfl
 rw[decide_eq_false (by rw[List.length_map]; omega),cond_false]
 have hs:dZ c=(jl id jo [] c.w&&jl Sd.a nP [c.a] c.s):=by
  simp[dZ,h1,h2,h3,h6,h7,show 1≤c.k by omega,show c.k≤1000 by omega]
 have l5:=yh (kf:=id) (q:=jo) (l:=c.w) (s0:=[]) (B:=aT env (m+1) 23 0 5) (S:=fun i=>xJ c (fU ((c.w.take i).map Px.t)) i (i:Int))
  (X:=⟨slots 98 [(1,.ptr 0 0)],[.box 45 6 (.t c.t)]⟩) (R:=⟨slots 98 [(2,.t (.bool false))],[]⟩) (e:=0)
  (fun i x hx=>by rw[List.map_id,List.nil_append]; exact adb h h6 hx (by omega))
  (by rw[aaD,decide_eq_false (by rw[List.length_map]; omega)]; rfl) c.w.length 0 (m+1) (by omega) (by omega)
 have l13:=yh (kf:=Sd.a) (q:=nP) (l:=c.s) (s0:=[c.a]) (B:=aT env (m+1) 23 0 13) (S:=fun i=>o7 c (fU ((c.a::(c.s.take i).map Sd.a).map i64)) (i+1) (i:Int))
  (X:=⟨slots 98 [],[]⟩) (R:=⟨slots 98 [(2,.t (.bool false))],[]⟩) (e:=2)
  (fun i x hx=>aao h h7 hx (by omega))
  (by rw[TT,decide_eq_false (by rw[List.length_map]; omega)]; rfl) c.s.length 0 (m+1) (by omega) (by omega)
 simp only[List.take_zero,List.drop_zero,List.map_nil,List.append_nil] at l5 l13
 rw[hs]
 cases h8:jl id jo [] c.w with
 |false=>
  rw[h8] at l5
  refine(aN l5).trans ?_
  rw[Sl]; rfl
 |true=>
 rw[h8] at l5
 refine(aN l5).trans ?_
 rw[LZ]
 refine Eq.trans (show _=eG env (m+1) 23 13 (o7 c [(i64 c.a,i64 1,0)] 1 0) from rfl) ?_
 cases h9:jl Sd.a nP [c.a] c.s with
 |false=>
  rw[h9] at l13
  refine(aN l13).trans ?_
  rw[Pj]; rfl
 |true=>
  rw[h9] at l13
  refine(aN l13).trans ?_
  rw[Ju]; rfl
theorem yZ {α:Type} {q:α→Bool} {l:List α} {B:St→aj (Ex×St)} {S:Nat→St} {X R:St} {e:Nat}
 (h1:∀ i x,l[i]? =some x→B (S i)=bif q x then .ok (.norm,S (i+1)) else .ok (.ret,R)) (h2:B (S l.length)= .ok (.exit e,X)):
 ∀ (d i n:Nat),i+d=l.length→d < n→eF B n (S i)=bif (l.drop i).all q then .ok (.exit e,X) else .ok (.ret,R)
 |0,i,n,hi,hn=>by
  obtain⟨n,rfl⟩:=gV (show 1≤n by omega)
  obtain rfl:i=l.length:=by omega
  rw[iH h2,List.drop_length]; rfl
 |d+1,i,n,hi,hn=>by
  obtain⟨n,rfl⟩:=gV (show 1≤n by omega)
  have hlt:i < l.length:=by omega
  have hx:l[i]? =some l[i]:=List.getElem?_eq_getElem hlt
  have hb:=h1 i _ hx
  have ih:=yZ h1 h2 d (i+1) n (by omega) (by omega)
  rw[List.drop_eq_getElem_cons hlt,List.all_cons]
  cases hq:q l[i] with
  |false=>rw[hq] at hb; rw[iV hb]; rfl
  |true=>rw[hq] at hb; rw[bJ hb,ih]; rfl
theorem acf {M:Nat} {c:Cf} (hM:big+2≤M) (h:c.ok):aB env (M+1) 26 [c.t]= .ok (.bool (vI c)):=by
 rw[q26,dA (jD h.wf)]
 have hb:=h.s.1
 have l2:=yZ (q:=fun s:Sd=>decide (s.i.length≤20)&&decide (s.o.length≤20)) (l:=c.s) (B:=aT env M 26 0 2) (S:=fun i=>Ob c (i:Int))
  (X:=⟨slots 39 [(1,.ptr 0 0)],[.box 45 6 (.t c.t)]⟩) (R:=⟨slots 39 [(2,.t (.bool false))],[]⟩) (e:=0)
  (fun i x hx=>by
   have hi:i < c.s.length:=(List.getElem?_eq_some_iff.1 hx).1
   have k2:x.t.ah 2 1 false= .sl 6 (x.i.map Ru.t):=rfl
   have k3:x.t.ah 3 1 false= .sl 6 (x.o.map Ru.t):=rfl
   rw[aaF,decide_eq_true (by rw[List.length_map]; omega)]
   simp only[cond_true,aF (aI hx),k2,k3,jF,List.length_map]
   by_cases h1:x.i.length≤20
   · by_cases h2:x.o.length≤20
     · rw[decide_eq_false (show ¬ (x.i.length:Int) > 20 by omega),decide_eq_false (show ¬ (x.o.length:Int) > 20 by omega),decide_eq_true h1,decide_eq_true h2,wrap_succ (show i≤big by omega)]; rfl
     · rw[decide_eq_false (show ¬ (x.i.length:Int) > 20 by omega),decide_eq_true (show(x.o.length:Int) > 20 by omega),decide_eq_true h1,decide_eq_false h2]; rfl
   · rw[decide_eq_true (show(x.i.length:Int) > 20 by omega),decide_eq_false h1]; rfl)
  (by rw[aaF,decide_eq_false (by rw[List.length_map]; omega)]; rfl) c.s.length 0 M (by omega) (by omega)
 rw[List.drop_zero] at l2
 unfold vI
 cases h8:c.s.all fun s=>decide (s.i.length≤20)&&decide (s.o.length≤20) with
 |false=>
  rw[h8] at l2
  refine(aN l2).trans ?_
  rw[Sr]; rfl
 |true=>
  rw[h8] at l2
  refine(aN l2).trans ?_
  rw[L9]
  simp only[List.length_map,Int.ofNat_le,show(20:Int)=((20:Nat):Int) from rfl,Bool.true_and]
  cases decide (c.w.length≤20)<;>rfl
end
section
open Go.RowKit Go.Proofs
theorem bD {β:Type} (r:aj β):chk true r=r:=rfl
theorem Ey {α κ:Type} [DecidableEq κ] {kf:α→κ} {q:α→Bool}:∀ {l:List α} {s:List κ},jl kf q s l=true→∀ x∈l,q x=true
 | [],_,_,x,hx=>by cases hx
 |y::l,s,h,x,hx=>by
  unfold jl at h
  simp only[Bool.and_eq_true] at h
  rcases List.mem_cons.1 hx with rfl|hx
  · exact h.2.1
  · exact Ey h.2.2 x hx
theorem tJ {c:Cf} (h:dZ c=true) {s:Sd} (hs:s∈c.s):nP s=true:=by
 unfold dZ at h
 simp only[Bool.and_eq_true] at h
 exact Ey h.2.2.2.2.2.2.2.2 s hs
end
section
open Go.RowKit Go.Proofs
variable [Lv]
def VY (l:List Sd) (f:T) (i:Int):St:=⟨slots 19 [(0,.t (.sl 4 (l.map Sd.t))),(1,.t f),(7,.t (i64 (l.map Sd.t).length)),(8,.t (i64 i))],[]⟩
theorem q52 (N:Nat) (l:List Sd) (f:T):aB env (N+1) 52 [.sl 4 (l.map Sd.t),f]=W [.sl 4 (l.map Sd.t),f] (eG env N 52 2 (VY l f 0)):=by kernel_rfl
theorem aeR (N:Nat) (l:List Sd) (f:T) (i:Int):aT env N 52 0 2 (VY l f i)=bif decide (i < (↑(List.map Sd.t l).length:Int)) then dF (List.map Sd.t l) i fun e=>vg env (aJ env N) f [e] fun r=>bT r fun v=>bif v then aj.ok (Ex.ret,{tmps:=slots 19 [(4,PV.t (i64 i))],heap:=[]}) else aj.ok (Ex.norm,VY l f (IntKind.i64.wrap (i+1))) else aj.ok (Ex.exit 0,{tmps:=slots 19 [],heap:=[]}):=by kernel_rfl
theorem SC (N:Nat) (i:Int):bK env N 52 0 2 (bU env 52) (.ret) (⟨slots 19 [(4,.t (i64 i))],[]⟩)=rI i:=by kernel_rfl
theorem MI (N:Nat):bK env N 52 0 2 (bU env 52) (.exit 0) (⟨slots 19 [],[]⟩)=rI (-1):=by kernel_rfl
theorem q29 (N:Nat) (c:Cf) (n:Int):aB env (N+1) 29 [c.t,i64 n]=W [c.t,i64 n] (cl N 52 [T.sl 4 (List.map Sd.t c.s),T.fn 53 [] [(i64 n).ref]] fun x=>iT IntKind.i64 x fun n=>iT IntKind.i64 x fun a=>aj.ok (T.ak [i64 (dP true [0] n),T.bool (decide (a≥0))])):=by kernel_rfl
theorem q53 (N:Nat) (s:Sd) (n:Int):aB env (N+1) 53 [s.t,.ref (i64 n)]=W [s.t,.ref (i64 n)] (rB (s.a==n)):=by kernel_rfl
def abG (l:List Ru) (b:Bool) (e n:Nat) (x:T) (i:Int):St:=⟨slots 39 [(0,.t .dh),(3,.t (.bool b)),(13,.t (.sl 6 (l.map Ru.t))),(14,.t (i64 (l.map Ru.t).length)),(15,.t (i64 i))],[.box e n (.t x)]⟩
def V6 (l:List Ru) (b:Bool) (e n:Nat) (x:T) (r:Ru) (i:Int):St:=⟨slots 39 [(0,.ptr 1 5),(3,.t (.bool b)),(13,.t (.sl 6 (l.map Ru.t))),(14,.t (i64 (l.map Ru.t).length)),(15,.t (i64 i))],[.box e n (.t x),.box 72 6 (.t r.t)]⟩
def V7 (l:List Ru) (b:Bool) (e n:Nat) (x:T) (w:Ru) (i:Int):St:=⟨slots 39 [(0,.ptr 0 5),(3,.t (.bool b)),(13,.t (.sl 6 (l.map Ru.t))),(14,.t (i64 (l.map Ru.t).length)),(15,.t (i64 i))],[.box 72 6 (.t w.t),.box e n (.t x)]⟩
def V8 (l:List Ru) (b:Bool) (e n:Nat) (x:T) (w r:Ru) (i:Int):St:=⟨slots 39 [(0,.ptr 2 5),(3,.t (.bool b)),(13,.t (.sl 6 (l.map Ru.t))),(14,.t (i64 (l.map Ru.t).length)),(15,.t (i64 i))],[.box 72 6 (.t w.t),.box e n (.t x),.box 72 6 (.t r.t)]⟩
theorem k63 (N:Nat) (l:List Ru) (c:Int) (b:Bool) (e n:Nat) (x:T) {β:Type} (K:PV→List au→aj β):kL env (aJ env N) N 63 [.t .dh,.t (.sl 6 (l.map Ru.t)),.t (i64 c),.t (.bool b)] [.box e n (.t x)] K=cl N 65 [T.sl 6 (List.map Ru.t l),i64 c] fun x_1=>jF x_1 fun QT=>Jc env (aJ env N) N 63 1 2 K {tmps:=slots 39 [(0,PV.t T.dh),(3,PV.t (T.bool b)),(13,PV.t x_1),(14,PV.t (i64 QT)),(15,PV.t (i64 0))],heap:=[au.box e n (PV.t x)]}:=by kernel_rfl
theorem afb (N:Nat) (l:List Ru) (c:Int) (b:Bool) (e n:Nat) (x:T) (w:Ru) {β:Type} (K:PV→List au→aj β):kL env (aJ env N) N 63 [.ptr 0 5,.t (.sl 6 (l.map Ru.t)),.t (i64 c),.t (.bool b)] [.box 72 6 (.t w.t),.box e n (.t x)] K=cl N 65 [T.sl 6 (List.map Ru.t l),i64 c] fun x_1=>jF x_1 fun QT=>Jc env (aJ env N) N 63 2 2 K {tmps:=slots 39 [(0,PV.ptr 0 5),(3,PV.t (T.bool b)),(13,PV.t x_1),(14,PV.t (i64 QT)),(15,PV.t (i64 0))],heap:=[au.box 72 6 (PV.t w.t),au.box e n (PV.t x)]}:=by kernel_rfl
theorem Ut (N:Nat) (l:List Ru) (b:Bool) (e n:Nat) (x:T) (i:Int):um env (aJ env N) N 63 1 2 (abG l b e n x i)=bif decide (i < (↑(List.map Ru.t l).length:Int)) then dF (List.map Ru.t l) i fun e_1=>chk (e_1.cells.length==6&& !e_1.dS) (iT IntKind.i64 (e_1.ah 4 1 false) fun a=>bif a==2 then aj.ok (Ex.norm,{tmps:=slots 39 [(0,PV.ptr 1 5),(3,PV.t (T.bool b)),(13,PV.t (T.sl 6 (List.map Ru.t l))),(14,PV.t (i64 (↑(List.map Ru.t l).length:Int))),(15,PV.t (i64 (IntKind.i64.wrap (i+1))))],heap:=[au.box e n (PV.t x),au.box 72 6 (PV.t e_1)]}) else aj.ok (Ex.norm,abG l b e n x (IntKind.i64.wrap (i+1)))) else aj.ok (Ex.exit 0,{tmps:=slots 39 [(0,PV.t T.dh)],heap:=[au.box e n (PV.t x)]}):=by kernel_rfl
theorem Ko (N:Nat) (l:List Ru) (b:Bool) (e n:Nat) (x:T) (r:Ru) (i:Int):um env (aJ env N) N 63 1 2 (V6 l b e n x r i)=bif decide (i < (↑(List.map Ru.t l).length:Int)) then dF (List.map Ru.t l) i fun e_1=>chk (e_1.cells.length==6&& !e_1.dS) (iT IntKind.i64 (e_1.ah 4 1 false) fun a=>bif a==2 then iT IntKind.i64 (e_1.ah 5 1 false) fun a=>bif decide (a < r.n)==b&&true then aj.ok (Ex.norm,{tmps:=slots 39 [(0,PV.ptr 1 5),(3,PV.t (T.bool b)),(13,PV.t (T.sl 6 (List.map Ru.t l))),(14,PV.t (i64 (↑(List.map Ru.t l).length:Int))),(15,PV.t (i64 (IntKind.i64.wrap (i+1))))],heap:=[au.box e n (PV.t x),au.box 72 6 (PV.t e_1)]}) else aj.ok (Ex.norm,V6 l b e n x r (IntKind.i64.wrap (i+1))) else aj.ok (Ex.norm,V6 l b e n x r (IntKind.i64.wrap (i+1)))) else aj.ok (Ex.exit 0,{tmps:=slots 39 [(0,PV.ptr 1 5)],heap:=[au.box e n (PV.t x),au.box 72 6 (PV.t r.t)]}):=by kernel_rfl
theorem Kq (N:Nat) (l:List Ru) (b:Bool) (e n:Nat) (x:T) (w:Ru) (i:Int):um env (aJ env N) N 63 2 2 (V7 l b e n x w i)=bif decide (i < (↑(List.map Ru.t l).length:Int)) then dF (List.map Ru.t l) i fun e_1=>chk (e_1.cells.length==6&& !e_1.dS) (iT IntKind.i64 (e_1.ah 4 1 false) fun a=>bif a==2 then iT IntKind.i64 (e_1.ah 5 1 false) fun a=>bif decide (a < w.n)==b&&true then aj.ok (Ex.norm,{tmps:=slots 39 [(0,PV.ptr 2 5),(3,PV.t (T.bool b)),(13,PV.t (T.sl 6 (List.map Ru.t l))),(14,PV.t (i64 (↑(List.map Ru.t l).length:Int))),(15,PV.t (i64 (IntKind.i64.wrap (i+1))))],heap:=[au.box 72 6 (PV.t w.t),au.box e n (PV.t x),au.box 72 6 (PV.t e_1)]}) else aj.ok (Ex.norm,V7 l b e n x w (IntKind.i64.wrap (i+1))) else aj.ok (Ex.norm,V7 l b e n x w (IntKind.i64.wrap (i+1)))) else aj.ok (Ex.exit 0,{tmps:=slots 39 [(0,PV.ptr 0 5)],heap:=[au.box 72 6 (PV.t w.t),au.box e n (PV.t x)]}):=by kernel_rfl
theorem Kr (N:Nat) (l:List Ru) (b:Bool) (e n:Nat) (x:T) (w r:Ru) (i:Int):um env (aJ env N) N 63 2 2 (V8 l b e n x w r i)=bif decide (i < (↑(List.map Ru.t l).length:Int)) then dF (List.map Ru.t l) i fun e_1=>chk (e_1.cells.length==6&& !e_1.dS) (iT IntKind.i64 (e_1.ah 4 1 false) fun a=>bif a==2 then iT IntKind.i64 (e_1.ah 5 1 false) fun a=>bif decide (a < r.n)==b&&true then aj.ok (Ex.norm,{tmps:=slots 39 [(0,PV.ptr 2 5),(3,PV.t (T.bool b)),(13,PV.t (T.sl 6 (List.map Ru.t l))),(14,PV.t (i64 (↑(List.map Ru.t l).length:Int))),(15,PV.t (i64 (IntKind.i64.wrap (i+1))))],heap:=[au.box 72 6 (PV.t w.t),au.box e n (PV.t x),au.box 72 6 (PV.t e_1)]}) else aj.ok (Ex.norm,V8 l b e n x w r (IntKind.i64.wrap (i+1))) else aj.ok (Ex.norm,V8 l b e n x w r (IntKind.i64.wrap (i+1)))) else aj.ok (Ex.exit 0,{tmps:=slots 39 [(0,PV.ptr 2 5)],heap:=[au.box 72 6 (PV.t w.t),au.box e n (PV.t x),au.box 72 6 (PV.t r.t)]}):=by kernel_rfl
theorem Ja (N:Nat) (p:PV) (H:List au) {β:Type} (K:PV→List au→aj β):Jw env (aJ env N) N 63 1 2 K (.exit 0) (⟨slots 39 [(0,p)],H⟩)=K p H:=by kernel_rfl
theorem FD (N:Nat) (p:PV) (H:List au) {β:Type} (K:PV→List au→aj β):Jw env (aJ env N) N 63 2 2 K (.exit 0) (⟨slots 39 [(0,p)],H⟩)=K p H:=by kernel_rfl
theorem q62 (N:Nat):aB env (N+1) 62 [.dh]=W [.dh] (aj.ok (T.ak [i64 0,T.bool false])):=by kernel_rfl
theorem k62 (N:Nat) (r:Ru) {β:Type} (K:PV→List au→aj β):kL env (aJ env N) N 62 [.ptr 0 5] [.box 72 6 (.t r.t)] K=K (PV.ak [PV.t (i64 r.n),PV.t (T.bool true)]) [au.box 72 6 (PV.t r.t)]:=by kernel_rfl
theorem afa (N:Nat) (e n:Nat) (x:T) (r:Ru) {β:Type} (K:PV→List au→aj β):kL env (aJ env N) N 62 [.ptr 1 5] [.box e n (.t x),.box 72 6 (.t r.t)] K=K (PV.ak [PV.t (i64 r.n),PV.t (T.bool true)]) [au.box e n (PV.t x),au.box 72 6 (PV.t r.t)]:=by kernel_rfl
def vP (l:List Ru) (k:Int) (b:Bool) (e n:Nat) (x:T) (r:PV) (H:List au):Pin:=⟨63,[.t .dh,.t (.sl 6 (l.map Ru.t)),.t (i64 k),.t (.bool b)],[.box e n (.t x)],r,H⟩
def Jh (l:List Ru) (k:Int) (b:Bool) (e n:Nat) (x:T) (w:Ru) (r:PV) (H:List au):Pin:=⟨63,[.ptr 0 5,.t (.sl 6 (l.map Ru.t)),.t (i64 k),.t (.bool b)],[.box 72 6 (.t w.t),.box e n (.t x)],r,H⟩
def NZ (H:List au) (l:Nat) (r:Ru):Pin:=⟨62,[.ptr l 5],H,.ak [.t (i64 r.n),.t (.bool true)],H⟩
theorem aed (N:Nat) (c:Cf) (n k:Int) (l:List Ru):kL env (qG env N [vP l k false 45 6 c.t (.t .dh) [.box 45 6 (.t c.t)]]) N 49 [.t (c.t),.t (i64 n)] [] (bU env 49)=bif decide (n < 0) then aj.ok (T.ak [i64 0,T.bool false]) else bif decide (n≥(↑(List.map Sd.t c.s).length:Int)) then aj.ok (T.ak [i64 0,T.bool false]) else dF (List.map Sd.t c.s) n fun e=>dF (List.map Sd.t c.s) n fun e_1=>tC ([PV.t T.dh,PV.t (e.ah 2 1 false),PV.t (e_1.ah 1 1 false),PV.t (T.bool false)]= [PV.t T.dh,PV.t (T.sl 6 (List.map Ru.t l)),PV.t (i64 k),PV.t (T.bool false)]∧ [au.box 45 6 (PV.t c.t)]= [au.box 45 6 (PV.t c.t)]) (cl N 62 [T.dh] fun x=>aH x 0 fun y=>aH x 1 fun y_1=>aj.ok (T.ak [y,y_1])):=by kernel_rfl
theorem ac6 (N:Nat) (c:Cf) (n k:Int) (l:List Ru) (r:Ru):kL env (qG env N [vP l k false 45 6 c.t (.ptr 1 5) [.box 45 6 (.t c.t),.box 72 6 (.t r.t)],NZ [.box 45 6 (.t c.t),.box 72 6 (.t r.t)] 1 r]) N 49 [.t (c.t),.t (i64 n)] [] (bU env 49)=bif decide (n < 0) then aj.ok (T.ak [i64 0,T.bool false]) else bif decide (n≥(↑(List.map Sd.t c.s).length:Int)) then aj.ok (T.ak [i64 0,T.bool false]) else dF (List.map Sd.t c.s) n fun e=>dF (List.map Sd.t c.s) n fun e_1=>tC ([PV.t T.dh,PV.t (e.ah 2 1 false),PV.t (e_1.ah 1 1 false),PV.t (T.bool false)]= [PV.t T.dh,PV.t (T.sl 6 (List.map Ru.t l)),PV.t (i64 k),PV.t (T.bool false)]∧ [au.box 45 6 (PV.t c.t)]= [au.box 45 6 (PV.t c.t)]) (tC ([PV.ptr 1 5]= [PV.ptr 1 5]∧ [au.box 45 6 (PV.t c.t),au.box 72 6 (PV.t r.t)]= [au.box 45 6 (PV.t c.t),au.box 72 6 (PV.t r.t)]) (aj.ok (T.ak [i64 r.n,T.bool true]))):=by kernel_rfl
theorem q51 (N:Nat) (c:Cf) (k n:Int):aB env (N+1) 51 [c.t,i64 k,i64 n]=W [c.t,i64 k,i64 n] (bif decide (k < 0) then rB false else bif decide (k≥(↑(List.map Sd.t c.s).length:Int)) then rB false else dF (List.map Sd.t c.s) k fun e=>cl N 65 [e.ah 3 1 false,i64 n] fun x=>cl N 64 [x,T.fn 66 [] []] fun x=>aj.ok x):=by kernel_rfl
theorem q66 (N:Nat) (r:Ru):aB env (N+1) 66 [r.t]=W [r.t] (rB (r.a !=0)):=by kernel_rfl
def FV (c:Cf) (k i:Int):St:=⟨slots 32 [(1,.t (i64 k)),(6,.t .dh),(12,.t (.sl 4 (c.s.map Sd.t))),(13,.t (i64 (c.s.map Sd.t).length)),(14,.t (i64 i))],[]⟩
def Di (c:Cf) (w:Ru) (k i:Int):St:=⟨slots 32 [(1,.t (i64 k)),(6,.ptr 0 5),(12,.t (.sl 4 (c.s.map Sd.t))),(13,.t (i64 (c.s.map Sd.t).length)),(14,.t (i64 i))],[.box 72 6 (.t w.t)]⟩
theorem q50 (N:Nat) (c:Cf) (n:Int):aB env (N+1) 50 [c.t,i64 n]=W [c.t,i64 n] (bif n==0 then aj.ok (T.ak [i64 400,T.bool true]) else eG env N 50 5 (FV c n 0)):=by kernel_rfl
theorem UA (N:Nat) (c:Cf) (k i:Int):pq env (qG env N []) N 50 0 5 (FV c k i)=bif decide (i < (↑(List.map Sd.t c.s).length:Int)) then dF (List.map Sd.t c.s) i fun e=>chk (e.cells.length==4&& !e.dS) (iT IntKind.i64 (e.ah 1 1 false) fun a=>bif a==k then aj.stuck else aj.ok (Ex.norm,FV c k (IntKind.i64.wrap (i+1)))) else aj.ok (Ex.exit 0,{tmps:=slots 32 [(6,PV.t T.dh)],heap:=[]}):=by kernel_rfl
theorem KH (N:Nat) (c:Cf) (w:Ru) (k i:Int):pq env (qG env N []) N 50 0 5 (Di c w k i)=bif decide (i < (↑(List.map Sd.t c.s).length:Int)) then dF (List.map Sd.t c.s) i fun e=>chk (e.cells.length==4&& !e.dS) (iT IntKind.i64 (e.ah 1 1 false) fun a=>bif a==k then aj.stuck else aj.ok (Ex.norm,Di c w k (IntKind.i64.wrap (i+1)))) else aj.ok (Ex.exit 0,{tmps:=slots 32 [(6,PV.ptr 0 5)],heap:=[au.box 72 6 (PV.t w.t)]}):=by kernel_rfl
theorem Vo (N:Nat) (c:Cf) (l:List Ru) (x:T) (k i:Int):pq env (qG env N [vP l k true 48 4 x (.t .dh) [.box 48 4 (.t x)]]) N 50 0 5 (FV c k i)=bif decide (i < (↑(List.map Sd.t c.s).length:Int)) then dF (List.map Sd.t c.s) i fun e=>chk (e.cells.length==4&& !e.dS) (iT IntKind.i64 (e.ah 1 1 false) fun a=>bif a==k then tC ([PV.t T.dh,PV.t (e.ah 2 1 false),PV.t (i64 k),PV.t (T.bool true)]= [PV.t T.dh,PV.t (T.sl 6 (List.map Ru.t l)),PV.t (i64 k),PV.t (T.bool true)]∧ [au.box 48 4 (PV.t e)]= [au.box 48 4 (PV.t x)]) (aj.ok (Ex.norm,FV c k (IntKind.i64.wrap (i+1)))) else aj.ok (Ex.norm,FV c k (IntKind.i64.wrap (i+1)))) else aj.ok (Ex.exit 0,{tmps:=slots 32 [(6,PV.t T.dh)],heap:=[]}):=by kernel_rfl
theorem Vp (N:Nat) (c:Cf) (l:List Ru) (x:T) (r:Ru) (k i:Int):pq env (qG env N [vP l k true 48 4 x (.ptr 1 5) [.box 48 4 (.t x),.box 72 6 (.t r.t)]]) N 50 0 5 (FV c k i)=bif decide (i < (↑(List.map Sd.t c.s).length:Int)) then dF (List.map Sd.t c.s) i fun e=>chk (e.cells.length==4&& !e.dS) (iT IntKind.i64 (e.ah 1 1 false) fun a=>bif a==k then tC ([PV.t T.dh,PV.t (e.ah 2 1 false),PV.t (i64 k),PV.t (T.bool true)]= [PV.t T.dh,PV.t (T.sl 6 (List.map Ru.t l)),PV.t (i64 k),PV.t (T.bool true)]∧ [au.box 48 4 (PV.t e)]= [au.box 48 4 (PV.t x)]) (aj.ok (Ex.norm,Di c r k (IntKind.i64.wrap (i+1)))) else aj.ok (Ex.norm,FV c k (IntKind.i64.wrap (i+1)))) else aj.ok (Ex.exit 0,{tmps:=slots 32 [(6,PV.t T.dh)],heap:=[]}):=by kernel_rfl
theorem Vq (N:Nat) (c:Cf) (l:List Ru) (x:T) (w:Ru) (k i:Int):pq env (qG env N [Jh l k true 48 4 x w (.ptr 0 5) [.box 72 6 (.t w.t),.box 48 4 (.t x)]]) N 50 0 5 (Di c w k i)=bif decide (i < (↑(List.map Sd.t c.s).length:Int)) then dF (List.map Sd.t c.s) i fun e=>chk (e.cells.length==4&& !e.dS) (iT IntKind.i64 (e.ah 1 1 false) fun a=>bif a==k then tC ([PV.ptr 0 5,PV.t (e.ah 2 1 false),PV.t (i64 k),PV.t (T.bool true)]= [PV.ptr 0 5,PV.t (T.sl 6 (List.map Ru.t l)),PV.t (i64 k),PV.t (T.bool true)]∧ [au.box 72 6 (PV.t w.t),au.box 48 4 (PV.t e)]= [au.box 72 6 (PV.t w.t),au.box 48 4 (PV.t x)]) (aj.ok (Ex.norm,Di c w k (IntKind.i64.wrap (i+1)))) else aj.ok (Ex.norm,Di c w k (IntKind.i64.wrap (i+1)))) else aj.ok (Ex.exit 0,{tmps:=slots 32 [(6,PV.ptr 0 5)],heap:=[au.box 72 6 (PV.t w.t)]}):=by kernel_rfl
theorem Vr (N:Nat) (c:Cf) (l:List Ru) (x:T) (w r:Ru) (k i:Int):pq env (qG env N [Jh l k true 48 4 x w (.ptr 2 5) [.box 72 6 (.t w.t),.box 48 4 (.t x),.box 72 6 (.t r.t)]]) N 50 0 5 (Di c w k i)=bif decide (i < (↑(List.map Sd.t c.s).length:Int)) then dF (List.map Sd.t c.s) i fun e=>chk (e.cells.length==4&& !e.dS) (iT IntKind.i64 (e.ah 1 1 false) fun a=>bif a==k then tC ([PV.ptr 0 5,PV.t (e.ah 2 1 false),PV.t (i64 k),PV.t (T.bool true)]= [PV.ptr 0 5,PV.t (T.sl 6 (List.map Ru.t l)),PV.t (i64 k),PV.t (T.bool true)]∧ [au.box 72 6 (PV.t w.t),au.box 48 4 (PV.t e)]= [au.box 72 6 (PV.t w.t),au.box 48 4 (PV.t x)]) (aj.ok (Ex.norm,Di c r k (IntKind.i64.wrap (i+1)))) else aj.ok (Ex.norm,Di c w k (IntKind.i64.wrap (i+1)))) else aj.ok (Ex.exit 0,{tmps:=slots 32 [(6,PV.ptr 0 5)],heap:=[au.box 72 6 (PV.t w.t)]}):=by kernel_rfl
theorem MH (N:Nat):bK env N 50 0 5 (bU env 50) (.exit 0) (⟨slots 32 [(6,.t .dh)],[]⟩)=cl N 62 [T.dh] fun x=>aH x 0 fun y=>aH x 1 fun y_1=>aj.ok (T.ak [y,y_1]):=by kernel_rfl
theorem Ji (N:Nat) (w:Ru):Ah env (qG env N [NZ [.box 72 6 (.t w.t)] 0 w]) N 50 0 5 (bU env 50) (.exit 0) (⟨slots 32 [(6,.ptr 0 5)],[.box 72 6 (.t w.t)]⟩)=tC ([PV.ptr 0 5]= [PV.ptr 0 5]∧ [au.box 72 6 (PV.t w.t)]= [au.box 72 6 (PV.t w.t)]) (aj.ok (T.ak [i64 w.n,T.bool true])):=by kernel_rfl
def Io (a:Cf) (h:T) (k:T) (b:T) (i:Int):St:=⟨slots 75 [(2,.ptr 0 0),(5,.t k),(9,.t h),(10,.t b),(11,.t (i64 i))],[.box 45 6 (.t a.t)]⟩
theorem q24 (N:Nat) (a b:Cf):aB env (N+1) 24 [a.t,b.t]=W [a.t,b.t] (cl N 29 [a.t,i64 b.a] fun x=>aH x 0 fun y=>aH x 1 fun y_1=>cl N 29 [b.t,i64 a.a] fun x=>aH x 0 fun sZ=>aH x 1 fun Cc=>jJ N 23 [a.t] fun b_1=>bif !b_1 then rB false else jJ N 23 [b.t] fun JR=>bif !JR then rB false else bT y_1 fun b_3=>bif !b_3 then rB false else bT Cc fun b_4=>bif !b_4 then rB false else cl N 49 [b.t,sZ] fun x=>aH x 0 fun Qq=>aH x 1 fun UK=>eG env N 24 7 (Io a Qq y UK 0)):=by kernel_rfl
theorem aaE (N:Nat) (a:Cf) (h k i:Int) (b:Bool):aT env N 24 0 7 (Io a (i64 h) (i64 k) (.bool b) i)=bif decide (i≤3) then cl N 50 [a.t,i64 i] fun x=>aH x 0 fun y=>aH x 1 fun y_1=>bT y_1 fun b_1=>bif b_1 then bif b then iT IntKind.i64 y fun JR=>bif decide (h > JR) then jJ N 51 [a.t,i64 k,i64 i] fun v=>bif v then aj.ok (Ex.ret,{tmps:=slots 75 [(4,PV.t (T.bool false))],heap:=[]}) else aj.ok (Ex.norm,Io a (i64 h) (i64 k) (T.bool b) (IntKind.i64.wrap (i+1))) else aj.ok (Ex.norm,Io a (i64 h) (i64 k) (T.bool b) (IntKind.i64.wrap (i+1))) else aj.ok (Ex.norm,Io a (i64 h) (i64 k) (T.bool b) (IntKind.i64.wrap (i+1))) else aj.ok (Ex.norm,Io a (i64 h) (i64 k) (T.bool b) (IntKind.i64.wrap (i+1))) else aj.ok (Ex.exit 0,{tmps:=slots 75 [],heap:=[]}):=by kernel_rfl
theorem L6 (N:Nat):bK env N 24 0 7 (bU env 24) (.exit 0) (⟨slots 75 [],[]⟩)=rB true:=by kernel_rfl
theorem Sm (N:Nat):bK env N 24 0 7 (bU env 24) (.ret) (⟨slots 75 [(4,.t (.bool false))],[]⟩)=rB false:=by kernel_rfl
end
section
open Go.RowKit Go.Proofs
variable [Lv]
theorem acs {M:Nat} {l:List Sd} {g:FuncId} {cs:List T} {q:Sd→Bool} (hM:big+1≤M) (hl:dN Sd.ok l) (hw:T.wfs cs=true) (hm:env.mode g=0) (hq:∀ r∈l,aB env M g (r.t::cs)= .ok (.bool (q r))):
 aB env (M+1) 52 [.sl 4 (l.map Sd.t),.fn g [] cs]= .ok (i64 (wH (l.findIdx? q))):=by
 rw[q52,dA (iY (gq (fun _ h=>Sd.ok.wf h) hl) (Aj hw))]
 exact IE Sd.t (S:=VY l _) q (by have:=hl.1; omega) hl.1 (aeR M l _) (SC M) (MI M) fun x hx K=>(qL hm).trans (aV (hq x hx))
theorem acu {M:Nat} {s:Sd} {n:Int} (h:s.ok) (hn:aS n=true):aB env (M+1) 53 [s.t,.ref (i64 n)]= .ok (.bool (s.a==n)):=by
 rw[q53,dA (iY h.wf (mP (bC hn)))]
theorem J6 (k:Option Nat):dP true [0] (wH k)=((k.getD 0:Nat):Int):=by
 cases k with
 |none=>rfl
 |some i=>show(if (i:Int) < 0 then(0:Int) else i)=i; rw[if_neg (by omega)]
theorem Ht {M:Nat} {c:Cf} {n:Int} (hM:big+2≤M) (h:c.ok) (hn:aS n=true):aB env (M+1) 29 [c.t,i64 n]= .ok (.ak [i64 (dO c n),.bool (idxOf c n).isSome]):=by
 obtain⟨m,rfl⟩:=gV (show 1≤M by omega)
 rw[q29,dA (iY h.wf (bC hn)),aV (acs (q:=fun s=>s.a==n) (by omega) h.s (jD (mP (bC hn))) rfl fun s hs=>by
  obtain⟨m,rfl⟩:=gV (show 1≤m by omega); exact acu (h.s.2 s hs) hn)]
 simp only[bM,J6,yL]
 rfl
def Af (b:Bool) (w:Option Ru) (r:Ru):Option Ru:=if r.a=2 then(match w with|none=>some r|some v=>if decide (r.n < v.n)==b then some r else some v) else w
def uH (b:Bool) (w:Ru) (u:Option Ru) (r:Ru):Option Ru:=if r.a=2 then(if decide (r.n < (u.getD w).n)==b then some r else u) else u
theorem EY (b:Bool) (w:Ru):∀ (l:List Ru) (u:Option Ru),l.foldl (Af b) (some (u.getD w))=some ((l.foldl (uH b w) u).getD w)
 | [],u=>rfl
 |r::l,u=>by
  rw[List.foldl_cons,List.foldl_cons,←EY b w l]
  congr 1
  unfold Af uH
  split
  · simp only
    split<;>rfl
  · rfl
theorem D9 {l:List Ru} (k:Int) (h:dN Ru.ok l):dN Ru.ok (bI l k):=by
 unfold bI
 refine O0 ?_ _
 split
 · exact D6 h _
 · exact h
def pvA:Option Ru→PV|none=> .t .dh|some _=> .ptr 1 5
def hpA (e n:Nat) (x:T):Option Ru→List au|none=>[.box e n (.t x)]|some r=>[.box e n (.t x),.box 72 6 (.t r.t)]
def stA (l:List Ru) (b:Bool) (e n:Nat) (x:T) (w:Option Ru) (i:Nat):St:=match w with|none=>abG l b e n x (i:Nat)|some r=>V6 l b e n x r (i:Nat)
def ahM (e n:Nat) (x:T) (w:Option Ru):St:=⟨slots 39 [(0,pvA w)],hpA e n x w⟩
theorem Dh (r:Ru):(r.t.cells.length==6&& !r.t.dS)=true:=rfl
theorem VO (r:Ru):r.t.ah 4 1 false=i64 r.a:=rfl
theorem abB (r:Ru):r.t.ah 5 1 false=i64 r.n:=rfl
theorem TA {M:Nat} {l:List Ru} {k:Int} {b:Bool} {e n:Nat} {x:T} (hM:big+5≤M) (hl:dN Ru.ok l) (hb:l.length*48≤big) (hk:aS k=true):
 zB env (M+1) (vP l k b e n x (pvA (mY b none (bI l k))) (hpA e n x (mY b none (bI l k)))):=fun β K=>by
 obtain⟨m,rfl⟩:=gV (show 1≤M by omega)
 show kL env (aJ env (m+1)) (m+1) _ _ _ K=_
 refine(k63 (m+1) l k b e n x K).trans ?_
 rw[aV (ND (by omega) hl hb hk)]
 have hr:=D9 k hl
 have it:=(jM (B:=um env (aJ env (m+1)) (m+1) 63 1 2) (S:=stA (bI l k) b e n x) (X:=ahM e n x) (id:=0) (fun _ _=>True) (Af b) (bI l k) (n:=m+1) none (by have:=hr.1; omega)
  (fun w j r hx _=>by
   have hj:j < (bI l k).length:=(List.getElem?_eq_some_iff.1 hx).1
   have hbg:=hr.1
   have hd:decide ((j:Int) < (((bI l k).map Ru.t).length:Int))=true:=decide_eq_true (by rw[List.length_map]; omega)
   refine⟨?_,trivial⟩
   cases w with
   |none=>
    refine(Ut (m+1) (bI l k) b e n x j).trans ?_
    rw[hd]
    simp only[cond_true,aF (aI hx),Dh,VO,bD,bM,wrap_succ (show j≤big by omega)]
    by_cases ha:r.a=2
    · rw[beq_iff_eq.2 ha]; unfold Af; rw[if_pos ha]; rfl
    · rw[beq_eq_false_iff_ne.2 ha]; unfold Af; rw[if_neg ha]; rfl
   |some v=>
    refine(Ko (m+1) (bI l k) b e n x v j).trans ?_
    rw[hd]
    simp only[cond_true,aF (aI hx),Dh,VO,abB,bD,bM,wrap_succ (show j≤big by omega),Bool.and_true]
    by_cases ha:r.a=2
    · rw[beq_iff_eq.2 ha]; unfold Af; rw[if_pos ha]
      simp only[cond_true]
      cases (decide (r.n < v.n)==b)<;>rfl
    · rw[beq_eq_false_iff_ne.2 ha]; unfold Af; rw[if_neg ha]; rfl)
  (fun w _=>by
   have hd:decide (((bI l k).length:Int) < (((bI l k).map Ru.t).length:Int))=false:=decide_eq_false (by rw[List.length_map]; omega)
   cases w with
   |none=>refine(Ut (m+1) (bI l k) b e n x _).trans ?_; rw[hd]; rfl
   |some v=>refine(Ko (m+1) (bI l k) b e n x v _).trans ?_; rw[hd]; rfl) trivial).1
 refine(AX (K:=K) it).trans ?_
 exact Ja (m+1) _ _ K
def pvC:Option Ru→PV|none=> .ptr 0 5|some _=> .ptr 2 5
def hpC (e n:Nat) (x:T) (w:Ru):Option Ru→List au|none=>[.box 72 6 (.t w.t),.box e n (.t x)]|some r=>[.box 72 6 (.t w.t),.box e n (.t x),.box 72 6 (.t r.t)]
def stC (l:List Ru) (b:Bool) (e n:Nat) (x:T) (w:Ru) (u:Option Ru) (i:Nat):St:=match u with|none=>V7 l b e n x w (i:Nat)|some r=>V8 l b e n x w r (i:Nat)
def ahN (e n:Nat) (x:T) (w:Ru) (u:Option Ru):St:=⟨slots 39 [(0,pvC u)],hpC e n x w u⟩
theorem aeU {M:Nat} {l:List Ru} {k:Int} {b:Bool} {e n:Nat} {x:T} {w:Ru} (hM:big+5≤M) (hl:dN Ru.ok l) (hb:l.length*48≤big) (hk:aS k=true):
 zB env (M+1) (Jh l k b e n x w (pvC ((bI l k).foldl (uH b w) none)) (hpC e n x w ((bI l k).foldl (uH b w) none))):=fun β K=>by
 obtain⟨m,rfl⟩:=gV (show 1≤M by omega)
 show kL env (aJ env (m+1)) (m+1) _ _ _ K=_
 refine(afb (m+1) l k b e n x w K).trans ?_
 rw[aV (ND (by omega) hl hb hk)]
 have hr:=D9 k hl
 have it:=(jM (B:=um env (aJ env (m+1)) (m+1) 63 2 2) (S:=stC (bI l k) b e n x w) (X:=ahN e n x w) (id:=0) (fun _ _=>True) (uH b w) (bI l k) (n:=m+1) none (by have:=hr.1; omega)
  (fun u j r hx _=>by
   have hj:j < (bI l k).length:=(List.getElem?_eq_some_iff.1 hx).1
   have hbg:=hr.1
   have hd:decide ((j:Int) < (((bI l k).map Ru.t).length:Int))=true:=decide_eq_true (by rw[List.length_map]; omega)
   refine⟨?_,trivial⟩
   cases u with
   |none=>
    refine(Kq (m+1) (bI l k) b e n x w j).trans ?_
    rw[hd]
    simp only[cond_true,aF (aI hx),Dh,VO,abB,bD,bM,wrap_succ (show j≤big by omega),Bool.and_true]
    by_cases ha:r.a=2
    · rw[beq_iff_eq.2 ha]; unfold uH; rw[if_pos ha]
      simp only[cond_true]
      by_cases hq:(decide (r.n < ((none:Option Ru).getD w).n)==b)=true
      · rw[if_pos hq,show(decide (r.n < w.n)==b)=true from hq]; rfl
      · rw[if_neg hq,show(decide (r.n < w.n)==b)=false from eq_false_of_ne_true hq]; rfl
    · rw[beq_eq_false_iff_ne.2 ha]; unfold uH; rw[if_neg ha]; rfl
   |some v=>
    refine(Kr (m+1) (bI l k) b e n x w v j).trans ?_
    rw[hd]
    simp only[cond_true,aF (aI hx),Dh,VO,abB,bD,bM,wrap_succ (show j≤big by omega),Bool.and_true]
    by_cases ha:r.a=2
    · rw[beq_iff_eq.2 ha]; unfold uH; rw[if_pos ha]
      simp only[cond_true]
      by_cases hq:(decide (r.n < ((some v).getD w).n)==b)=true
      · rw[if_pos hq,show(decide (r.n < v.n)==b)=true from hq]; rfl
      · rw[if_neg hq,show(decide (r.n < v.n)==b)=false from eq_false_of_ne_true hq]; rfl
    · rw[beq_eq_false_iff_ne.2 ha]; unfold uH; rw[if_neg ha]; rfl)
  (fun u _=>by
   have hd:decide (((bI l k).length:Int) < (((bI l k).map Ru.t).length:Int))=false:=decide_eq_false (by rw[List.length_map]; omega)
   cases u with
   |none=>refine(Kq (m+1) (bI l k) b e n x w _).trans ?_; rw[hd]; rfl
   |some v=>refine(Kr (m+1) (bI l k) b e n x w v _).trans ?_; rw[hd]; rfl) trivial).1
 refine(AX (K:=K) it).trans ?_
 exact FD (m+1) _ _ K
theorem ado {M:Nat} (e n:Nat) (x:T) (r:Ru):zB env (M+1) (NZ [.box e n (.t x),.box 72 6 (.t r.t)] 1 r):=fun β K=>afa M e n x r K
theorem adn {M:Nat} (r:Ru):zB env (M+1) (NZ [.box 72 6 (.t r.t)] 0 r):=fun β K=>k62 M r K
end
end Go.aO
