/- The texts of a proof, one behind the other: an interpreter and its soundness, what the functions of the program answer, and plain laws on that. -/
import Derived.Test.YtjlpnhpfbgbkhaaGreatX9
import Derived.Test.YtjlpnhpfbgbkhaaGreatX1
import Derived.Test.YtjlpnhpfbgbkhaaGreatX2
import Derived.Test.YtjlpnhpfbgbkhaaGreatX5
import Derived.Test.YtjlpnhpfbgbkhaaGreatK10
import Derived.Test.YtjlpnhpfbgbkhaaGreatX6
set_option linter.unusedVariables false
set_option linter.unusedSimpArgs false
set_option linter.unnecessarySimpa false
set_option linter.unusedSectionVars false
set_option maxRecDepth 100000
namespace Go.aP
section
open Go.RowKit Go.Proofs
def aqs:Oper:={dst:=some 59,op:= .next (.tmp 58) false,type:=0,pos:= "decide.go:48",after:= #[],guard:=none}
def aqr:Oper:={dst:=some 61,op:= .entry (.tmp 58),type:=0,pos:= "decide.go:48",after:= #[],guard:=none}
def pU (c:Cf) (t:List (List En)) (ks:List Px) (seen:List Nat):List Ch:=(seen.filterMap fun n=>ks[n]?).filterMap (kK c t)
theorem adt {c:Cf} {t:List (List En)} {ks:List Px} {seen:List Nat} {n:Nat} {x:Px} (h:ks[n]? =some x):pU c t ks (seen++ [n])=pU c t ks seen++(kK c t x).toList:=by
 unfold pU
 rw[List.filterMap_append,List.filterMap_append]
 congr 1
 simp only[List.filterMap_cons,h,List.filterMap_nil]
 cases kK c t x<;>rfl
theorem QG (c:Cf) (t:List (List En)) (ks:List Px) (seen:List Nat):(pU c t ks seen).length≤seen.length:=Nat.le_trans (List.length_filterMap_le _ _) (List.length_filterMap_le _ _)
theorem adu {ks:List Px} {seen:List Nat} (hn:seen.Nodup) (hk:ks.Nodup) (hs:∀ n∈seen,n < ks.length) (ha:∀ n,n < ks.length→n∈seen):(seen.filterMap fun n=>ks[n]?).Nodup∧∀ y,y∈(seen.filterMap fun n=>ks[n]?)↔y∈ks:=by
 refine⟨?_,fun y=>?_⟩
 · unfold List.Nodup at*
   rw[List.pairwise_filterMap]
   refine List.Pairwise.imp_of_mem (fun {a b} ha' hb' hab x hx y hy e=>?_) hn
   subst e
   obtain⟨h1,h2⟩:=List.getElem?_eq_some_iff.1 hx
   obtain⟨h3,h4⟩:=List.getElem?_eq_some_iff.1 hy
   have hw:=List.pairwise_iff_getElem.1 hk
   rcases Nat.lt_trichotomy a b with hl|hl|hl
   · exact hw a b h1 h3 hl (h2.trans h4.symm)
   · exact hab hl
   · exact hw b a h3 h1 hl (h4.trans h2.symm)
 · rw[List.mem_filterMap]
   constructor
   · rintro⟨n,_,h⟩; exact List.mem_of_getElem? h
   · intro h
     obtain⟨n,h1,h2⟩:=List.getElem_of_mem h
     exact⟨n,ha n h1,by rw[List.getElem?_eq_getElem h1,h2]⟩
theorem Jc.mem {es:List (T×T×Nat)} {cc:Nat} {ks:List Px} (h:Jc es cc ks) {e:T×T×Nat} (he:e∈es):∃ x v,ks[e.2.2]? =some x∧e=(x.t,i64 v,e.2.2)∧e.2.2 < es.length∧Yh es e.2.2=some e:=by
 obtain⟨i,hi,hie⟩:=List.getElem_of_mem he
 have hl:=h.len
 obtain⟨v,hv⟩:=h.at (show i < ks.length by omega)
 rw[List.getElem?_eq_getElem hi,hie] at hv
 simp only[Option.some.injEq] at hv
 have h3:e.2.2=i:=by rw[hv]
 have hst:∀ j (hj:j < es.length),es[j].2.2=j:=fun j hj=>by
  have:=congrArg (fun z=>z[j]?) h.st
  simpa[List.getElem?_range hj,List.getElem?_eq_getElem hj] using this
 refine⟨ks[i],v,by rw[h3,List.getElem?_eq_getElem (by omega)],by rw[h3]; exact hv,by omega,?_⟩
 unfold Yh
 rw[List.find?_eq_some_iff_getElem]
 refine⟨by simp,i,hi,hie,fun j hj=>?_⟩
 rw[hst j (by omega),h3]
 simp; omega
variable [Lv]
def abj (c:Cf) (t:List (List En)) (es:List EY) (cc:Nat) (ks:List Px) (m:Nat) (st:St):Prop:=∃ seen:List Nat,st=sR c t es cc cc cc seen (pU c t ks seen)∧seen.Nodup∧(∀ n∈seen,n < es.length)∧m+seen.length=es.length
theorem ae0 {c:Cf} {t:List (List En)} {x:Px} {r:List Ch}:r++(kK c t x).toList=(match oO (gq c t x) with|some q=>r++ [⟨x,q⟩]|none=>r):=by
 unfold kK
 cases oO (gq c t x)<;>simp
theorem abU {N:Nat} {c:Cf} {t:List (List En)} {es:List EY} {cc:Nat} {ks:List Px} {Q:Ex→St→Prop} (hN:big+80≤N) (h:c.ok) (ht:FH t) (hm:Jc es cc ks) (hlen:ks.length*128≤big) (hk:∀ x∈ks,x.ok)
 (hend:∀ seen,seen.Nodup→(∀ n∈seen,n < es.length)→(∀ n,n < es.length→n∈seen)→ay env N 76 [] 9 (sE (pU c t ks seen)) Q) (m:Nat) (st:St) (hI:abj c t es cc ks m st):
 ay env N 76 ([]++ [8]) 0 st fun e st=>e.kP (∃ m',m' < m∧abj c t es cc ks m' (canon 0 (dX env 76 [] 8).1 st))
  (fun j=>if j=6 then ay env N 76 [] (8+1) (canon 0 (dX env 76 [] 8).2 st) Q else Q (.exit j) (canon 0 (dX env 76 [] 8).2 st)) (Q .ret (canon 0 (lH (dU env 76)) st)):=by
 have hbig:=aQ
 have hl:=hm.len
 have hcc:=hm.cc
 obtain⟨seen,rfl,hn,hs,hmm⟩:=hI
 show ay env N 76 [8] 0 _ _
 refine yK (by kernel_rfl) (of_decide_eq_true (by kernel_rfl)) ?_
 refine Ap (o:=aqs) (by kernel_rfl) ?_
 refine step_next (x:= .tmp 58) (l:=2) (m:=3) (since:=cc) (last:=cc) (c:=cc) (seen:=seen) (es:=es) rfl rfl (by kernel_rfl) rfl rfl (fun e he=>?_) ?_ (fun hf=>?_) fun e he=>?_
 · obtain⟨_,_,_,_,h3,_⟩:=hm.mem he; omega
 · cases es with
   |nil=>exact .inr (.inl rfl)
   |cons e0 r=>obtain⟨_,_,_,_,h3,_⟩:=hm.mem (e:=e0) List.mem_cons_self; exact .inr (.inr ⟨e0,List.mem_cons_self,by omega⟩)
 · obtain⟨st',g1,g2⟩:=ahq (zLF N c t es cc cc cc seen (pU c t ks seen))
   refine adT 1 g1 ?_
   show ay env N 76 [] (8+1) (canon 0 (dX env 76 [] 8).2 st') Q
   rw[g2]
   refine hend seen hn hs fun n hnl=>?_
   have hnk:n < ks.length:=by omega
   obtain⟨v,hv⟩:=hm.at hnk
   have:=List.filter_eq_nil_iff.1 hf _ (List.mem_of_getElem? hv)
   simpa using this
 · obtain⟨he1,he2⟩:=List.mem_filter.1 he
   obtain⟨x,v,k1,k2,k3,k4⟩:=hm.mem he1
   have hns:e.2.2∉seen:=by simpa using he2
   generalize e.2.2=n at k1 k2 k3 k4 hns
   subst k2
   refine adT 1 (asL N c t es cc cc cc seen (pU c t ks seen) x v n) ?_
   refine oI (p:=[8]) (i:=2) (id:=7) (c:=gV ((aN env 76 [8]).getD 2 .skip)) (by kernel_rfl) (by kernel_rfl) ?_
   show ay env N 76 [8,2] 0 _ _
   refine yK (by kernel_rfl) (of_decide_eq_true (by kernel_rfl)) ?_
   refine Ap (o:=aqr) (by kernel_rfl) ?_
   refine ML (x:= .tmp 58) (l:=2) (m:=3) (since:=cc) (c:=cc) (n:=n) (seen:=seen) (es:=es) (e:=(x.t,i64 v,n)) rfl rfl (by kernel_rfl) rfl rfl k4 ?_
   show Ii env N 76 [8,2] 0 1 (sT c t es cc cc (seen++ [n]) (pU c t ks seen) x v) _
   have hxo:=hk x (List.mem_of_getElem? k1)
   have hto:=xR (x:=x) h ht
   have hth:=IL (c:=c) (t:=t) (x:=x)
   have hq:bZ Rt.ok (gq c t x):=⟨by
    have:=QF (c:=c) (t:=t) (x:=x)
    unfold gq
    cases hcs:dF c with
    |false=>simp
    |true=>
     have:=(oG hcs).2.2.2.2
     have h1:=List.length_filterMap_le (fun(k:Nat)=>(t[k]?).bind fun l=>(qo l x).bind fun p=>wQ c (k:Int) x p) (List.range (min t.length c.s.length))
     rw[List.length_range] at h1
     simp only[if_true,List.length_append]
     split<;>simp<;>omega,hto⟩
   obtain⟨M,rfl⟩:=dL (show 1≤N by omega)
   have z1:=asM (M+1) c t es cc cc (seen++ [n]) (pU c t ks seen) x v
   rw[aF (ahs (by omega) h ht hxo),aF (ahr (by omega) hq),Jl] at z1
   simp only[aG,List.getElem?_cons_zero,List.getElem?_cons_succ,oz,aI] at z1
   refine ajZ (k:=2) z1 ?_
   have hnext:∀ {r':List Ch} {st2:St},r'=pU c t ks (seen++ [n])→canon 0 (dX env 76 [] 8).1 st2=sR c t es cc cc cc (seen++ [n]) r'→∃ m',m' < m∧abj c t es cc ks m' (canon 0 (dX env 76 [] 8).1 st2):=fun {r' st2} e1 e2=>by
    have hlt:(seen++ [n]).length≤es.length:=EI _ _ (by
     rw[List.nodup_append]
     exact⟨hn,by simp,fun a ha b hb e=>by rw[List.mem_singleton.1 hb] at e; exact hns (e ▸ ha)⟩) (fun y hy=>by
     rcases List.mem_append.1 hy with hy|hy
     · exact hs y hy
     · rw[List.mem_singleton.1 hy]; exact k3)
    rw[List.length_append,List.length_singleton] at hlt
    refine⟨m - 1,by omega,seen++ [n],by rw[e2,e1],?_,?_,by rw[List.length_append,List.length_singleton]; omega⟩
    · rw[List.nodup_append]
      exact⟨hn,by simp,fun a ha b hb e=>by rw[List.mem_singleton.1 hb] at e; exact hns (e ▸ ha)⟩
    · intro y hy
      rcases List.mem_append.1 hy with hy|hy
      · exact hs y hy
      · rw[List.mem_singleton.1 hy]; exact k3
   have fin:∀ (Q2:Ex→St→Prop) (q:Rt) (b:Bool) (x1 x2:T) (r':List Ch),oW env (M+1) 76 [8,2] 3 1 (sU c t es cc cc (seen++ [n]) (pU c t ks seen) x v x1 x2 q b) (zX env 76 [] 8)= .ok (.norm,sR c t es cc cc cc (seen++ [n]) r')→
    (∀ st2,canon 0 (dX env 76 [] 8).1 st2=sR c t es cc cc cc (seen++ [n]) r'→Q2 .norm st2)→ay env (M+1) 76 [8,2] (0+1+2) (sU c t es cc cc (seen++ [n]) (pU c t ks seen) x v x1 x2 q b) Q2:=fun Q2 q b x1 x2 r' hz hQ=>by
    obtain⟨st2,y1,y2⟩:=af7 hz
    refine fD (e:= .norm) 1 y1 ?_
    exact kW (by kernel_rfl) (hQ st2 y2)
   have htk:=QG c t ks seen
   have hsl:seen.length≤es.length:=by omega
   have hadd:=adt (c:=c) (t:=t) (seen:=seen) k1
   rw[ae0] at hadd
   cases hb:oO (gq c t x) with
   |none=>
    rw[hb] at hadd
    exact fin _ zRt false _ _ (pU c t ks seen) (agt _ _ _ _ _ _ _ _ _ _ _ _ _) fun st2 e2=>kW (by kernel_rfl) (hnext hadd.symm e2)
   |some q=>
    rw[hb] at hadd
    refine fin _ q true _ _ (pU c t ks seen++ [⟨x,q⟩]) ?_ fun st2 e2=>kW (by kernel_rfl) (hnext hadd.symm e2)
    rw[ajg]
    rw[show ∀ K:aj (Ex×St),dB (T.oq 8) [T.agg [i64 x.a,i64 x.n,i64 q.n,i64 q.p.o,T.sl 1 (ints q.p.s),i64 q.p.h,i64 q.p.c,i64 q.f]] K=K from fun K=>rfl,decide_eq_true (by rw[List.length_map]; omega),aI]
    unfold sR
    rw[List.map_append]; rfl
end
section
theorem lY {α:Type} {f:α→T} (h:∀ a b,f a=f b→a=b):∀ {l m:List α},l.map f=m.map f→l=m
 | [],[],_=>rfl
 | [],_::_,e=>by simp at e
 |_::_,[],e=>by simp at e
 |a::l,b::m,e=>by
  simp only[List.map_cons,List.cons.injEq] at e
  rw[h a b e.1,lY h e.2]
theorem eu (a b:Int) (h:i64 a=i64 b):a=b:=by injection h
theorem Za {l m:List Int} (h:ints l=ints m):l=m:=lY eu h
theorem Px.tells (x y:Px) (h:x.t=y.t):x=y:=by
 cases x; cases y
 simp only[Px.t,T.agg.injEq,List.cons.injEq,and_true] at h
 rw[eu _ _ h.1,eu _ _ h.2]
theorem En.tells (x y:En) (h:x.t=y.t):x=y:=by
 obtain⟨⟨a,n⟩,⟨o,s,hh,c⟩⟩:=x
 obtain⟨⟨a',n'⟩,⟨o',s',hh',c'⟩⟩:=y
 simp only[En.t,T.agg.injEq,List.cons.injEq,T.sl.injEq,and_true,true_and] at h
 obtain⟨h1,h2,h3,h4,h5,h6⟩:=h
 rw[eu _ _ h1,eu _ _ h2,eu _ _ h3,Za h4,eu _ _ h5,eu _ _ h6]
theorem Ru.tells (x y:Ru) (h:x.t=y.t):x=y:=by
 obtain⟨m,⟨a,n⟩,v,b,k⟩:=x
 obtain⟨m',⟨a',n'⟩,v',b',k'⟩:=y
 simp only[Ru.t,T.agg.injEq,List.cons.injEq,and_true] at h
 obtain⟨h1,h2,h3,h4,h5,h6⟩:=h
 rw[eu _ _ h1,eu _ _ h2,eu _ _ h3,eu _ _ h4,eu _ _ h5,eu _ _ h6]
theorem Sd.tells (x y:Sd) (h:x.t=y.t):x=y:=by
 obtain⟨a,r,i,o⟩:=x
 obtain⟨a',r',i',o'⟩:=y
 simp only[Sd.t,T.agg.injEq,List.cons.injEq,T.sl.injEq,and_true,true_and] at h
 obtain⟨h1,h2,h3,h4⟩:=h
 rw[eu _ _ h1,eu _ _ h2,lY Ru.tells h3,lY Ru.tells h4]
theorem Cf.tells (x y:Cf) (h:x.t=y.t):x=y:=by
 obtain⟨a,d,k,m,w,s⟩:=x
 obtain⟨a',d',k',m',w',s'⟩:=y
 simp only[Cf.t,T.agg.injEq,List.cons.injEq,T.sl.injEq,and_true,true_and] at h
 obtain⟨h1,h2,h3,h4,h5,h6⟩:=h
 rw[eu _ _ h1,eu _ _ h2,eu _ _ h3,eu _ _ h4,lY Px.tells h5,lY Sd.tells h6]
theorem Z9 {t t':List (List En)} (h:(t.map fun l=>T.sl 6 (l.map En.t))=t'.map fun l=>T.sl 6 (l.map En.t)):t=t':=lY (fun a b e=>by
 simp only[T.sl.injEq,true_and] at e
 exact lY En.tells e) h
end
section
open Go.RowKit Go.Proofs
def aqt:Oper:={dst:=some 79,op:= .call {callee:= .value (.func 102),args:= #[.tmp 78,.func 103],argTypes:= #[40,126]},type:=0,pos:= "decide.go:53",after:= #[{on:=0,ground:= .data}],guard:=none}
theorem ai9 {c:Cf} {t:List (List En)} (h:c.ok) (ht:FH t):∀ x∈iZ c t,x.ok:=fun x hx=>by
 unfold iZ at hx
 rcases List.mem_append.1 hx with hx|hx
 · exact h.w.2 x hx
 · obtain⟨l,h1,h2⟩:=List.mem_flatMap.1 hx
   obtain⟨e,h3,rfl⟩:=List.mem_map.1 h2
   exact((ht.2 l (List.mem_of_mem_take h1)).2 e h3).x
variable [Lv]
theorem abx {c:Cf} {t:List (List En)} {x:Px} {e:Ch} (h:c.ok) (ht:FH t) (hx:x.ok) (he:kK c t x=some e):e.ok:=by
 obtain⟨h1,h2⟩:=jY.1 he
 exact⟨by rw[h1]; exact hx,xR h ht _ (kR h2).1⟩
theorem agj {M:Nat} (hM:60≤M):ak env M 102 [T.sl 8 [],T.fn 103 [] []]= .ok (.au []):=by
 obtain⟨m,rfl⟩:∃ m,M=(m+30)+30:=⟨M - 60,by omega⟩
 exact abv (Dv:=[]) ajb 30 (by kernel_rfl)
def am4 (l:List Ch):PV→List ah→Prop:=fun r H'=>aY env 76 r H'= .ok (.sl 8 (l.map Ch.t))
theorem aaS {l:List Ch} {st:St} (h1:iW env st (dU env 76).results.toList (fun ps=>(.ok (xA ps,st.heap):aj (PV×List ah)))= .ok (.own 0,[.row 46 8 (l.map Ch.t)])):Bo env (dU env 76) (am4 l) st:=⟨_,_,h1,rfl⟩
theorem afx {N:Nat} (he:nO env) (hN:big+80≤N) {c:Cf} {t:List (List En)} (h:c.ok) (ht:FH t) (hr:zH c t):PK env (aK env N) 76 ([c.t,.sl 1 (gZ t)].map .t) [] (am4 (kH c t)):=by
 have hbig:=aQ
 unfold zH at hr
 have hL:(iZ c t).length≤big:=by omega
 refine DI ⟨dU env 76,by kernel_rfl,by kernel_rfl⟩ ?_
 obtain⟨p,a1,a2⟩:=aqj (N:=N) (t:=t) hN h hL
 refine Ik (i:=0) 3 (id:=0) (s:=sA c t [] 0 0) (X:=sX c t p.1 p.2) (c:=gV ((aN env 76 []).getD 3 .skip)) (zLA N c t) (by kernel_rfl) a1 ?_
 obtain⟨p',b1,b2⟩:=aqk hN h ht a2 hL
 refine Ik (i:=4) 1 (id:=2) (X:=sX c t p'.1 p'.2) (c:=gV ((aN env 76 []).getD 5 .skip)) (zLB N c t p.1 p.2) (by kernel_rfl) b1 ?_
 obtain⟨ks,hm,hks⟩:=b2
 have hkl:ks.length≤(iZ c t).length:=GZ ks _ hm.nd fun y hy=>(hks y).1 hy
 obtain⟨st',g1,g2⟩:=Ad (zLR N c t p'.1 p'.2)
 have anf:∀ x∈ks,x.ok:=fun x hx=>ai9 h ht x ((hks x).1 hx)
 refine Ro (i:=6) 2 g1 ?_
 refine xK (i:=6+2) (id:=6) (c:=gV ((aN env 76 []).getD 8 .skip)) (by kernel_rfl) (by kernel_rfl) (abj c t p'.1 p'.2 ks) (m:=p'.1.length) ?_ fun m st hI=>abU hN h ht hm (by omega) anf ?_ m st hI
 · show abj c t p'.1 p'.2 ks p'.1.length (canon 0 (dX env 76 [] 8).1 st')
   rw[g2]
   exact⟨[],rfl,List.nodup_nil,by simp,by simp⟩
 intro seen hn hs hall
 have hlen:=hm.len
 obtain⟨v1,v2⟩:=adu hn hm.nd (fun n hx=>by have:=hs n hx; omega) fun n hx=>hall n (by omega)
 have hv:∀ x,x∈(seen.filterMap fun n=>ks[n]?)↔x∈iZ c t:=fun x=>(v2 x).trans (hks x)
 have hsl:seen.length≤ks.length:=by rw[←hlen]; exact EI _ _ hn hs
 have htl:=QG c t ks seen
 have ank:bZ Ch.ok (pU c t ks seen):=⟨by omega,fun e he=>by
  obtain⟨x,h1,h2⟩:=List.mem_filterMap.1 he
  exact abx h ht (anf x ((v2 x).1 h1)) h2⟩
 by_cases hne:pU c t ks seen= []
 · rw[hne]
   have hz:=zLE N
   rw[aF (agj (by omega))] at hz
   refine fD (e:= .ret) 3 hz ?_
   have:kH c t= []:=(LJ (ys:=[]) hv v1 (by rw[show(seen.filterMap fun n=>ks[n]?).filterMap (kK c t)= [] from hne]) List.Pairwise.nil).symm
   rw[this]
   exact aaS (l:=[]) (by kernel_rfl)
 · generalize hl:pU c t ks seen=l at hne ank htl
   refine yK (by kernel_rfl) (of_decide_eq_true (by kernel_rfl)) ?_
   refine aow 1 (an7 N l) ?_
   refine Ap (o:=aqt) (by kernel_rfl) ?_
   refine acY (l:=0) (e:=46) (k:=8) (xs:=l.map Ch.t) (rest:=[.fn 103 [] []]) rfl rfl (by kernel_rfl) rfl (by simpa using hne) (WL he hne ank) ?_
   rintro ys ⟨m,rfl,m1,m2⟩
   refine aiR (by kernel_rfl) ?_
   have hz:=asK N l m
   rw[an7] at hz
   refine fD (e:= .ret) 2 hz ?_
   have:m=kH c t:=LJ hv v1 (by unfold pU at hl; rw[hl]; exact m1) m2
   rw[this]
   exact aaS (l:=kH c t) (by kernel_rfl)
noncomputable def P6 (ts:List T):aj T:=open Classical in if h:∃ q:Cf×List (List En),ts= [q.1.t,.sl 1 (gZ q.2)]∧q.1.ok∧FH q.2∧zH q.1 q.2 then .ok (.sl 8 ((kH h.choose.1 h.choose.2).map Ch.t)) else .stuck
theorem aaR {c:Cf} {t:List (List En)} (h:c.ok) (ht:FH t) (hr:zH c t):P6 [c.t,.sl 1 (gZ t)]= .ok (.sl 8 ((kH c t).map Ch.t)):=by
 have hx:∃ q:Cf×List (List En),[c.t,.sl 1 (gZ t)]= [q.1.t,.sl 1 (gZ q.2)]∧q.1.ok∧FH q.2∧zH q.1 q.2:=⟨(c,t),rfl,h,ht,hr⟩
 unfold P6
 rw[dif_pos hx]
 have e:=hx.choose_spec.1
 generalize hx.choose=q at e ⊢
 obtain⟨c',t'⟩:=q
 simp only[List.cons.injEq,T.sl.injEq,and_true,true_and] at e
 have e1:=Cf.tells _ _ e.1
 have e2:t=t':=Z9 e.2
 subst e1; subst e2
 rfl
end
section
open Go.RowKit Go.Proofs
theorem BD {α β:Type} (f:α→β):∀ (l:List α) (i:Nat),(l.eraseIdx i).map f=(l.map f).eraseIdx i
 | [],_=>rfl
 |_::_,0=>rfl
 |a::l,i+1=>by rw[List.eraseIdx_cons_succ,List.map_cons,List.map_cons,List.eraseIdx_cons_succ,BD f l i]
structure jy (es:List (T×T×Nat)) (cc:Nat) (ks:List Nat):Prop where
 keys:es.map (·.1)=ks.map fun(j:Nat)=>i64 (j:Int)
 nd:ks.Nodup
 vals:∀ e∈es,∃ n,e.2.1=i64 n
 st:(es.map (·.2.2)).Pairwise (· < ·)
 lt:∀ e∈es,e.2.2 < cc
theorem jy.nil (cc:Nat):jy [] cc []:=⟨rfl,List.nodup_nil,by simp,by simp,by simp⟩
theorem jy.len {es:List (T×T×Nat)} {cc:Nat} {ks:List Nat} (h:jy es cc ks):es.length=ks.length:=by have:=congrArg List.length h.keys; simpa using this
theorem jy.at {es:List (T×T×Nat)} {cc:Nat} {ks:List Nat} (h:jy es cc ks) {i:Nat} (hi:i < ks.length):∃ n b,es[i]? =some (i64 (ks[i]:Int),i64 n,b)∧b < cc:=by
 have hl:=h.len
 have e0:es[i]? =some es[i]:=List.getElem?_eq_getElem (by omega)
 have h1:=congrArg (fun z=>z[i]?) h.keys
 simp only[List.getElem?_map,e0,Option.map_some,List.getElem?_eq_getElem hi,Option.some.injEq] at h1
 obtain⟨n,hn⟩:=h.vals _ (List.mem_of_getElem? e0)
 have hlt:=h.lt _ (List.mem_of_getElem? e0)
 refine⟨n,es[i].2.2,e0.trans (congrArg some ?_),hlt⟩
 generalize es[i]=e at h1 hn
 obtain⟨e1,e2,e3⟩:=e
 simp only at h1 hn
 subst h1; subst hn; rfl
theorem jy.strike {es:List (T×T×Nat)} {cc:Nat} {ks:List Nat} (h:jy es cc ks) (i:Nat):jy (es.eraseIdx i) cc (ks.eraseIdx i) where
 keys:=by rw[BD,h.keys,BD]
 nd:=h.nd.sublist (List.eraseIdx_sublist _ _)
 vals e he:=h.vals e (List.mem_of_mem_eraseIdx he)
 st:=by rw[BD]; exact h.st.sublist (List.eraseIdx_sublist _ _)
 lt e he:=h.lt e (List.mem_of_mem_eraseIdx he)
theorem jy.add {es:List (T×T×Nat)} {cc:Nat} {ks:List Nat} (h:jy es cc ks) {j:Nat} (hj:j∉ks) (n:Int):jy (es++ [(i64 (j:Int),i64 n,cc)]) (cc+1) (ks++ [j]) where
 keys:=by rw[List.map_append,List.map_append,h.keys]; rfl
 nd:=by
  rw[List.nodup_append]
  exact⟨h.nd,by simp,fun a ha b hb e=>by rw[List.mem_singleton.1 hb] at e; exact hj (e ▸ ha)⟩
 vals e he:=by
  rcases List.mem_append.1 he with he|he
  · exact h.vals e he
  · rw[List.mem_singleton.1 he]; exact⟨n,rfl⟩
 st:=by
  rw[List.map_append,List.pairwise_append]
  refine⟨h.st,by simp,fun a ha b hb=>?_⟩
  obtain⟨e,he,rfl⟩:=List.mem_map.1 ha
  have:=h.lt e he
  simp at hb
  omega
 lt e he:=by
  rcases List.mem_append.1 he with he|he
  · have:=h.lt e he; omega
  · rw[List.mem_singleton.1 he]; show cc < cc+1; omega
theorem ae8 (a b:Int):T.dZ [0] [i64 a] [i64 b]=some (a==b):=by simp[T.dZ]
theorem Py {x:Nat}:∀ (es:List (T×T×Nat)) (ks:List Nat) (i:Nat),es.map (·.1)=(ks.map fun(j:Nat)=>i64 (j:Int))→
 jg [0] (i64 (x:Int)) es i=some (match ks.findIdx? (fun y=>decide (x=y)) with|none=>none|some j=>(es[j]?).map fun e=>(i+j,e.2.1,e.2.2))
 | [],[],i,_=>rfl
 | [],_::_,_,h=>by simp at h
 |_::_,[],_,h=>by simp at h
 |e::es,k::ks,i,h=>by
  simp only[List.map_cons,List.cons.injEq] at h
  unfold jg
  rw[h.1,show T.flat [0] (i64 (x:Int))= [i64 (x:Int)] from rfl,show T.flat [0] (i64 (k:Int))= [i64 (k:Int)] from rfl,ae8,List.findIdx?_cons]
  by_cases hx:x=k
  · subst hx; simp
  · rw[decide_eq_false hx,show((x:Int)==(k:Int))=false from beq_eq_false_iff_ne.2 (by omega)]
    simp only[Bool.false_eq_true,if_false]
    rw[Py es ks (i+1) h.2]
    cases ks.findIdx? (fun y=>decide (x=y)) with
    |none=>rfl
    |some j=>
     simp only[Option.map_some,List.getElem?_cons_succ]
     cases es[j]? with
     |none=>rfl
     |some e'=>simp only[Option.map_some]; congr 3; omega
theorem JB (x:Int):jv [0] (i64 x)=true:=rfl
theorem findD {es:List (T×T×Nat)} {cc:Nat} {ks:List Nat} (h:jy es cc ks) (x:Nat):(x∉ks∧jg [0] (i64 (x:Int)) es 0=some none)∨
 ∃ i a b,ks[i]? =some x∧es[i]? =some (i64 (x:Int),i64 a,b)∧jg [0] (i64 (x:Int)) es 0=some (some (i,i64 a,b)):=by
 have hf:=Py (x:=x) es ks 0 h.keys
 cases hk:ks.findIdx? (fun y=>decide (x=y)) with
 |none=>
  rw[hk] at hf
  exact .inl ⟨fun hx=>by have:=List.findIdx?_eq_none_iff.1 hk x hx; simp at this,hf⟩
 |some j=>
  rw[hk] at hf
  obtain⟨hj,XV,_⟩:=List.findIdx?_eq_some_iff_getElem.1 hk
  have hxk:x=ks[j]:=by simpa using XV
  obtain⟨a,b,ha,_⟩:=h.at hj
  rw[←hxk] at ha
  simp only[ha,Option.map_some,Nat.zero_add] at hf
  exact .inr ⟨j,a,b,by rw[List.getElem?_eq_getElem hj,hxk],ha,hf⟩
theorem II {α β:Type} (f:α→β) {l:List α} {i:Nat} {a b:α} (h:l[i]? =some a) (e:f b=f a):(l.set i b).map f=l.map f:=by
 rw[List.map_set,e]
 refine List.ext_getElem? fun k=>?_
 rw[List.getElem?_set]
 split
 · rename_i e; subst e
   rw[List.length_map,if_pos (List.getElem?_eq_some_iff.1 h).1,List.getElem?_map,h]; rfl
 · rfl
theorem jy.put {es:List (T×T×Nat)} {cc:Nat} {ks:List Nat} (h:jy es cc ks) {i:Nat} {k:T} {a b:Nat} {v:T} (he:es[i]? =some (k,v,b)) (n:Int):jy (es.set i (k,i64 n,b)) cc ks where
 keys:=by rw[II _ he (b:=(k,i64 n,b)) rfl]; exact h.keys
 nd:=h.nd
 vals e hm:=by
  rcases List.mem_or_eq_of_mem_set hm with hm|hm
  · exact h.vals e hm
  · rw[hm]; exact⟨n,rfl⟩
 st:=by rw[II _ he (b:=(k,i64 n,b)) rfl]; exact h.st
 lt e hm:=by
  rcases List.mem_or_eq_of_mem_set hm with hm|hm
  · exact h.lt e hm
  · rw[hm]; exact h.lt (k,v,b) (List.mem_of_getElem? he)
def addN (ks:List Nat) (x:Nat):List Nat:=if x∈ks then ks else ks++ [x]
theorem U8 {ks:List Nat} {x y:Nat}:y∈addN ks x↔y∈ks∨y=x:=by
 unfold addN
 split
 · rename_i h
   exact⟨.inl,fun h2=>h2.elim id fun e=>e ▸ h⟩
 · simp
def RQ {β:Type} (x:Nat) (es:List (T×T×Nat)) (cc:Nat) (G:List (T×T×Nat)→Nat→aj β):aj β:=
 chk (jv [0] (i64 (x:Int))) (eY [0] (i64 (x:Int)) es (chk (jv [0] (i64 (x:Int))) (eY [0] (i64 (x:Int)) es (G (es++ [(i64 (x:Int),i64 1,cc)]) (cc+1)) fun i _ b=>G (es.set i (i64 (x:Int),i64 1,b)) cc))
  fun _ v _=>iT IntKind.i64 v fun a=>chk (jv [0] (i64 (x:Int))) (eY [0] (i64 (x:Int)) es (G (es++ [(i64 (x:Int),i64 (IntKind.i64.wrap (a+1)),cc)]) (cc+1)) fun i _ b=>G (es.set i (i64 (x:Int),i64 (IntKind.i64.wrap (a+1)),b)) cc))
theorem abu {β:Type} {es:List (T×T×Nat)} {cc:Nat} {ks:List Nat} (h:jy es cc ks) {x:Nat} (hx:x∉ks) (G:List (T×T×Nat)→Nat→aj β):RQ x es cc G=G (es++ [(i64 (x:Int),i64 1,cc)]) (cc+1):=by
 rcases findD h x with ⟨_,hf⟩|⟨i,_,_,hi,_,_⟩
 · unfold RQ eY
   rw[JB,aI,hf]
   simp only[aI]
 · exact absurd (List.mem_of_getElem? hi) hx
theorem UE {es:List (T×T×Nat)} {cc:Nat} {ks:List Nat} (h:jy es cc ks) (x:Nat):∃ es' cc',jy es' cc' (addN ks x)∧∀ {β:Type} (G:List (T×T×Nat)→Nat→aj β),RQ x es cc G=G es' cc':=by
 unfold addN
 rcases findD h x with ⟨hx,_⟩|⟨i,a,b,hi,he,hf⟩
 · rw[if_neg hx]
   exact⟨_,_,h.add hx 1,fun G=>abu h hx G⟩
 · rw[if_pos (List.mem_of_getElem? hi)]
   refine⟨_,_,h.put (a:=0) he (IntKind.i64.wrap (a+1)),fun G=>?_⟩
   unfold RQ eY
   rw[JB,aI,hf]
   simp only[aI,bW]
def Ones (es:List (T×T×Nat)):Prop:=∀ e∈es,e.2.1=i64 1
theorem Ones.add {es:List (T×T×Nat)} (h:Ones es) (k:T) (c:Nat):Ones (es++ [(k,i64 1,c)]):=fun e he=>by
 rcases List.mem_append.1 he with he|he
 · exact h e he
 · rw[List.mem_singleton.1 he]
theorem Ey {β:Type} {es:List (T×T×Nat)} {cc:Nat} {ks:List Nat} (h:jy es cc ks) (ho:Ones es) (x:Nat) (A:aj β) (B:Nat→T→Nat→aj β):(x∉ks∧eY [0] (i64 (x:Int)) es A B=A)∨(x∈ks∧∃ i b,eY [0] (i64 (x:Int)) es A B=B i (i64 1) b):=by
 unfold eY
 rcases findD h x with ⟨hx,hf⟩|⟨i,a,b,hi,he,hf⟩
 · rw[hf]; exact .inl ⟨hx,rfl⟩
 · rw[hf]
   have:=ho _ (List.mem_of_getElem? he)
   simp only at this
   rw[this]
   exact .inr ⟨List.mem_of_getElem? hi,i,b,rfl⟩
theorem MR {ks:List Nat} (hn:ks.Nodup) {i x y:Nat} (hi:ks[i]? =some x):y∈ks.eraseIdx i↔y∈ks∧y≠x:=by
 rw[List.mem_eraseIdx_iff_getElem]
 obtain⟨hl,hx⟩:=List.getElem?_eq_some_iff.1 hi
 constructor
 · rintro⟨k,hk,hne,rfl⟩
   refine⟨List.getElem_mem _,fun e=>hne ?_⟩
   rw[←hx] at e
   exact(List.getElem_inj hn).1 e
 · rintro⟨hy,hne⟩
   obtain⟨k,hk,rfl⟩:=List.getElem_of_mem hy
   exact⟨k,hk,fun e=>hne (by subst e; exact hx),rfl⟩
theorem jy.mem {es:List (T×T×Nat)} {cc:Nat} {ks:List Nat} (h:jy es cc ks) {e:T×T×Nat} (he:e∈es):∃ (x:Nat) (n:Int),x∈ks∧e=(i64 (x:Int),i64 n,e.2.2)∧Yh es e.2.2=some e:=by
 obtain⟨i,hi,hie⟩:=List.getElem_of_mem he
 have hl:=h.len
 obtain⟨n,b,hv,_⟩:=h.at (show i < ks.length by omega)
 rw[List.getElem?_eq_getElem hi,hie] at hv
 simp only[Option.some.injEq] at hv
 refine⟨ks[i],n,List.getElem_mem _,by rw[hv],?_⟩
 unfold Yh
 rw[List.find?_eq_some_iff_getElem]
 refine⟨by simp,i,hi,hie,fun j hj=>?_⟩
 have:=List.pairwise_iff_getElem.1 h.st j i (by rw[List.length_map]; omega) (by rw[List.length_map]; omega) hj
 simp only[List.getElem_map] at this
 rw[hie] at this
 simp; omega
theorem BF:∀ (n:Nat) (l:List Nat),l.Nodup→(∀ x∈l,x < n)→l.length≤n
 |0,[],_,_=>Nat.le_refl _
 |0,x::l,_,h=>absurd (h x List.mem_cons_self) (Nat.not_lt_zero _)
 |n+1,l,hn,h=>by
  by_cases hm:n∈l
  · have h1:=BF n (l.erase n) (hn.erase n) fun x hx=>by
     have h2:=h x (List.mem_of_mem_erase hx)
     have h3:x≠n:=fun e=>by rw[e] at hx; exact(List.Nodup.not_mem_erase hn) hx
     omega
    rw[List.length_erase_of_mem hm] at h1
    omega
  · exact Nat.le_succ_of_le (BF n l hn fun x hx=>by
     have h2:=h x hx
     have h3:x≠n:=fun e=>hm (e ▸ hx)
     omega)
def MV (gs ks:List Nat) (x:Nat):List Nat:=if x∈gs then ks else addN ks x
theorem Uo {gs:List Nat} {y:Nat}:∀ (l ks:List Nat),y∈l.foldl (MV gs) ks↔y∈ks∨(y∈l∧y∉gs)
 | [],ks=>by simp
 |x::l,ks=>by
  rw[List.foldl_cons,Uo l]
  unfold MV
  by_cases hx:x∈gs
  · rw[if_pos hx,List.mem_cons]
    constructor
    · rintro(h|⟨h,h2⟩)
      · exact .inl h
      · exact .inr ⟨.inr h,h2⟩
    · rintro(h|⟨rfl|h,h2⟩)
      · exact .inl h
      · exact absurd hx h2
      · exact .inr ⟨h,h2⟩
  · rw[if_neg hx,U8,List.mem_cons]
    constructor
    · rintro((h|rfl)|⟨h,h2⟩)
      · exact .inl h
      · exact .inr ⟨.inl rfl,hx⟩
      · exact .inr ⟨.inr h,h2⟩
    · rintro(h|⟨rfl|h,h2⟩)
      · exact .inl (.inl h)
      · exact .inl (.inr rfl)
      · exact .inr ⟨h,h2⟩
end
section
open Go.RowKit Go.Proofs
variable [Lv]
abbrev eU:Type:=T×T×Nat
def sRa (t:List Cf) (i:Int):St:=⟨slots 70 [(0,.t (.sl 6 (t.map Cf.t))),(13,.t (i64 (t.map Cf.t).length)),(14,.t (i64 i))],[]⟩
def YL (t:List Cf) (i:Int) (b:Bool):St:=⟨slots 70 [(0,.t (.sl 6 (t.map Cf.t))),(13,.t (i64 (t.map Cf.t).length)),(14,.t (i64 i)),(15,.t (.bool b))],[]⟩
def sRb (t:List Cf) (i:Int) (we:List eU) (wc:Nat) (ge:List eU) (gc:Nat) (xs:List T) (n k:Int):St:=⟨slots 70 [(0,.t (.sl 6 (t.map Cf.t))),(4,.t (i64 i)),(5,.mp 0),(6,.mp 1),(13,.t (i64 (t.map Cf.t).length)),(14,.t (i64 i)),(21,.t (.sl 1 xs)),(22,.t (i64 n)),(23,.t (i64 k))],[.map we wc,.map ge gc]⟩
def wG (t:List Cf) (i:Int) (we:List eU) (wc:Nat) (ge:List eU) (gc:Nat):St:=⟨slots 70 [(0,.t (.sl 6 (t.map Cf.t))),(4,.t (i64 i)),(5,.mp 0),(6,.mp 1),(13,.t (i64 (t.map Cf.t).length)),(14,.t (i64 i))],[.map we wc,.map ge gc]⟩
def sRx (t:List Cf) (i:Int) (ge:List eU) (gc:Nat):St:=⟨slots 70 [(0,.t (.sl 6 (t.map Cf.t))),(4,.t (i64 i)),(6,.mp 0),(13,.t (i64 (t.map Cf.t).length)),(14,.t (i64 i))],[.map ge gc]⟩
def sRr (t:List Cf) (i:Int) (we:List eU) (wc:Nat) (ge:List eU) (gc since last:Nat) (seen:List Nat):St:=⟨slots 70 [(0,.t (.sl 6 (t.map Cf.t))),(4,.t (i64 i)),(5,.mp 0),(6,.mp 1),(13,.t (i64 (t.map Cf.t).length)),(14,.t (i64 i)),(36,.ptr 2 0)],[.map we wc,.map ge gc,.iter 0 since seen last]⟩
def agV (t:List Cf) (i:Int) (we:List eU) (wc:Nat) (ge:List eU) (gc:Nat) (n:Int) (b:Bool):St:=⟨slots 70 [(0,.t (.sl 6 (t.map Cf.t))),(4,.t (i64 i)),(5,.mp 0),(6,.mp 1),(13,.t (i64 (t.map Cf.t).length)),(14,.t (i64 i)),(32,.mp 0),(33,.t (i64 n)),(34,.t (.bool b))],[.map we wc,.map ge gc]⟩
def aqp (st:St) (d l m since cc:Nat) (seen:List Nat) (e:T×T×Nat):St:=⟨dK st.tmps (some d) (.t (.au [.bool true,e.1,e.2.1])),st.heap.set l (.iter m since (seen++ [e.2.2]) cc)⟩
def sRe (t:List Cf) (i:Int) (we:List eU) (wc:Nat) (ge:List eU) (gc:Nat) (j v:Int) (n:Nat):St:=⟨slots 70 [(0,.t (.sl 6 (t.map Cf.t))),(4,.t (i64 i)),(5,.mp 0),(6,.mp 1),(13,.t (i64 (t.map Cf.t).length)),(14,.t (i64 i)),(36,.ptr 2 0),(37,.t (.au [.bool true,i64 j,i64 v])),(38,.t (.bool true)),(39,.t (.au [i64 j,i64 v]))],[.map we wc,.map ge gc,.iter 0 wc [n] wc]⟩
def sRd (t:List Cf) (i:Int) (we:List eU) (wc:Nat) (ge:List eU) (gc:Nat) (j v:Int) (n:Nat):St:=⟨slots 70 [(0,.t (.sl 6 (t.map Cf.t))),(4,.t (i64 i)),(5,.mp 0),(6,.mp 1),(9,.t (i64 j)),(13,.t (i64 (t.map Cf.t).length)),(14,.t (i64 i)),(36,.ptr 2 0),(37,.t (.au [.bool true,i64 j,i64 v])),(38,.t (.bool true)),(39,.t (.au [i64 j,i64 v])),(40,.t (i64 j))],[.map we wc,.map ge gc,.iter 0 wc [n] wc]⟩
def asw (t:List Cf) (i:Int) (we:List eU) (wc:Nat) (ge:List eU) (gc:Nat) (j:Int) (o:ah):St:=⟨slots 70 [(0,.t (.sl 6 (t.map Cf.t))),(4,.t (i64 i)),(5,.mp 0),(6,.mp 1),(9,.t (i64 j)),(13,.t (i64 (t.map Cf.t).length)),(14,.t (i64 i))],[.map we wc,.map ge gc,o]⟩
def sRg (t:List Cf) (i:Int) (we:List eU) (wc:Nat) (ge:List eU) (gc:Nat) (xs:List T) (n k:Int):St:=⟨slots 70 [(0,.t (.sl 6 (t.map Cf.t))),(4,.t (i64 i)),(5,.mp 0),(6,.mp 1),(13,.t (i64 (t.map Cf.t).length)),(14,.t (i64 i)),(49,.t (.sl 1 xs)),(50,.t (i64 n)),(51,.t (i64 k))],[.map we wc,.map ge gc]⟩
theorem adB (N:Nat) (t:List Cf) (i:Int):dO env N 60 [2] 0 2 (sRa t i)=bif decide (i < (↑(List.map Cf.t t).length:Int)) then aj.ok (Ex.norm,YL t i (decide (i < (↑(List.map Cf.t t).length:Int)))) else aj.ok (Ex.exit 0,YL t i (decide (i < (↑(List.map Cf.t t).length:Int)))):=by kernel_rfl
theorem QJ (N:Nat) (t:List Cf) (i:Int) (we:List eU) (wc:Nat) (ge:List eU) (gc:Nat) (xs:List T) (n k:Int):nS env N 60 [2,2] 4 (sRb t i we wc ge gc xs n k)=bif decide (k < n) then bV xs k fun e=>chk (jv [0] e) (eY [0] e we (chk (jv [0] e) (eY [0] e we (aj.ok (Ex.norm,sRb t i (we++ [(e,i64 1,wc)]) (wc+1) ge gc xs n (IntKind.i64.wrap (k+1)))) fun jO x b=>aj.ok (Ex.norm,sRb t i (we.set jO (e,i64 1,b)) wc ge gc xs n (IntKind.i64.wrap (k+1))))) fun x v x_1=>iT IntKind.i64 v fun a=>chk (jv [0] e) (eY [0] e we (aj.ok (Ex.norm,sRb t i (we++ [(e,i64 (IntKind.i64.wrap (a+1)),wc)]) (wc+1) ge gc xs n (IntKind.i64.wrap (k+1)))) fun jO x b=>aj.ok (Ex.norm,sRb t i (we.set jO (e,i64 (IntKind.i64.wrap (a+1)),b)) wc ge gc xs n (IntKind.i64.wrap (k+1))))) else aj.ok (Ex.exit 2,wG t i we wc ge gc):=by kernel_rfl
theorem OI (N:Nat) (t:List Cf) (i:Int) (we:List eU) (wc:Nat) (ge:List eU) (gc:Nat):dO env N 60 [2,2,5] 0 2 (wG t i we wc ge gc)=chk (decide (we.length≤140737488355328)) (bif decide ((↑we.length:Int) > 0) then aj.ok (Ex.norm,agV t i we wc ge gc (↑we.length:Int) (decide ((↑we.length:Int) > 0))) else aj.ok (Ex.exit 4,agV t i we wc ge gc (↑we.length:Int) (decide ((↑we.length:Int) > 0)))):=by kernel_rfl
theorem zRX (N:Nat) (t:List Cf) (i:Int) (ge:List eU) (gc:Nat):(oW env N 60 [2,2] 6 2 (sRx t i ge gc) (Je env N 60 [] 2 1 3 1))=chk (jv [0] (i64 i)) (eY [0] (i64 i) ge (aj.ok (Ex.norm,sRa t (IntKind.i64.wrap (i+1)))) fun x v x_1=>iT IntKind.i64 v fun a=>bif decide (a > 0) then aj.ok (Ex.ret,{tmps:=slots 70 [(2,PV.t (i64 i)),(3,PV.t (T.bool true))],heap:=[]}) else aj.ok (Ex.norm,sRa t (IntKind.i64.wrap (i+1)))):=by kernel_rfl
theorem zRR (N:Nat) (t:List Cf) (i:Int) (we:List eU) (wc:Nat) (ge:List eU) (gc:Nat) (n:Int) (b:Bool):(Es env 60 [2,2,5,2] 1 (acT env N 60 [2,2,5,2] 0 1 (agV t i we wc ge gc n b)))=aj.ok (Ex.norm,sRr t i we wc ge gc wc wc []):=by kernel_rfl
theorem zRN (N:Nat) (t:List Cf) (i:Int) (we:List eU) (wc:Nat) (ge:List eU) (gc:Nat) (j v:Int) (n:Nat):(YA env N 60 [2,2,5,2,1] 0 1 1 (aqp (sRr t i we wc ge gc wc wc []) 37 2 0 wc wc [] (i64 j,i64 v,n)))=aj.ok (Ex.norm,{tmps:=slots 70 [(0,PV.t (T.sl 6 (List.map Cf.t t))),(4,PV.t (i64 i)),(5,PV.mp 0),(6,PV.mp 1),(13,PV.t (i64 (↑(List.map Cf.t t).length:Int))),(14,PV.t (i64 i)),(36,PV.ptr 2 0),(37,PV.t (T.au [T.bool true,i64 j,i64 v])),(38,PV.t (T.bool true))],heap:=[ah.map we wc,ah.map ge gc,ah.iter 0 wc [n] wc]}):=by kernel_rfl
theorem zRE (N:Nat) (t:List Cf) (i:Int) (we:List eU) (wc:Nat) (ge:List eU) (gc:Nat) (j v:Int) (n:Nat):(Df env N 60 [2,2,5,2,1,2] 0 1 0 (sRe t i we wc ge gc j v n) fun e s=>(.ok (e,s):aj (Ex×St)))=aj.ok (Ex.norm,sRd t i we wc ge gc j v n):=by kernel_rfl
theorem zRD (N:Nat) (t:List Cf) (i:Int) (we:List eU) (wc:Nat) (ge:List eU) (gc:Nat) (j v:Int) (n:Nat):(oW env N 60 [2,2,5,2,1,2] 1 2 (sRd t i we wc ge gc j v n) (fun e s=>e.k (.ok s) (fun _=> .stuck) .stuck))=chk (jv [0] (i64 j)) (eY [0] (i64 j) we (chk (jv [0] (i64 j)) (eY [0] (i64 j) ge (chk (jv [0] (i64 j)) (eY [0] (i64 j) ge (aj.ok {tmps:=slots 70 [(0,PV.t (T.sl 6 (List.map Cf.t t))),(4,PV.t (i64 i)),(5,PV.mp 0),(6,PV.mp 1),(9,PV.t (i64 j)),(13,PV.t (i64 (↑(List.map Cf.t t).length:Int))),(14,PV.t (i64 i)),(36,PV.ptr 2 0),(37,PV.t (T.au [T.bool true,i64 j,i64 v])),(38,PV.t (T.bool true)),(39,PV.t (T.au [i64 j,i64 v])),(40,PV.t (i64 j)),(41,PV.mp 0),(42,PV.t (i64 j)),(43,PV.mp 1),(44,PV.t (i64 j)),(45,PV.t (i64 0)),(46,PV.t (i64 1))],heap:=[ah.map we wc,ah.map (ge++ [(i64 j,i64 1,gc)]) (gc+1),ah.iter 0 wc [n] wc]}) fun jO x b=>aj.ok {tmps:=slots 70 [(0,PV.t (T.sl 6 (List.map Cf.t t))),(4,PV.t (i64 i)),(5,PV.mp 0),(6,PV.mp 1),(9,PV.t (i64 j)),(13,PV.t (i64 (↑(List.map Cf.t t).length:Int))),(14,PV.t (i64 i)),(36,PV.ptr 2 0),(37,PV.t (T.au [T.bool true,i64 j,i64 v])),(38,PV.t (T.bool true)),(39,PV.t (T.au [i64 j,i64 v])),(40,PV.t (i64 j)),(41,PV.mp 0),(42,PV.t (i64 j)),(43,PV.mp 1),(44,PV.t (i64 j)),(45,PV.t (i64 0)),(46,PV.t (i64 1))],heap:=[ah.map we wc,ah.map (ge.set jO (i64 j,i64 1,b)) gc,ah.iter 0 wc [n] wc]})) fun x v_1 x_1=>iT IntKind.i64 v_1 fun a=>chk (jv [0] (i64 j)) (eY [0] (i64 j) ge (aj.ok {tmps:=slots 70 [(0,PV.t (T.sl 6 (List.map Cf.t t))),(4,PV.t (i64 i)),(5,PV.mp 0),(6,PV.mp 1),(9,PV.t (i64 j)),(13,PV.t (i64 (↑(List.map Cf.t t).length:Int))),(14,PV.t (i64 i)),(36,PV.ptr 2 0),(37,PV.t (T.au [T.bool true,i64 j,i64 v])),(38,PV.t (T.bool true)),(39,PV.t (T.au [i64 j,i64 v])),(40,PV.t (i64 j)),(41,PV.mp 0),(42,PV.t (i64 j)),(43,PV.mp 1),(44,PV.t (i64 j)),(45,PV.t v_1),(46,PV.t (i64 (IntKind.i64.wrap (a+1))))],heap:=[ah.map we wc,ah.map (ge++ [(i64 j,i64 (IntKind.i64.wrap (a+1)),gc)]) (gc+1),ah.iter 0 wc [n] wc]}) fun jO x b=>aj.ok {tmps:=slots 70 [(0,PV.t (T.sl 6 (List.map Cf.t t))),(4,PV.t (i64 i)),(5,PV.mp 0),(6,PV.mp 1),(9,PV.t (i64 j)),(13,PV.t (i64 (↑(List.map Cf.t t).length:Int))),(14,PV.t (i64 i)),(36,PV.ptr 2 0),(37,PV.t (T.au [T.bool true,i64 j,i64 v])),(38,PV.t (T.bool true)),(39,PV.t (T.au [i64 j,i64 v])),(40,PV.t (i64 j)),(41,PV.mp 0),(42,PV.t (i64 j)),(43,PV.mp 1),(44,PV.t (i64 j)),(45,PV.t v_1),(46,PV.t (i64 (IntKind.i64.wrap (a+1))))],heap:=[ah.map we wc,ah.map (ge.set jO (i64 j,i64 (IntKind.i64.wrap (a+1)),b)) gc,ah.iter 0 wc [n] wc]}))) fun jO x x_1=>chk (jv [0] (i64 j)) (eY [0] (i64 j) ge (chk (jv [0] (i64 j)) (eY [0] (i64 j) ge (aj.ok {tmps:=slots 70 [(0,PV.t (T.sl 6 (List.map Cf.t t))),(4,PV.t (i64 i)),(5,PV.mp 0),(6,PV.mp 1),(9,PV.t (i64 j)),(13,PV.t (i64 (↑(List.map Cf.t t).length:Int))),(14,PV.t (i64 i)),(36,PV.ptr 2 0),(37,PV.t (T.au [T.bool true,i64 j,i64 v])),(38,PV.t (T.bool true)),(39,PV.t (T.au [i64 j,i64 v])),(40,PV.t (i64 j)),(41,PV.mp 0),(42,PV.t (i64 j)),(43,PV.mp 1),(44,PV.t (i64 j)),(45,PV.t (i64 0)),(46,PV.t (i64 1))],heap:=[ah.map (we.eraseIdx jO) wc,ah.map (ge++ [(i64 j,i64 1,gc)]) (gc+1),ah.iter 0 wc [n] wc]}) fun i_2 x b=>aj.ok {tmps:=slots 70 [(0,PV.t (T.sl 6 (List.map Cf.t t))),(4,PV.t (i64 i)),(5,PV.mp 0),(6,PV.mp 1),(9,PV.t (i64 j)),(13,PV.t (i64 (↑(List.map Cf.t t).length:Int))),(14,PV.t (i64 i)),(36,PV.ptr 2 0),(37,PV.t (T.au [T.bool true,i64 j,i64 v])),(38,PV.t (T.bool true)),(39,PV.t (T.au [i64 j,i64 v])),(40,PV.t (i64 j)),(41,PV.mp 0),(42,PV.t (i64 j)),(43,PV.mp 1),(44,PV.t (i64 j)),(45,PV.t (i64 0)),(46,PV.t (i64 1))],heap:=[ah.map (we.eraseIdx jO) wc,ah.map (ge.set i_2 (i64 j,i64 1,b)) gc,ah.iter 0 wc [n] wc]})) fun x v_1 x_2=>iT IntKind.i64 v_1 fun a=>chk (jv [0] (i64 j)) (eY [0] (i64 j) ge (aj.ok {tmps:=slots 70 [(0,PV.t (T.sl 6 (List.map Cf.t t))),(4,PV.t (i64 i)),(5,PV.mp 0),(6,PV.mp 1),(9,PV.t (i64 j)),(13,PV.t (i64 (↑(List.map Cf.t t).length:Int))),(14,PV.t (i64 i)),(36,PV.ptr 2 0),(37,PV.t (T.au [T.bool true,i64 j,i64 v])),(38,PV.t (T.bool true)),(39,PV.t (T.au [i64 j,i64 v])),(40,PV.t (i64 j)),(41,PV.mp 0),(42,PV.t (i64 j)),(43,PV.mp 1),(44,PV.t (i64 j)),(45,PV.t v_1),(46,PV.t (i64 (IntKind.i64.wrap (a+1))))],heap:=[ah.map (we.eraseIdx jO) wc,ah.map (ge++ [(i64 j,i64 (IntKind.i64.wrap (a+1)),gc)]) (gc+1),ah.iter 0 wc [n] wc]}) fun i_2 x b=>aj.ok {tmps:=slots 70 [(0,PV.t (T.sl 6 (List.map Cf.t t))),(4,PV.t (i64 i)),(5,PV.mp 0),(6,PV.mp 1),(9,PV.t (i64 j)),(13,PV.t (i64 (↑(List.map Cf.t t).length:Int))),(14,PV.t (i64 i)),(36,PV.ptr 2 0),(37,PV.t (T.au [T.bool true,i64 j,i64 v])),(38,PV.t (T.bool true)),(39,PV.t (T.au [i64 j,i64 v])),(40,PV.t (i64 j)),(41,PV.mp 0),(42,PV.t (i64 j)),(43,PV.mp 1),(44,PV.t (i64 j)),(45,PV.t v_1),(46,PV.t (i64 (IntKind.i64.wrap (a+1))))],heap:=[ah.map (we.eraseIdx jO) wc,ah.map (ge.set i_2 (i64 j,i64 (IntKind.i64.wrap (a+1)),b)) gc,ah.iter 0 wc [n] wc]}))):=by kernel_rfl
end
section
open Go.RowKit Go.Proofs
variable [Lv]
def agU (t:List Cf) (i:Int) (we:List eU) (wc:Nat) (ge:List eU) (gc:Nat) (xs:List T) (n k:Int) (b:Bool):St:=⟨slots 70 [(0,.t (.sl 6 (t.map Cf.t))),(4,.t (i64 i)),(5,.mp 0),(6,.mp 1),(13,.t (i64 (t.map Cf.t).length)),(14,.t (i64 i)),(49,.t (.sl 1 xs)),(50,.t (i64 n)),(51,.t (i64 k)),(52,.t (.bool b))],[.map we wc,.map ge gc]⟩
def sRh (t:List Cf) (i:Int) (we:List eU) (wc:Nat) (ge:List eU) (gc:Nat) (xs:List T) (n k m:Int) (b:Bool):St:=⟨slots 70 [(0,.t (.sl 6 (t.map Cf.t))),(4,.t (i64 i)),(5,.mp 0),(6,.mp 1),(11,.t (i64 m)),(13,.t (i64 (t.map Cf.t).length)),(14,.t (i64 i)),(49,.t (.sl 1 xs)),(50,.t (i64 n)),(51,.t (i64 k)),(52,.t (.bool b)),(53,.rp 1 (i64 m) 0),(54,.t (i64 m))],[.map we wc,.map ge gc]⟩
def Qr (t:List Cf) (i:Int) (we:List eU) (wc:Nat) (ge:List eU) (gc:Nat) (xs:List T) (n k m g:Int) (b b2:Bool):St:=⟨slots 70 [(0,.t (.sl 6 (t.map Cf.t))),(4,.t (i64 i)),(5,.mp 0),(6,.mp 1),(11,.t (i64 m)),(13,.t (i64 (t.map Cf.t).length)),(14,.t (i64 i)),(49,.t (.sl 1 xs)),(50,.t (i64 n)),(51,.t (i64 k)),(52,.t (.bool b)),(53,.rp 1 (i64 m) 0),(54,.t (i64 m)),(55,.mp 1),(56,.t (i64 m)),(57,.t (i64 g)),(58,.t (.bool b2))],[.map we wc,.map ge gc]⟩
theorem tV (N:Nat) (t:List Cf) (i:Int) (we:List eU) (wc:Nat) (ge:List eU) (gc:Nat) (xs:List T) (n k:Int):dO env N 60 [2,2,5,2,1,2,4] 0 2 (sRg t i we wc ge gc xs n k)=bif decide (k < n) then aj.ok (Ex.norm,agU t i we wc ge gc xs n k (decide (k < n))) else aj.ok (Ex.exit 8,agU t i we wc ge gc xs n k (decide (k < n))):=by kernel_rfl
theorem yZ (N:Nat) (t:List Cf) (i:Int) (we:List eU) (wc:Nat) (ge:List eU) (gc:Nat) (xs:List T) (n k:Int) (b:Bool):dO env N 60 [2,2,5,2,1,2,4,2] 0 1 (agU t i we wc ge gc xs n k b)=bV xs k fun e=>aj.ok (Ex.norm,{tmps:=slots 70 [(0,PV.t (T.sl 6 (List.map Cf.t t))),(4,PV.t (i64 i)),(5,PV.mp 0),(6,PV.mp 1),(11,PV.t e),(13,PV.t (i64 (↑(List.map Cf.t t).length:Int))),(14,PV.t (i64 i)),(49,PV.t (T.sl 1 xs)),(50,PV.t (i64 n)),(51,PV.t (i64 k)),(52,PV.t (T.bool b)),(53,PV.rp 1 e 0),(54,PV.t e)],heap:=[ah.map we wc,ah.map ge gc]}):=by kernel_rfl
theorem y5 (N:Nat) (t:List Cf) (i:Int) (we:List eU) (wc:Nat) (ge:List eU) (gc:Nat) (xs:List T) (n k m:Int) (b:Bool):dO env N 60 [2,2,5,2,1,2,4,2] 1 1 (sRh t i we wc ge gc xs n k m b)=chk (jv [0] (i64 m)) (eY [0] (i64 m) ge (aj.ok (Ex.norm,Qr t i we wc ge gc xs n k m 0 b true)) fun x v x_1=>iT IntKind.i64 v fun a=>aj.ok (Ex.norm,{tmps:=slots 70 [(0,PV.t (T.sl 6 (List.map Cf.t t))),(4,PV.t (i64 i)),(5,PV.mp 0),(6,PV.mp 1),(11,PV.t (i64 m)),(13,PV.t (i64 (↑(List.map Cf.t t).length:Int))),(14,PV.t (i64 i)),(49,PV.t (T.sl 1 xs)),(50,PV.t (i64 n)),(51,PV.t (i64 k)),(52,PV.t (T.bool b)),(53,PV.rp 1 (i64 m) 0),(54,PV.t (i64 m)),(55,PV.mp 1),(56,PV.t (i64 m)),(57,PV.t v),(58,PV.t (T.bool (a==0)))],heap:=[ah.map we wc,ah.map ge gc]})):=by kernel_rfl
theorem asN (N:Nat) (t:List Cf) (i:Int) (we:List eU) (wc:Nat) (ge:List eU) (gc:Nat) (xs:List T) (n k m g:Int) (b:Bool):(oW env N 60 [2,2,5,2,1,2,4,2] 2 1 (Qr t i we wc ge gc xs n k m g b false) (Je env N 60 [2,2,5,2,1,2] 4 9 3 1))=aj.ok (Ex.norm,{tmps:=slots 70 [(0,PV.t (T.sl 6 (List.map Cf.t t))),(4,PV.t (i64 i)),(5,PV.mp 0),(6,PV.mp 1),(13,PV.t (i64 (↑(List.map Cf.t t).length:Int))),(14,PV.t (i64 i)),(49,PV.t (T.sl 1 xs)),(50,PV.t (i64 n)),(51,PV.t (i64 (IntKind.i64.wrap (k+1))))],heap:=[ah.map we wc,ah.map ge gc]}):=by kernel_rfl
theorem asO (N:Nat) (t:List Cf) (i:Int) (we:List eU) (wc:Nat) (ge:List eU) (gc:Nat) (xs:List T) (n k m g:Int) (b:Bool):(oW env N 60 [2,2,5,2,1,2,4,2] 2 1 (Qr t i we wc ge gc xs n k m g b true) (Je env N 60 [2,2,5,2,1,2] 4 9 3 1))=chk (jv [0] (i64 m)) (eY [0] (i64 m) we (chk (jv [0] (i64 m)) (eY [0] (i64 m) we (aj.ok (Ex.norm,{tmps:=slots 70 [(0,PV.t (T.sl 6 (List.map Cf.t t))),(4,PV.t (i64 i)),(5,PV.mp 0),(6,PV.mp 1),(13,PV.t (i64 (↑(List.map Cf.t t).length:Int))),(14,PV.t (i64 i)),(49,PV.t (T.sl 1 xs)),(50,PV.t (i64 n)),(51,PV.t (i64 (IntKind.i64.wrap (k+1))))],heap:=[ah.map (we++ [(i64 m,i64 1,wc)]) (wc+1),ah.map ge gc]})) fun jO x b=>aj.ok (Ex.norm,{tmps:=slots 70 [(0,PV.t (T.sl 6 (List.map Cf.t t))),(4,PV.t (i64 i)),(5,PV.mp 0),(6,PV.mp 1),(13,PV.t (i64 (↑(List.map Cf.t t).length:Int))),(14,PV.t (i64 i)),(49,PV.t (T.sl 1 xs)),(50,PV.t (i64 n)),(51,PV.t (i64 (IntKind.i64.wrap (k+1))))],heap:=[ah.map (we.set jO (i64 m,i64 1,b)) wc,ah.map ge gc]}))) fun x v x_1=>iT IntKind.i64 v fun a=>chk (jv [0] (i64 m)) (eY [0] (i64 m) we (aj.ok (Ex.norm,{tmps:=slots 70 [(0,PV.t (T.sl 6 (List.map Cf.t t))),(4,PV.t (i64 i)),(5,PV.mp 0),(6,PV.mp 1),(13,PV.t (i64 (↑(List.map Cf.t t).length:Int))),(14,PV.t (i64 i)),(49,PV.t (T.sl 1 xs)),(50,PV.t (i64 n)),(51,PV.t (i64 (IntKind.i64.wrap (k+1))))],heap:=[ah.map (we++ [(i64 m,i64 (IntKind.i64.wrap (a+1)),wc)]) (wc+1),ah.map ge gc]})) fun jO x b=>aj.ok (Ex.norm,{tmps:=slots 70 [(0,PV.t (T.sl 6 (List.map Cf.t t))),(4,PV.t (i64 i)),(5,PV.mp 0),(6,PV.mp 1),(13,PV.t (i64 (↑(List.map Cf.t t).length:Int))),(14,PV.t (i64 i)),(49,PV.t (T.sl 1 xs)),(50,PV.t (i64 n)),(51,PV.t (i64 (IntKind.i64.wrap (k+1))))],heap:=[ah.map (we.set jO (i64 m,i64 (IntKind.i64.wrap (a+1)),b)) wc,ah.map ge gc]}))):=by kernel_rfl
end
section
open Go.RowKit Go.Proofs
variable [Lv]
def anR (t:List Cf) (i:Int) (we:List eU) (wc:Nat) (ge:List eU) (gc:Nat) (j v:Int) (n wd:Nat):St:=⟨slots 70 [(0,.t (.sl 6 (t.map Cf.t))),(4,.t (i64 i)),(5,.mp 0),(6,.mp 1),(9,.t (i64 j)),(13,.t (i64 (t.map Cf.t).length)),(14,.t (i64 i)),(36,.ptr 2 0),(37,.t (.au [.bool true,i64 j,i64 v])),(38,.t (.bool true)),(39,.t (.au [i64 j,i64 v])),(40,.t (i64 j)),(41,.mp 0),(42,.t (i64 j)),(43,.mp 1),(44,.t (i64 j)),(45,.t (i64 0)),(46,.t (i64 1))],[.map we wc,.map ge gc,.iter 0 wd [n] wd]⟩
theorem Dk (N:Nat) (t:List Cf) (i:Int) (we:List eU) (wc:Nat) (ge:List eU) (gc:Nat) (j v:Int) (n wd:Nat):dO env N 60 [2,2,5,2,1,2] 3 1 (anR t i we wc ge gc j v n wd)=cl N 95 [T.sl 6 (List.map Cf.t t),i64 j] fun x=>gY x fun n_1=>aj.ok (Ex.norm,{tmps:=slots 70 [(0,PV.t (T.sl 6 (List.map Cf.t t))),(4,PV.t (i64 i)),(5,PV.mp 0),(6,PV.mp 1),(9,PV.t (i64 j)),(13,PV.t (i64 (↑(List.map Cf.t t).length:Int))),(14,PV.t (i64 i)),(36,PV.ptr 2 0),(37,PV.t (T.au [T.bool true,i64 j,i64 v])),(38,PV.t (T.bool true)),(39,PV.t (T.au [i64 j,i64 v])),(40,PV.t (i64 j)),(41,PV.mp 0),(42,PV.t (i64 j)),(43,PV.mp 1),(44,PV.t (i64 j)),(45,PV.t (i64 0)),(46,PV.t (i64 1)),(47,PV.t (T.sl 6 (List.map Cf.t t))),(48,PV.t (i64 j)),(49,PV.t x),(50,PV.t (i64 n_1)),(51,PV.t (i64 0))],heap:=[ah.map we wc,ah.map ge gc,ah.iter 0 wd [n] wd]}):=by kernel_rfl
theorem XC (N:Nat) (t:List Cf) (i:Int) (b:Bool):dO env N 60 [2,2] 0 4 (YL t i b)=cl N 95 [T.sl 6 (List.map Cf.t t),i64 i] fun x=>gY x fun n=>aj.ok (Ex.norm,{tmps:=slots 70 [(0,PV.t (T.sl 6 (List.map Cf.t t))),(4,PV.t (i64 i)),(5,PV.mp 0),(6,PV.mp 1),(13,PV.t (i64 (↑(List.map Cf.t t).length:Int))),(14,PV.t (i64 i)),(15,PV.t (T.bool b)),(16,PV.t (i64 i)),(17,PV.mp 0),(18,PV.mp 1),(19,PV.t (T.sl 6 (List.map Cf.t t))),(20,PV.t (i64 i)),(21,PV.t x),(22,PV.t (i64 n)),(23,PV.t (i64 0))],heap:=[ah.map [] 0,ah.map [] 0]}):=by kernel_rfl
theorem adA (N:Nat):dO env N 60 [] 3 2 (⟨slots 70 [],[]⟩)=aj.ok (Ex.ret,{tmps:=slots 70 [(2,PV.t (i64 0)),(3,PV.t (T.bool false))],heap:=[]}):=by kernel_rfl
end
section
open Go.RowKit Go.Proofs
theorem yS {A C:Prop} {B:Nat→Prop} {j:Nat} (h:B j):Ex.kP (.exit j) A B C:=h
theorem rO {A C:Prop} {B:Nat→Prop} (h:A):Ex.kP .norm A B C:=h
theorem XJ {A C:Prop} {B:Nat→Prop} (h:C):Ex.kP .ret A B C:=h
theorem af8 {E:Env} {n:Nat} {f:FuncId} {p:List Nat} {i:Nat} (a b:Nat) {st s:St} {r:aj (Ex×St)} (h1:dO E n f p i a st= .ok (.norm,s)) (h2:dO E n f p (i+a) b s=r):dO E n f p i (a+b) st=r:=by
 unfold dO at h1 h2 ⊢
 rw[List.take_add,List.drop_drop,oK]
 have:=tH (E:=E) (f:=f) (fn:=dU E f) (n:=n) (base:=0) (fF E n) (Strict.bind fun q:Ex×St=>q.1.k (kX E (aK E n) f (dU E f) n 0 (((aN E f p).drop (i+a)).take b) q.2 fun e s=>(.ok (e,s):aj (Ex×St))) (fun j=> .ok (.exit j,q.2)) (.ok (.ret,q.2))) (((aN E f p).drop i).take a) st fun e s=> .ok (e,s)
 rw[h1] at this
 exact this.symm.trans h2
def amd:Oper:={dst:=some 37,op:= .next (.tmp 36) false,type:=0,pos:= "topo.go:64",after:= #[],guard:=none}
def ama:Oper:={dst:=some 39,op:= .entry (.tmp 36),type:=0,pos:= "topo.go:64",after:= #[],guard:=none}
theorem GI {B:St→aj (Ex×St)} {S:List eU→Nat→Nat→St} {X:List eU→Nat→St} {id:Nat} (F:List Nat→Nat→List Nat) (xs:List Nat)
 (hs:∀ we wc ks k x,jy we wc ks→xs[k]? =some x→∃ JX wc',jy JX wc' (F ks x)∧B (S we wc k)= .ok (.norm,S JX wc' (k+1)))
 (he:∀ we wc,B (S we wc xs.length)= .ok (.exit id,X we wc)):
 ∀ (m k:Nat) (we:List eU) (wc:Nat) (ks:List Nat) (n:Nat),k+m=xs.length→jy we wc ks→m < n→∃ JX wc',jy JX wc' ((xs.drop k).foldl F ks)∧bH B n (S we wc k)= .ok (.exit id,X JX wc')
 |0,k,we,wc,ks,n,hk,h,hn=>by
  obtain⟨n,rfl⟩:∃ m,n=m+1:=⟨n - 1,by omega⟩
  obtain rfl:k=xs.length:=by omega
  refine⟨we,wc,?_,eH (he we wc)⟩
  rw[List.drop_length]; exact h
 |m+1,k,we,wc,ks,n,hk,h,hn=>by
  obtain⟨n,rfl⟩:∃ m,n=m+1:=⟨n - 1,by omega⟩
  have hx:xs[k]? =some xs[k]:=List.getElem?_eq_getElem (by omega)
  obtain⟨we1,wc1,h1,h2⟩:=hs we wc ks k _ h hx
  obtain⟨we2,QH,h3,h4⟩:=GI F xs hs he m (k+1) we1 wc1 (F ks xs[k]) n (by omega) h1 (by omega)
  refine⟨we2,QH,?_,by rw[aW h2]; exact h4⟩
  rw[List.drop_eq_getElem_cons (by omega),List.foldl_cons]
  exact h3
variable [Lv]
attribute [local irreducible] ay Ii stepD aN iU
theorem ami {N:Nat} (hN:big+40≤N) {t:List Cf} {i:Int} (xs:List Nat) (hx:xs.length≤big):∃ we wc,jy we wc (xs.foldl addN [])∧bH (nS env N 60 [2,2] 4) N (sRb t i [] 0 [] 0 (fG xs) ((fG xs).length:Nat) 0)= .ok (.exit 2,wG t i we wc [] 0):=by
 have hbg:=aQ
 have hl:(fG xs).length=xs.length:=by simp[fG]
 obtain⟨we,wc,h1,h2⟩:=GI (B:=nS env N 60 [2,2] 4) (S:=fun we wc (k:Nat)=>sRb t i we wc [] 0 (fG xs) ((fG xs).length:Nat) (k:Nat)) (X:=fun we wc=>wG t i we wc [] 0) (id:=2) addN xs
  (fun we wc ks k x h hk=>by
   obtain⟨JX,wc',g1,g2⟩:=UE h x
   have hkl:=(List.getElem?_eq_some_iff.1 hk).1
   refine⟨JX,wc',g1,?_⟩
   rw[QJ,hl,decide_eq_true (by omega),cond_true,aA (x:=i64 (x:Int)) (by unfold fG; rw[List.getElem?_map,hk]; rfl)]
   have:=g2 fun e c=>(aj.ok (Ex.norm,sRb t i e c [] 0 (fG xs) (xs.length:Nat) (IntKind.i64.wrap ((k:Int)+1))):aj (Ex×St))
   unfold RQ at this
   rw[this,wrap_succ (show k≤big by omega)])
  (fun we wc=>by
   rw[QJ,hl,decide_eq_false (by omega)]; rfl) xs.length 0 [] 0 [] N (by omega) (jy.nil 0) (by omega)
 exact⟨we,wc,by simpa using h1,h2⟩
theorem amj {N:Nat} (hN:big+40≤N) {t:List Cf} {i:Int} {we ge:List eU} {wc gc:Nat} {ws gs:List Nat} (xs:List Nat) (hx:xs.length≤big) (hw:jy we wc ws) (hg:jy ge gc gs) (ho:Ones ge):
 ∃ JX wc',jy JX wc' (xs.foldl (MV gs) ws)∧bH (nS env N 60 [2,2,5,2,1,2] 4) N (sRg t i we wc ge gc (fG xs) ((fG xs).length:Nat) 0)= .ok (.exit 8,wG t i JX wc' ge gc):=by
 have hbg:=aQ
 have hl:(fG xs).length=xs.length:=by simp[fG]
 obtain⟨JX,wc',h1,h2⟩:=GI (B:=nS env N 60 [2,2,5,2,1,2] 4) (S:=fun we wc (k:Nat)=>sRg t i we wc ge gc (fG xs) ((fG xs).length:Nat) (k:Nat)) (X:=fun we wc=>wG t i we wc ge gc) (id:=8) (MV gs) xs
  (fun we wc ks k x h hk=>by
   have hkl:=(List.getElem?_eq_some_iff.1 hk).1
   have e0:=tV N t i we wc ge gc (fG xs) ((fG xs).length:Nat) (k:Nat)
   rw[hl,decide_eq_true (by omega),cond_true] at e0
   have e1:=yZ N t i we wc ge gc (fG xs) ((fG xs).length:Nat) (k:Nat) true
   rw[aA (x:=i64 (x:Int)) (by unfold fG; rw[List.getElem?_map,hk]; rfl),hl] at e1
   have e2:=y5 N t i we wc ge gc (fG xs) ((fG xs).length:Nat) (k:Nat) (x:Nat) true
   rw[JB,aI,hl] at e2
   have wr:=wrap_succ (show k≤big by omega)
   have cut:∀ {g:Int} {b:Bool},dO env N 60 [2,2,5,2,1,2,4,2] 1 1 (sRh t i we wc ge gc (fG xs) (xs.length:Nat) (k:Nat) (x:Nat) true)= .ok (.norm,Qr t i we wc ge gc (fG xs) (xs.length:Nat) (k:Nat) (x:Nat) g true b)→dO env N 60 [2,2,5,2,1,2,4,2] 0 2 (agU t i we wc ge gc (fG xs) (xs.length:Nat) (k:Nat) true)= .ok (.norm,Qr t i we wc ge gc (fG xs) (xs.length:Nat) (k:Nat) (x:Nat) g true b):=fun h=>by
    exact af8 1 1 e1 h
   have fin:∀ {g:Int} {b:Bool} {JX:List eU} {wc':Nat},dO env N 60 [2,2,5,2,1,2,4,2] 1 1 (sRh t i we wc ge gc (fG xs) (xs.length:Nat) (k:Nat) (x:Nat) true)= .ok (.norm,Qr t i we wc ge gc (fG xs) (xs.length:Nat) (k:Nat) (x:Nat) g true b)→(oW env N 60 [2,2,5,2,1,2,4,2] 2 1 (Qr t i we wc ge gc (fG xs) (xs.length:Nat) (k:Nat) (x:Nat) g true b) (Je env N 60 [2,2,5,2,1,2] 4 9 3 1))= .ok (.norm,sRg t i JX wc' ge gc (fG xs) (xs.length:Nat) (k+1:Nat))→
    nS env N 60 [2,2,5,2,1,2] 4 (sRg t i we wc ge gc (fG xs) ((fG xs).length:Nat) (k:Nat))= .ok (.norm,sRg t i JX wc' ge gc (fG xs) ((fG xs).length:Nat) (k+1:Nat)):=fun h1 h2=>by
    rw[hl]
    exact Gv (p:=[2,2,5,2,1,2]) (i:=4) (a:=2) (b:=2) (k1:=1) (k2:=1) (id:=9) (c:=gV ((aN env 60 [2,2,5,2,1,2,4]).getD 2 .skip)) (by kernel_rfl) (by kernel_rfl) (by kernel_rfl) (by kernel_rfl) (by kernel_rfl) e0 (cut h1) h2
   unfold MV
   by_cases hn:x∈gs
   rotate_left
   · rw[if_neg hn]
     obtain⟨JX,wc',g1,g2⟩:=UE h x
     refine⟨JX,wc',g1,fin (g:=0) (b:=true) ?_ ?_⟩
     · exact e2.trans ((Ey hg ho x _ _).resolve_right fun h=>hn h.1).2
     · rw[asO,wr]
       exact g2 fun e c=>(aj.ok (Ex.norm,sRg t i e c ge gc (fG xs) (xs.length:Nat) (k+1:Nat)):aj (Ex×St))
   · rw[if_pos hn]
     refine⟨we,wc,h,fin (g:=1) (b:=false) ?_ ?_⟩
     · obtain⟨_,_,_,h1⟩:=(Ey hg ho x (aj.ok (Ex.norm,Qr t i we wc ge gc (fG xs) (xs.length:Nat) (k:Nat) (x:Nat) 0 true true)) _).resolve_left fun h=>h.1 hn
       exact(e2.trans h1).trans rfl
     · rw[asN,wr]; rfl)
  (fun we wc=>by
   have e0:=tV N t i we wc ge gc (fG xs) ((fG xs).length:Nat) (xs.length:Nat)
   rw[hl,decide_eq_false (by omega),cond_false] at e0
   rw[hl]
   exact KY (p:=[2,2,5,2,1,2]) (i:=4) (by kernel_rfl) e0 (by kernel_rfl)) xs.length 0 we wc ws N (by omega) hw (by omega)
 exact⟨JX,wc',by simpa using h1,h2⟩
theorem aja {E:Env} {n:Nat} {f:FuncId} {p:List Nat} {i k:Nat} {st s:St} (h:oW E n f p i k st (fun e s=>e.k (.ok s) (fun _=> .stuck) .stuck)= .ok s):dO E n f p i k st= .ok (.norm,s):=by
 rw[yM] at h
 obtain⟨⟨e,s'⟩,h1,h2⟩:=bK h
 cases e with
 |norm=>simp only[Ex.k,aj.ok.injEq] at h2; subst h2; exact h1
 |exit j=>simp[Ex.k] at h2
 |ret=>simp[Ex.k] at h2
def adH (t:List Cf) (i:Nat) (m:Nat) (st:St):Prop:=∃ (we:List eU) (wc:Nat) (ws:List Nat) (ge:List eU) (gc:Nat) (gs:List Nat),st=wG t (i:Int) we wc ge gc∧jy we wc ws∧jy ge gc gs∧Ones ge∧(∀ x∈ws,x∉gs)∧Work t i (· ∈ws) (· ∈gs)∧m+gs.length=t.length
theorem Vm {t:List Cf} {i:Nat} {c:Cf} (h:t[i]? =some c):(jT t i).length≤c.s.length:=by
 unfold jT
 rw[h]
 exact List.length_filterMap_le _ _
theorem cR8 (N:Nat) (t:List Cf) (i:Int) (we:List eU) (wc:Nat) (ge:List eU) (gc:Nat):dO env N 60 [2,2,5,2,1,2] 5 1 (wG t i we wc ge gc)= .ok (.exit 6,wG t i we wc ge gc):=by kernel_rfl
theorem cR5 (t:List Cf) (i:Int) (we:List eU) (wc:Nat) (ge:List eU) (gc:Nat) (j v:Int) (n wd:Nat) (xs:List T) (q:Int):canon 0 (dX env 60 [2,2,5,2,1,2] 4).1 (⟨slots 70 [(0,PV.t (T.sl 6 (List.map Cf.t t))),(4,PV.t (i64 i)),(5,PV.mp 0),(6,PV.mp 1),(9,PV.t (i64 j)),(13,PV.t (i64 (↑(List.map Cf.t t).length:Int))),(14,PV.t (i64 i)),(36,PV.ptr 2 0),(37,PV.t (T.au [T.bool true,i64 j,i64 v])),(38,PV.t (T.bool true)),(39,PV.t (T.au [i64 j,i64 v])),(40,PV.t (i64 j)),(41,PV.mp 0),(42,PV.t (i64 j)),(43,PV.mp 1),(44,PV.t (i64 j)),(45,PV.t (i64 0)),(46,PV.t (i64 1)),(47,PV.t (T.sl 6 (List.map Cf.t t))),(48,PV.t (i64 j)),(49,PV.t (T.sl 1 xs)),(50,PV.t (i64 q)),(51,PV.t (i64 0))],[ah.map we wc,ah.map ge gc,ah.iter 0 wd [n] wd]⟩)=sRg t i we wc ge gc xs q 0:=by kernel_rfl
theorem cR6 (t:List Cf) (i:Int) (we:List eU) (wc:Nat) (ge:List eU) (gc:Nat):canon 0 (dX env 60 [2,2] 5).1 (canon 0 (dX env 60 [2,2,5,2] 1).2 (wG t i we wc ge gc))=wG t i we wc ge gc:=by kernel_rfl
theorem cRx (t:List Cf) (i:Int) (we:List eU) (wc:Nat) (ge:List eU) (gc:Nat) (n:Int) (b:Bool):canon 0 (dX env 60 [2,2] 5).2 (agV t i we wc ge gc n b)=sRx t i ge gc:=by kernel_rfl
theorem Zy {N:Nat} (hN:big+80≤N) {t:List Cf} {i x n:Nat} {v:Int} {we ge:List eU} {wc gc:Nat} {ws gs:List Nat} (ht:bZ Cf.ok t) (hts:∀ c∈t,(c.s.length+1)*8≤big) (hw:jy we wc ws) (hg:jy ge gc gs) (ho:Ones ge) (hx:x∈ws) (hxl:x < t.length) (hxg:x∉gs) {Q:Ex→St→Prop}
 (hQ:∀ we2 QH X9 Ls gc1,(∀ y,y∈X9↔y∈ws∧y≠x)→jy we2 QH ((jT t x).foldl (MV (gs++ [x])) X9)→jy Ls gc1 (gs++ [x])→Ones Ls→Q (.exit 6) (wG t (i:Int) we2 QH Ls gc1)):
 ay env N 60 [2,2,5,2,1,2] 1 (sRd t (i:Int) we wc ge gc (x:Int) v n) Q:=by
 have hbg:=aQ
 have z:=zRD N t (i:Int) we wc ge gc (x:Int) v n
 rcases findD hw x with ⟨hn,_⟩|⟨i1,a,b,hi1,he1,hf1⟩
 · exact absurd hx hn
 have hfg:jg [0] (i64 (x:Int)) ge 0=some none:=by
  rcases findD hg x with ⟨_,h⟩|⟨_,_,_,h,_⟩
  · exact h
  · exact absurd (List.mem_of_getElem? h) hxg
 simp only[JB,aI,eY,hf1,hfg] at z
 refine fD (e:= .norm) 2 (aja z) ?_
 refine rO ?_
 show ay env N 60 [2,2,5,2,1,2] 3 (anR t (i:Int) (we.eraseIdx i1) wc (ge++ [(i64 (x:Int),i64 1,gc)]) (gc+1) (x:Int) v n wc) _
 have hw1:=hw.strike i1
 have hg1:=hg.add hxg 1
 have ho1:=ho.add (i64 (x:Int)) gc
 have hst:∀ y,y∈ws.eraseIdx i1↔y∈ws∧y≠x:=fun y=>MR hw.nd hi1
 generalize we.eraseIdx i1=we1 at hw1
 generalize ge++ [(i64 (x:Int),i64 1,gc)]=Ls at hg1 ho1
 generalize ws.eraseIdx i1=X9 at hw1 hst
 have hc:t[x]? =some t[x]:=List.getElem?_eq_getElem hxl
 obtain⟨M,rfl⟩:=dL (show 1≤N by omega)
 have z2:=Dk (M+1) t (i:Int) we1 wc Ls (gc+1) (x:Int) v n wc
 rw[aF (aeG (by omega) ht hc (hts _ (List.mem_of_getElem? hc)))] at z2
 simp only[gY] at z2
 refine fD (e:= .norm) 1 z2 ?_
 refine rO ?_
 have hpl:(jT t x).length≤big:=by
  have h1:=Vm hc
  have h2:=hts _ (List.mem_of_getElem? hc)
  omega
 obtain⟨we2,QH,hw2,hit⟩:=amj (N:=M+1) (t:=t) (i:=(i:Int)) (by omega) (jT t x) hpl hw1 hg1 ho1
 refine zn (p:=[2,2,5,2,1,2]) (i:=4) (id:=8) (X:=wG t (i:Int) we2 QH Ls (gc+1)) (c:=gV ((aN env 60 [2,2,5,2,1,2]).getD 4 .skip)) (by kernel_rfl) ?_ ?_
 · refine Eq.trans ?_ hit
   exact congrArg _ (cR5 t (i:Int) we1 wc Ls (gc+1) (x:Int) v n wc (fG (jT t x)) ((fG (jT t x)).length:Nat))
 refine fD (e:= .exit 6) 1 (cR8 (M+1) t (i:Int) we2 QH Ls (gc+1)) ?_
 exact yS (hQ _ _ _ _ _ hst hw2 hg1 ho1)
theorem Zz {N:Nat} (hN:big+80≤N) {t:List Cf} {i:Nat} {we ge:List eU} {wc gc:Nat} {ws gs:List Nat} (ht:bZ Cf.ok t) (hts:∀ c∈t,(c.s.length+1)*8≤big) (hw:jy we wc ws) (hg:jy ge gc gs) (ho:Ones ge) (hne:ws≠ []) (hwx:∀ x∈ws,x < t.length∧x∉gs) {Q:Ex→St→Prop}
 (hQ:∀ x we2 QH X9 Ls gc1,x∈ws→(∀ y,y∈X9↔y∈ws∧y≠x)→jy we2 QH ((jT t x).foldl (MV (gs++ [x])) X9)→jy Ls gc1 (gs++ [x])→Ones Ls→Q (.exit 6) (wG t (i:Int) we2 QH Ls gc1)):
 ay env N 60 [2,2,5,2,1] 0 (sRr t (i:Int) we wc ge gc wc wc []) Q:=by
 refine yK (by kernel_rfl) (of_decide_eq_true (by kernel_rfl)) ?_
 refine Ap (o:=amd) (by kernel_rfl) ?_
 refine step_next (x:= .tmp 36) (l:=2) (m:=0) (since:=wc) (last:=wc) (c:=wc) (seen:=[]) (es:=we) rfl rfl (by kernel_rfl) rfl rfl hw.lt (.inl rfl) (fun hf=>?_) fun e he=>?_
 · exfalso
   have:AL [] we=we:=List.filter_eq_self.2 (by simp)
   rw[this] at hf
   have hlen:=hw.len
   rw[hf] at hlen
   exact hne (List.length_eq_zero_iff.1 hlen.symm)
 · have he1:=(List.mem_filter.1 he).1
   obtain⟨x,v,hx,k2,k3⟩:=hw.mem he1
   generalize e.2.2=n at k2 k3
   subst k2
   obtain⟨hxl,hxg⟩:=hwx x hx
   refine adT 1 (zRN N t (i:Int) we wc ge gc (x:Int) v n) ?_
   refine rO ?_
   refine oI (p:=[2,2,5,2,1]) (i:=2) (id:=7) (c:=gV ((aN env 60 [2,2,5,2,1]).getD 2 .skip)) (by kernel_rfl) (by kernel_rfl) ?_
   show ay env N 60 [2,2,5,2,1,2] 0 _ _
   refine yK (by kernel_rfl) (of_decide_eq_true (by kernel_rfl)) ?_
   refine Ap (o:=ama) (by kernel_rfl) ?_
   refine ML (x:= .tmp 36) (l:=2) (m:=0) (since:=wc) (c:=wc) (n:=n) (seen:=[]) (es:=we) (e:=(i64 (x:Int),i64 v,n)) rfl rfl (by kernel_rfl) rfl rfl k3 ?_
   show Ii env N 60 [2,2,5,2,1,2] 0 1 (sRe t (i:Int) we wc ge gc (x:Int) v n) _
   refine ajZ (k:=0) (zRE N t (i:Int) we wc ge gc (x:Int) v n) ?_
   refine Zy hN ht hts hw hg ho hx hxl hxg fun we2 QH X9 Ls gc1 h1 h2 h3 h4=>yS ?_
   rw[if_neg (by decide)]
   exact hQ x we2 QH X9 Ls gc1 hx h1 h2 h3 h4
theorem ring_step {N:Nat} (hN:big+80≤N) {t:List Cf} {i:Nat} (ht:bZ Cf.ok t) (hts:∀ c∈t,(c.s.length+1)*8≤big) {Q:Ex→St→Prop}
 (hend:∀ ge gc gs,jy ge gc gs→Ones ge→(∀ j,j∈gs↔Up t i j)→ay env N 60 [2,2] 6 (sRx t (i:Int) ge gc) Q) (m:Nat) (st:St) (hI:adH t i m st):
 ay env N 60 ([2,2]++ [5]) 0 st fun e st=>e.kP (∃ m',m' < m∧adH t i m' (canon 0 (dX env 60 [2,2] 5).1 st))
  (fun j=>if j=4 then ay env N 60 [2,2] (5+1) (canon 0 (dX env 60 [2,2] 5).2 st) Q else Q (.exit j) (canon 0 (dX env 60 [2,2] 5).2 st)) (Q .ret (canon 0 (lH (dU env 60)) st)):=by
 have hbg:=aQ
 have htl:=ht.1
 obtain⟨we,wc,ws,ge,gc,gs,rfl,hw,hg,ho,hd,hk,hm⟩:=hI
 have hwl:ws.length≤t.length:=BF _ _ hw.nd fun x hx=>(hk.up x (.inl hx)).lt
 have hlen:=hw.len
 show ay env N 60 [2,2,5] 0 _ _
 have h1:=OI N t (i:Int) we wc ge gc
 rw[decide_eq_true (show we.length≤140737488355328 by omega),aI] at h1
 by_cases hne:ws= []
 · rw[hne,List.length_nil] at hlen
   rw[hlen,decide_eq_false (by simp),cond_false] at h1
   refine fD (e:= .exit 4) 2 h1 ?_
   refine yS (yS ?_)
   rw[if_pos rfl,cRx]
   exact hend ge gc gs hg ho fun j=>hk.done (fun j hj=>by rw[hne] at hj; cases hj) j
 · rw[decide_eq_true (by have:=List.length_pos_iff.2 hne; omega),cond_true] at h1
   refine fD (e:= .norm) 2 h1 ?_
   refine rO ?_
   refine oI (p:=[2,2,5]) (i:=2) (id:=5) (c:=gV ((aN env 60 [2,2,5]).getD 2 .skip)) (by kernel_rfl) (by kernel_rfl) ?_
   show ay env N 60 [2,2,5,2] 0 _ _
   obtain⟨st1,g1,g2⟩:=Ad (zRR N t (i:Int) we wc ge gc (we.length:Int) true)
   refine Ro 1 g1 ?_
   refine rO ?_
   refine xK (p:=[2,2,5,2]) (i:=1) (id:=6) (c:=gV ((aN env 60 [2,2,5,2]).getD 1 .skip)) (by kernel_rfl) (by kernel_rfl) (fun _ st=>st=sRr t (i:Int) we wc ge gc wc wc []) (m:=0) g2 ?_
   rintro _ st rfl
   refine Zz hN ht hts hw hg ho hne (fun x hx=>⟨(hk.up x (.inl hx)).lt,hd x hx⟩) fun x we2 QH X9 Ls gc1 hx hst hw2 hg1 ho1=>yS ?_
   rw[if_pos rfl]
   refine kW (by kernel_rfl) (rO (kW (by kernel_rfl) (rO ?_)))
   rw[cR6]
   have hmem:∀ y,y∈(jT t x).foldl (MV (gs++ [x])) X9↔(y∈ws∧y≠x)∨(y∈jT t x∧ ¬ (y∈gs∨y=x)):=fun y=>by
    rw[Uo,hst]; simp
   have hgl:(gs++ [x]).length≤t.length:=BF _ _ hg1.nd fun y hy=>by
    rcases List.mem_append.1 hy with hy|hy
    · exact(hk.up y (.inr hy)).lt
    · rw[List.mem_singleton.1 hy]; exact(hk.up x (.inl hx)).lt
   rw[List.length_append,List.length_singleton] at hgl
   refine⟨m - 1,by omega,we2,QH,_,Ls,gc1,gs++ [x],rfl,hw2,hg1,ho1,fun y hy hy2=>?_,?_,by rw[List.length_append,List.length_singleton]; omega⟩
   · have h3:y∈gs∨y=x:=by simpa using hy2
     rcases(hmem y).1 hy with ⟨h1,h2⟩|⟨_,h2⟩
     · exact h3.elim (hd y h1) h2
     · exact h2 h3
   · have e1:(fun y=>y∈(jT t x).foldl (MV (gs++ [x])) X9)=fun y=>(y∈ws∧y≠x)∨(y∈jT t x∧ ¬ (y∈gs∨y=x)):=funext fun y=>propext (hmem y)
     have e2:(fun y=>y∈gs++ [x])=fun y=>y∈gs∨y=x:=funext fun y=>propext (by simp)
     rw[e1,e2]
     exact hk.step hx
theorem cR0 (N:Nat) (t:List Cf):Es env 60 [] 2 (dO env N 60 [] 0 2 (oC env 60 [.t (.sl 6 (t.map Cf.t))]))= .ok (.norm,sRa t 0):=by kernel_rfl
theorem cRz (t:List Cf) (i:Int) (b:Bool):canon 0 (dX env 60 [] 2).2 (YL t i b)=⟨slots 70 [],[]⟩:=by kernel_rfl
theorem cR4 (t:List Cf) (i:Int) (b:Bool) (x:List T) (n:Int):canon 0 (dX env 60 [2,2] 4).1 ⟨slots 70 [(0,PV.t (T.sl 6 (List.map Cf.t t))),(4,PV.t (i64 i)),(5,PV.mp 0),(6,PV.mp 1),(13,PV.t (i64 (↑(List.map Cf.t t).length:Int))),(14,PV.t (i64 i)),(15,PV.t (T.bool b)),(16,PV.t (i64 i)),(17,PV.mp 0),(18,PV.mp 1),(19,PV.t (T.sl 6 (List.map Cf.t t))),(20,PV.t (i64 i)),(21,PV.t (.sl 1 x)),(22,PV.t (i64 n)),(23,PV.t (i64 0))],[ah.map [] 0,ah.map [] 0]⟩=sRb t i [] 0 [] 0 x n 0:=by kernel_rfl
theorem apL (t:List Cf) (i:Int) (we:List eU) (wc:Nat) (ge:List eU) (gc:Nat):canon 0 (dX env 60 [2,2] 5).1 (wG t i we wc ge gc)=wG t i we wc ge gc:=by kernel_rfl
theorem Un {y:Nat}:∀ (l ks:List Nat),y∈l.foldl addN ks↔y∈ks∨y∈l
 | [],ks=>by simp
 |x::l,ks=>by
  rw[List.foldl_cons,Un l,U8,List.mem_cons]
  constructor
  · rintro((h|h)|h)
    · exact .inl h
    · exact .inr (.inl h)
    · exact .inr (.inr h)
  · rintro(h|h|h)
    · exact .inl (.inl h)
    · exact .inl (.inr h)
    · exact .inr h
theorem acv {N:Nat} (hN:big+80≤N) {t:List Cf} {i:Nat} (ht:bZ Cf.ok t) (hts:∀ c∈t,(c.s.length+1)*8≤big) (hi:i < t.length) {Q:Ex→St→Prop}
 (hend:∀ ge gc gs,jy ge gc gs→Ones ge→(∀ j,j∈gs↔Up t i j)→ay env N 60 [2,2] 6 (sRx t (i:Int) ge gc) Q):ay env N 60 [2,2] 0 (YL t (i:Int) true) Q:=by
 have hbg:=aQ
 obtain⟨M,rfl⟩:=dL (show 1≤N by omega)
 have hc:t[i]? =some t[i]:=List.getElem?_eq_getElem hi
 have z:=XC (M+1) t (i:Int) true
 rw[aF (aeG (by omega) ht hc (hts _ (List.mem_of_getElem? hc)))] at z
 simp only[gY] at z
 refine fD (e:= .norm) 4 z ?_
 refine rO ?_
 have hpl:(jT t i).length≤big:=by
  have h1:=Vm hc
  have h2:=hts _ (List.mem_of_getElem? hc)
  omega
 obtain⟨we,wc,hw,hit⟩:=ami (N:=M+1) (t:=t) (i:=(i:Int)) (by omega) (jT t i) hpl
 refine zn (p:=[2,2]) (i:=4) (id:=2) (X:=wG t (i:Int) we wc [] 0) (c:=gV ((aN env 60 [2,2]).getD 4 .skip)) (by kernel_rfl) ?_ ?_
 · refine Eq.trans ?_ hit
   exact congrArg _ (cR4 t (i:Int) true (fG (jT t i)) ((fG (jT t i)).length:Nat))
 have hm:∀ y,y∈(jT t i).foldl addN []↔y∈jT t i:=fun y=>by rw[Un]; simp
 refine xK (p:=[2,2]) (i:=5) (id:=4) (c:=gV ((aN env 60 [2,2]).getD 5 .skip)) (by kernel_rfl) (by kernel_rfl) (adH t i) (m:=t.length) ?_ (ring_step hN ht hts hend)
 rw[apL]
 exact⟨we,wc,_,[],0,[],rfl,hw,jy.nil 0,fun e he=>(by cases he),fun x _ h=>(by cases h),⟨fun j hj=>hj.elim (fun h=> .one ((hm j).1 h)) (fun h=>(by cases h)),fun j hj=> .inl ((hm j).2 hj),fun j hj=>(by cases hj)⟩,by simp⟩
theorem acy {t:List Cf} {i:Nat} (hi:i < t.length) (h:Up t i i) (hb:∀ j < i,¬ Up t j j):zG t=some i:=by
 unfold zG
 rw[List.find?_eq_some_iff_getElem]
 refine⟨(steps_iff hi).2 h,i,by rw[List.length_range]; exact hi,List.getElem_range _,fun j hj=>?_⟩
 rw[List.getElem_range]
 cases hs:oD t j t.length j with
 |true=>exact absurd ((steps_iff (by omega)).1 hs) (hb j hj)
 |false=>rfl
theorem acw {t:List Cf} (hb:∀ j < t.length,¬ Up t j j):zG t=none:=by
 unfold zG
 rw[List.find?_eq_none]
 intro j hj
 rw[List.mem_range] at hj
 intro h
 exact hb j hj ((steps_iff hj).1 h)
theorem akZ (i:Nat) (R:PV→List ah→Prop) (h:∀ r H',aY env 60 r H'= .ok (G5 (some i))→R r H'):Bo env (dU env 60) R ⟨slots 70 [(2,PV.t (i64 (i:Int))),(3,PV.t (T.bool true))],[]⟩:=⟨.au [.t (i64 (i:Int)),.t (.bool true)],[],by kernel_rfl,h _ _ (by kernel_rfl)⟩
theorem akY (R:PV→List ah→Prop) (h:∀ r H',aY env 60 r H'= .ok (G5 none)→R r H'):Bo env (dU env 60) R ⟨slots 70 [(2,PV.t (i64 0)),(3,PV.t (T.bool false))],[]⟩:=⟨.au [.t (i64 0),.t (.bool false)],[],by kernel_rfl,h _ _ (by kernel_rfl)⟩
theorem acu {N:Nat} (hN:big+80≤N) {t:List Cf} (ht:bZ Cf.ok t) (hts:∀ c∈t,(c.s.length+1)*8≤big):PK env (aK env N) 60 ([T.sl 6 (t.map Cf.t)].map .t) [] (fun r H'=>aY env 60 r H'= .ok (G5 (zG t))):=by
 have hbg:=aQ
 have htl:=ht.1
 refine DI ⟨dU env 60,by kernel_rfl,by kernel_rfl⟩ ?_
 refine zC (i:=0) 2 (id:=0) (c:=gV ((aN env 60 []).getD 2 .skip)) (cR0 N t) (by kernel_rfl) (by kernel_rfl) (fun k st=>∃ i:Nat,i+k=t.length∧st=sRa t (i:Nat)∧∀ j < i,¬ Up t j j) (m:=t.length) ⟨0,by omega,rfl,by simp⟩ ?_
 rintro k st ⟨i,hik,rfl,hb⟩
 show ay env N 60 [2] 0 _ _
 have h1:=adB N t (i:Nat)
 by_cases hi:i < t.length
 · rw[decide_eq_true (by rw[List.length_map]; omega),cond_true] at h1
   refine fD (e:= .norm) 2 h1 ?_
   refine rO ?_
   refine oI (p:=[2]) (i:=2) (id:=1) (c:=gV ((aN env 60 [2]).getD 2 .skip)) (by kernel_rfl) (by kernel_rfl) ?_
   refine acv hN ht hts hi fun ge gc gs hg ho hup=>?_
   have z:=zRX N t (i:Nat) ge gc
   rw[JB,aI,wrap_succ (show i≤big by omega)] at z
   by_cases hr:i∈gs
   · obtain⟨_,_,_,hk⟩:=(Ey hg ho i (aj.ok (Ex.norm,sRa t (i+1:Nat))) _).resolve_left fun h=>h.1 hr
     refine LZ (p:=[]) (i:=2) (a:=2) (b:=6) (k1:=2) (k2:=1) (id:=1) (by kernel_rfl) (by kernel_rfl) (z.trans hk) fun e' s' he=>?_
     cases e' with
     |norm=>simp[tY,Ex.k] at he
     |exit j=>simp[tY,Ex.k] at he
     |ret=>
      simp only[tY,Ex.k,aj.ok.injEq,Prod.mk.injEq,true_and] at he
      refine XJ ?_
      refine XJ ?_
      rw[he]
      exact akZ i _ fun r H' h=>by rw[acy hi ((hup i).1 hr) hb]; exact h
   · have hk:∀ B,eY [0] (i64 (i:Int)) ge (aj.ok (Ex.norm,sRa t (i+1:Nat))) B=aj.ok (Ex.norm,sRa t (i+1:Nat)):=fun B=>((Ey hg ho i (aj.ok (Ex.norm,sRa t (i+1:Nat))) B).resolve_right fun h=>hr h.1).2
     refine LZ (p:=[]) (i:=2) (a:=2) (b:=6) (k1:=2) (k2:=1) (id:=1) (by kernel_rfl) (by kernel_rfl) (z.trans (hk _)) fun e' s' he=>?_
     cases e' with
     |norm=>
      simp only[tY,Ex.k,aj.ok.injEq,Prod.mk.injEq,true_and] at he
      refine rO ⟨k - 1,by omega,i+1,by omega,he,fun j hj=>?_⟩
      rcases Nat.lt_succ_iff_lt_or_eq.1 hj with h|rfl
      · exact hb j h
      · exact fun h=>hr ((hup _).2 h)
     |exit j=>simp[tY,Ex.k] at he
     |ret=>simp[tY,Ex.k] at he
 · rw[decide_eq_false (by rw[List.length_map]; omega),cond_false] at h1
   refine fD (e:= .exit 0) 2 h1 ?_
   refine yS (yS ?_)
   rw[if_pos rfl,cRz]
   refine fD (e:= .ret) 2 (adA N) ?_
   refine XJ ?_
   refine akY _ fun r H' h=>?_
   rw[acw fun j hj=>hb j (by omega)]; exact h
end
section
open Go.RowKit Go.Proofs
def iK (a r:Int):Sd:=⟨a,r,[⟨0,⟨0,0⟩,0,2,400 - 100*r⟩],if r=1 then[⟨0,⟨0,0⟩,0,1,0⟩] else[⟨4,⟨0,0⟩,0,1,0⟩,⟨4,⟨0,0⟩,1,1,0⟩]⟩
def Qg (own:List Px) (i:Nat):List Px:=match own[i]? with|some p=>if dA p then[p] else[]|none=>[]
def sQ (own:List Px) (i:Nat):Cf:=⟨65001+(i:Int),167772161+(i:Int),90,1000,Qg own i,[]⟩
def zk (n:Int):Nat:=(max 1 (min n 8)).toNat
def IY (m:Nat) (x:Lk):Bool:=decide (0≤x.a)&&decide (x.a < m)&&decide (0≤x.b)&&decide (x.b < m)&& !(x.a==x.b)&&decide (1≤x.r)&&decide (x.r≤3)
def kQ (c:Cf) (s:Sd):Cf:={c with s:=c.s++ [s]}
def uy (t:List Cf) (x:Lk):List Cf:=if IY t.length x then(match t[x.a.toNat]?,t[x.b.toNat]? with
 |some c,some d=>if (idxOf c d.a).isSome then t else(t.set x.a.toNat (kQ c (iK d.a x.r))).set x.b.toNat (kQ d (iK c.a (4 - x.r)))
 |_,_=>t) else t
def Ue (n:Int) (own:List Px) (l:List Lk):List Cf:=l.foldl uy ((List.range (zk n)).map (sQ own))
def BU:Nat→List Cf→List PV
 |_,[]=>[]
 |b,c::r=> .t (i64 c.a):: .t (i64 c.d):: .t (i64 c.h):: .t (i64 c.k):: .t (.sl 2 (c.w.map Px.t)):: .own b::BU (b+1) r
def zW:Nat→List PV
 |0=>[]
 |n+1=> .t (i64 0):: .t (i64 0):: .t (i64 0):: .t (i64 0):: .nil 25 2:: .nil 86 4::zW n
def I7:List Cf→List ah
 | []=>[]
 |c::r=> .row 86 4 (c.s.map Sd.t)::I7 r
def fO (m:Nat) (t:List Cf) (H:List ah):List ah:= .box 22 1 (.own 1):: .vec 56 6 m (BU 2 t++zW (m - t.length))::(I7 t++H)
def sG1 (own:List Px) (l:List Lk) (m:Nat) (t:List Cf):St:=⟨slots 153 [(1,.t (.sl 2 (own.map Px.t))),(2,.t (.sl 3 (l.map Lk.t))),(7,.ptr 0 0),(19,.t (i64 m)),(20,.t (i64 t.length))],fO m t []⟩
def agL (l:List Lk) (t:List Cf):St:=⟨slots 153 [(2,.t (.sl 3 (l.map Lk.t))),(7,.ptr 0 0)],fO t.length t []⟩
def BA (l:List Lk) (j:Int):List (Nat×PV):=[(7,.ptr 0 0),(9,.fn 71 [] [.ptr 0 0]),(55,.t (.sl 3 (l.map Lk.t))),(56,.t (i64 (l.map Lk.t).length)),(57,.t (i64 j))]
def sG2 (l:List Lk) (t:List Cf) (j:Int):St:=⟨slots 153 (BA l j),fO t.length t []⟩
def agM (t:List Cf):St:=⟨slots 153 [(7,.ptr 0 0)],fO t.length t []⟩
def sG3 (l:List Lk) (t:List Cf) (j:Int) (x:Lk) (d:Nat→PV):St:=⟨zT 153 d ((11,.ptr (t.length+2) 0)::BA l j),fO t.length t [.box 67 3 (.t x.t)]⟩
def sG4 (l:List Lk) (t:List Cf) (j:Int) (x:Lk) (b:Bool) (d:Nat→PV):St:=⟨zT 153 d ((11,.ptr (t.length+2) 0)::(13,.t (.bool b))::BA l j),fO t.length t [.box 67 3 (.t x.t)]⟩
variable [Lv]
end
section
open Go.RowKit Go.Proofs
variable [Lv]
def NG (own:List Px) (l:List Lk) (m i:Nat) (H:List ah):St:=⟨slots 153 [(1,.t (.sl 2 (own.map Px.t))),(2,.t (.sl 3 (l.map Lk.t))),(7,.ptr 0 0),(8,.t (i64 i)),(19,.t (i64 m)),(20,.t (i64 i))],H⟩
theorem asJ (N:Nat) (own:List Px) (l:List Lk) (m i:Nat) (H:List ah):(dO env N 32 [3,2] 2 1 (NG own l m i H))=bif decide ((↑i:Int) < (↑(List.map Px.t own).length:Int)) then bV (List.map Px.t own) (↑i:Int) fun e=>cl N 70 [e] fun x=>aj.ok (Ex.norm,{tmps:=slots 153 [(1,PV.t (T.sl 2 (List.map Px.t own))),(2,PV.t (T.sl 3 (List.map Lk.t l))),(7,PV.ptr 0 0),(8,PV.t (i64 (↑i:Int))),(19,PV.t (i64 (↑m:Int))),(20,PV.t (i64 (↑i:Int))),(31,PV.t (i64 (↑i:Int))),(32,PV.t (T.sl 2 (List.map Px.t own))),(33,PV.t (i64 (↑(List.map Px.t own).length:Int))),(34,PV.t (T.bool (decide ((↑i:Int) < (↑(List.map Px.t own).length:Int))))),(35,PV.t (T.bool true)),(36,PV.t (T.sl 2 (List.map Px.t own))),(37,PV.t (i64 (↑i:Int))),(38,PV.rp 2 e 0),(39,PV.t e),(40,PV.t x),(41,PV.t x)],heap:=H}) else aj.ok (Ex.norm,{tmps:=slots 153 [(1,PV.t (T.sl 2 (List.map Px.t own))),(2,PV.t (T.sl 3 (List.map Lk.t l))),(7,PV.ptr 0 0),(8,PV.t (i64 (↑i:Int))),(19,PV.t (i64 (↑m:Int))),(20,PV.t (i64 (↑i:Int))),(31,PV.t (i64 (↑i:Int))),(32,PV.t (T.sl 2 (List.map Px.t own))),(33,PV.t (i64 (↑(List.map Px.t own).length:Int))),(34,PV.t (T.bool (decide ((↑i:Int) < (↑(List.map Px.t own).length:Int))))),(35,PV.t (T.bool false)),(36,PV.au []),(37,PV.au []),(38,PV.au []),(39,PV.au []),(40,PV.au []),(41,PV.t (T.bool false))],heap:=H}):=by kernel_rfl
def anM (own:List Px) (l:List Lk) (m i:Nat) (H:List ah):St:=⟨slots 153 [(1,.t (.sl 2 (own.map Px.t))),(2,.t (.sl 3 (l.map Lk.t))),(7,.ptr 0 0),(8,.t (i64 i)),(19,.t (i64 m)),(20,.t (i64 i)),(41,.t (.bool true))],H⟩
end
end Go.aP
