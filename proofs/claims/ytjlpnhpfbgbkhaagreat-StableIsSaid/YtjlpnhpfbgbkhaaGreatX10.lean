/- The texts of a proof, one behind the other: an interpreter and its soundness, what the functions of the program answer, and plain laws on that. -/
import Derived.Test.YtjlpnhpfbgbkhaaGreatX9
import Derived.Test.YtjlpnhpfbgbkhaaGreatK11
import Derived.Test.YtjlpnhpfbgbkhaaGreatX7
import Derived.Test.YtjlpnhpfbgbkhaaGreatX1
import Derived.Test.YtjlpnhpfbgbkhaaGreatX2
import Derived.Test.YtjlpnhpfbgbkhaaGreatX4
import Derived.Test.YtjlpnhpfbgbkhaaGreatK10
import Derived.Test.YtjlpnhpfbgbkhaaGreatX5
set_option linter.unusedVariables false
set_option linter.unusedSimpArgs false
set_option linter.unnecessarySimpa false
set_option linter.unusedSectionVars false
set_option maxRecDepth 100000
namespace Go.aT
section
open Go.RowKit Go.Proofs
def MI (p:List (T×T×Nat)×Nat) (P:Px→Prop):Prop:=∃ ks,IJ p.1 p.2 ks∧∀ y,y∈ks↔P y
theorem MI.iff {p:List (T×T×Nat)×Nat} {P P':Px→Prop} (h:MI p P) (e:∀ y,P y↔P' y):MI p P':=by
 obtain⟨ks,h1,h2⟩:=h
 exact⟨ks,h1,fun y=>(h2 y).trans (e y)⟩
theorem Gn {α:Type} [DecidableEq α]:∀ (l m:List α),l.Nodup→(∀ x∈l,x∈m)→l.length≤m.length
 | [],m,_,_=>Nat.zero_le _
 |x::l,m,h,hm=>by
  obtain⟨h1,h2⟩:=List.nodup_cons.1 h
  have hx:=hm x List.mem_cons_self
  have:=Gn l (m.erase x) h2 fun y hy=>(List.mem_erase_of_ne (fun(e:y=x)=>h1 (by rw[←e]; exact hy))).2 (hm y (List.mem_cons_of_mem _ hy))
  rw[List.length_erase_of_mem hx] at this
  have:=List.length_pos_of_mem hx
  simp only[List.length_cons]; omega
theorem aae {β:Type} {p:List (T×T×Nat)×Nat} {P:Px→Prop} {x:Px} {L:List Px} (h:MI p P) (hs:∀ y,P y→y∈L) (hL:L.length≤big):(∀ G:List (T×T×Nat)→Nat→ah β,X4 x.t p.1 p.2 G=G (wW p x).1 (wW p x).2)∧MI (wW p x) (fun y=>P y∨y=x):=by
 obtain⟨ks,h1,h2⟩:=h
 have hl:ks.length≤L.length:=Gn ks L h1.nd fun y hy=>hs y ((h2 y).1 hy)
 have hc:p.2≤big:=by have:=h1.cc; have:=h1.len; omega
 obtain⟨b1,b2⟩:=ahC (β:=β) (x:=x) h1 hc
 exact⟨b1,_,b2,fun y=>by rw[UN,h2]⟩
theorem CW {α:Type} {l:List α} {j:Nat} {x y:α} (h:l[j]? =some x):(y∈l.take j∨y=x)↔y∈l.take (j+1):=by
 rw[List.take_add_one,h]; simp
variable [Lv]
theorem aq4 {N:Nat} {c:Cf} {t:List (List En)} (hN:big+80≤N) (h:c.ok) (hL:(iJ c t).length≤big):∃ p,bF (nM env N 76 [] 3) N (sA c t [] 0 0)= .ok (.exit 0,sX c t p.1 p.2)∧MI p (fun y=>y∈c.w):=by
 have hbig:=aU
 have hbw:=h.w.1
 have e:nM env N 76 [] 3=aF env N 76 0 3:=by kernel_rfl
 rw[e]
 obtain⟨h1,h2⟩:=lT (B:=aF env N 76 0 3) (S:=fun(p:List (T×T×Nat)×Nat) j=>sA c t p.1 p.2 (j:Int)) (X:=fun p=>sX c t p.1 p.2) (id:=0) (fun p j=>MI p fun y=>y∈c.w.take j) wW c.w (n:=N) ([],0) (by omega) (fun p j x hx hI=>by
  have hj:j < c.w.length:=(List.getElem?_eq_some_iff.1 hx).1
  obtain⟨b1,b2⟩:=aae (β:=Ex×St) (x:=x) (L:=iJ c t) hI (fun y hy=>List.mem_append_left _ (List.mem_of_mem_take hy)) hL
  refine⟨?_,b2.iff fun y=>CW hx⟩
  refine(ajS _ _ _ _ _ _).trans ?_
  rw[decide_eq_true (show(j:Int) < ((c.w.map Px.t).length:Int) by rw[List.length_map]; omega)]
  simp only[cond_true]
  rw[aA (aC hx),show(x.t.cells.length==2&& !x.t.aY)=true from rfl,aN,wrap_succ (show j≤big by omega)]
  exact b1 fun es cc=>ah.ok (Ex.norm,sA c t es cc ((j+1:Nat):Int))) (fun p hI=>by
  refine(ajS _ _ _ _ _ _).trans ?_
  rw[decide_eq_false (show ¬ ((c.w.length:Nat):Int) < ((c.w.map Px.t).length:Int) by rw[List.length_map]; omega)]
  rfl) ⟨[],⟨rfl,List.nodup_nil,by simp,rfl,rfl⟩,by simp⟩
 exact⟨_,h1,h2.iff fun y=>by rw[List.take_length]⟩
theorem aq6 {N j:Nat} {c:Cf} {t:List (List En)} {n:Int} {p:List (T×T×Nat)×Nat} {r:List En} {P:Px→Prop} (hN:big+80≤N) (hbr:r.length≤big) (e1:t[j]? =some r) (hI:MI p P) (hP:∀ y,P y→y∈iJ c t) (hr:∀ e∈r,e.x∈iJ c t) (hL:(iJ c t).length≤big):
 ∃ p',qE env N 76 8 11 (sC c t p.1 p.2 n (j:Int) r 0)=qF env N 76 0 8 11 (.exit 4) (sB c t p'.1 p'.2 n (j:Int))∧MI p' (fun y=>P y∨y∈r.map En.x):=by
 have hbig:=aU
 obtain⟨h1,h2⟩:=lT (B:=pq env N 76 0 8 11) (S:=fun(p:List (T×T×Nat)×Nat) k=>sC c t p.1 p.2 n (j:Int) r (k:Int)) (X:=fun p=>sB c t p.1 p.2 n (j:Int)) (id:=4) (fun p k=>MI p fun y=>P y∨y∈(r.map En.x).take k) (fun p e=>wW p e.x) r (n:=N) p (by omega) (fun p k e he hI=>by
  have hk:k < r.length:=(List.getElem?_eq_some_iff.1 he).1
  obtain⟨b1,b2⟩:=aae (β:=Ex×St) (x:=e.x) (L:=iJ c t) hI (fun y hy=>hy.elim (hP y) fun hy=>by
   obtain⟨e',he',rfl⟩:=List.mem_map.1 (List.mem_of_mem_take hy)
   exact hr e' he') hL
  refine⟨?_,b2.iff fun y=>by rw[or_assoc,CW (l:=r.map En.x) (x:=e.x) (by rw[List.getElem?_map,he]; rfl)]⟩
  refine(Ue _ _ _ _ _ _ _ _ _).trans ?_
  rw[decide_eq_true (show(k:Int) < ((r.map En.t).length:Int) by rw[List.length_map]; omega)]
  simp only[cond_true]
  rw[aA (aC he),show(e.t.cells.length==6&& !e.t.aY)=true from rfl,aN,wrap_succ (show k≤big by omega)]
  exact b1 fun es cc=>ah.ok (Ex.norm,sC c t es cc n (j:Int) r ((k+1:Nat):Int))) (fun p hI=>by
  refine(Ue _ _ _ _ _ _ _ _ _).trans ?_
  rw[decide_eq_false (show ¬ ((r.length:Nat):Int) < ((r.map En.t).length:Int) by rw[List.length_map]; omega)]
  rfl) (hI.iff fun y=>by simp)
 exact⟨_,oH h1,h2.iff fun y=>by rw[List.take_of_length_le (by simp)]⟩
theorem aq5 {N:Nat} {c:Cf} {t:List (List En)} {p:List (T×T×Nat)×Nat} (hN:big+80≤N) (h:c.ok) (ht:DY t) (hI:MI p fun y=>y∈c.w) (hL:(iJ c t).length≤big):
 ∃ p',bF (nM env N 76 [] 5) N (sB c t p.1 p.2 (dh false [((c.s.map Sd.t).length:Int)] ((t.map fun l=>T.sl 6 (l.map En.t)).length:Int)) 0)= .ok (.exit 2,sX c t p'.1 p'.2)∧MI p' (fun y=>y∈iJ c t):=by
 have hbig:=aU
 have hbt:=ht.1
 have hbs:=h.s.1
 have e:nM env N 76 [] 5=aF env N 76 0 8:=by kernel_rfl
 rw[e,La,List.length_map,List.length_map]
 generalize hn:((min t.length c.s.length:Nat):Int)=n
 have hget:∀ {j:Nat} {r:List En},(t.take c.s.length)[j]? =some r→t[j]? =some r∧j < c.s.length∧j < t.length:=fun {j r} hr=>by
  rw[List.getElem?_take] at hr
  split at hr
  · exact⟨hr,by assumption,(List.getElem?_eq_some_iff.1 hr).1⟩
  · cases hr
 have hmono:∀ j y,(y∈c.w∨y∈((t.take c.s.length).take j).flatMap fun l=>l.map En.x)→y∈iJ c t:=fun j y hy=>by
  unfold iJ
  rw[List.mem_append]
  refine hy.imp id fun hy=>?_
  obtain⟨l,h1,h2⟩:=List.mem_flatMap.1 hy
  exact List.mem_flatMap.2 ⟨l,List.mem_of_mem_take h1,h2⟩
 have main:∀ (p:List (T×T×Nat)×Nat) (j:Nat) (r:List En),(t.take c.s.length)[j]? =some r→MI p (fun y=>y∈c.w∨y∈((t.take c.s.length).take j).flatMap fun l=>l.map En.x)→
  ∃ p',aF env N 76 0 8 (sB c t p.1 p.2 n (j:Int))= .ok (.norm,sB c t p'.1 p'.2 n ((j+1:Nat):Int))∧MI p' (fun y=>y∈c.w∨y∈((t.take c.s.length).take (j+1)).flatMap fun l=>l.map En.x):=fun p j r hr hI=>by
  obtain⟨e1,hj1,hj2⟩:=hget hr
  obtain⟨p',f1,f2⟩:=aq6 (n:=n) hN (ht.2 r (List.mem_of_getElem? e1)).1 e1 hI (hmono j) (fun e he=>by
   unfold iJ
   exact List.mem_append_right _ (List.mem_flatMap.2 ⟨r,List.mem_of_getElem? hr,List.mem_map_of_mem he⟩)) hL
  refine⟨p',?_,f2.iff fun y=>?_⟩
  · refine(ajT _ _ _ _ _ _ _).trans ?_
    rw[decide_eq_true (show(j:Int) < n by omega)]
    simp only[cond_true]
    rw[aA (qN e1)]
    simp only[iO]
    refine f1.trans ?_
    rw[←wrap_succ (show j≤big by omega)]
    exact Nr _ _ _ _ _ _ _
  · rw[List.take_add_one,hr,List.flatMap_append]
    simp[or_assoc]
 have run:∀ (k j:Nat) (M:Nat) (p:List (T×T×Nat)×Nat),j+k=(t.take c.s.length).length→k < M→MI p (fun y=>y∈c.w∨y∈((t.take c.s.length).take j).flatMap fun l=>l.map En.x)→
  ∃ p',bF (aF env N 76 0 8) M (sB c t p.1 p.2 n (j:Int))= .ok (.exit 2,sX c t p'.1 p'.2)∧MI p' (fun y=>y∈iJ c t):=by
  intro k
  induction k with
  |zero=>
   intro j M p hj hM hI
   obtain⟨M,rfl⟩:∃ M',M=M'+1:=⟨M - 1,by omega⟩
   refine⟨p,dV ?_,hI.iff fun y=>?_⟩
   · refine(ajT _ _ _ _ _ _ _).trans ?_
     rw[List.length_take] at hj
     rw[decide_eq_false (show ¬ (j:Int) < n by omega)]
     rfl
   · unfold iJ
     rw[List.take_of_length_le (by omega),List.mem_append]
  |succ k ih=>
   intro j M p hj hM hI
   obtain⟨M,rfl⟩:∃ M',M=M'+1:=⟨M - 1,by omega⟩
   have hlt:j < (t.take c.s.length).length:=by omega
   obtain⟨p1,g1,g2⟩:=main p j _ (List.getElem?_eq_getElem hlt) hI
   obtain⟨p2,g3,g4⟩:=ih (j+1) M p1 (by omega) (by omega) g2
   refine⟨p2,?_,g4⟩
   simp only[bF]
   rw[g1]
   exact g3
 exact run (t.take c.s.length).length 0 N p (by omega) (by rw[List.length_take]; omega) (hI.iff fun y=>by simp)
end
section
open Go.RowKit Go.Proofs
def arb:Oper:={dst:=some 59,op:= .next (.tmp 58) false,type:=0,pos:= "decide.go:48",after:= #[],guard:=none}
def ara:Oper:={dst:=some 61,op:= .entry (.tmp 58),type:=0,pos:= "decide.go:48",after:= #[],guard:=none}
def pI (c:Cf) (t:List (List En)) (ks:List Px) (seen:List Nat):List Ch:=(seen.filterMap fun n=>ks[n]?).filterMap (jZ c t)
theorem adr {c:Cf} {t:List (List En)} {ks:List Px} {seen:List Nat} {n:Nat} {x:Px} (h:ks[n]? =some x):pI c t ks (seen++ [n])=pI c t ks seen++(jZ c t x).toList:=by
 unfold pI
 rw[List.filterMap_append,List.filterMap_append]
 congr 1
 simp only[List.filterMap_cons,h,List.filterMap_nil]
 cases jZ c t x<;>rfl
theorem Qj (c:Cf) (t:List (List En)) (ks:List Px) (seen:List Nat):(pI c t ks seen).length≤seen.length:=Nat.le_trans (List.length_filterMap_le _ _) (List.length_filterMap_le _ _)
theorem ads {ks:List Px} {seen:List Nat} (hn:seen.Nodup) (hk:ks.Nodup) (hs:∀ n∈seen,n < ks.length) (ha:∀ n,n < ks.length→n∈seen):(seen.filterMap fun n=>ks[n]?).Nodup∧∀ y,y∈(seen.filterMap fun n=>ks[n]?)↔y∈ks:=by
 refine⟨?_,fun y=>?_⟩
 · unfold List.Nodup at*
   rw[List.pairwise_filterMap]
   refine List.Pairwise.imp_of_mem (fun {a b} ha' hb' hab x hx y hy e=>?_) hn
   subst e
   obtain⟨h1,h2⟩:=List.getElem?_eq_some_iff.1 hx
   obtain⟨h3,h4⟩:=List.getElem?_eq_some_iff.1 hy
   have hw:=List.pairwise_iff_getElem.1 hk
   rcases Nat.lt_trichotomy a b with hl|hl|hl
   · exact hw a b h1 h3 hl (h2.trans h4.symm)
   · exact hab hl
   · exact hw b a h3 h1 hl (h4.trans h2.symm)
 · rw[List.mem_filterMap]
   constructor
   · rintro⟨n,_,h⟩; exact List.mem_of_getElem? h
   · intro h
     obtain⟨n,h1,h2⟩:=List.getElem_of_mem h
     exact⟨n,ha n h1,by rw[List.getElem?_eq_getElem h1,h2]⟩
theorem IJ.mem {es:List (T×T×Nat)} {cc:Nat} {ks:List Px} (h:IJ es cc ks) {e:T×T×Nat} (he:e∈es):∃ x v,ks[e.2.2]? =some x∧e=(x.t,i64 v,e.2.2)∧e.2.2 < es.length∧X6 es e.2.2=some e:=by
 obtain⟨i,hi,hie⟩:=List.getElem_of_mem he
 have hl:=h.len
 obtain⟨v,hv⟩:=h.at (show i < ks.length by omega)
 rw[List.getElem?_eq_getElem hi,hie] at hv
 simp only[Option.some.injEq] at hv
 have h3:e.2.2=i:=by rw[hv]
 have hst:∀ j (hj:j < es.length),es[j].2.2=j:=fun j hj=>by
  have:=congrArg (fun z=>z[j]?) h.st
  simpa[List.getElem?_range hj,List.getElem?_eq_getElem hj] using this
 refine⟨ks[i],v,by rw[h3,List.getElem?_eq_getElem (by omega)],by rw[h3]; exact hv,by omega,?_⟩
 unfold X6
 rw[List.find?_eq_some_iff_getElem]
 refine⟨by simp,i,hi,hie,fun j hj=>?_⟩
 rw[hst j (by omega),h3]
 simp; omega
variable [Lv]
def aa6 (c:Cf) (t:List (List En)) (es:List ED) (cc:Nat) (ks:List Px) (m:Nat) (st:St):Prop:=∃ seen:List Nat,st=sR c t es cc cc cc seen (pI c t ks seen)∧seen.Nodup∧(∀ n∈seen,n < es.length)∧m+seen.length=es.length
theorem afc {c:Cf} {t:List (List En)} {x:Px} {r:List Ch}:r++(jZ c t x).toList=(match qw (gu c t x) with|some q=>r++ [⟨x,q⟩]|none=>r):=by
 unfold jZ
 cases qw (gu c t x)<;>simp
theorem abI {N:Nat} {c:Cf} {t:List (List En)} {es:List ED} {cc:Nat} {ks:List Px} {Q:Ex→St→Prop} (hN:big+80≤N) (h:c.ok) (ht:DY t) (hm:IJ es cc ks) (hlen:ks.length*128≤big) (hk:∀ x∈ks,x.ok)
 (hend:∀ seen,seen.Nodup→(∀ n∈seen,n < es.length)→(∀ n,n < es.length→n∈seen)→ay env N 76 [] 9 (sE (pI c t ks seen)) Q) (m:Nat) (st:St) (hI:aa6 c t es cc ks m st):
 ay env N 76 ([]++ [8]) 0 st fun e st=>e.kP (∃ m',m' < m∧aa6 c t es cc ks m' (canon 0 (dZ env 76 [] 8).1 st))
  (fun j=>if j=6 then ay env N 76 [] (8+1) (canon 0 (dZ env 76 [] 8).2 st) Q else Q (.exit j) (canon 0 (dZ env 76 [] 8).2 st)) (Q .ret (canon 0 (lD (dW env 76)) st)):=by
 have hbig:=aU
 have hl:=hm.len
 have hcc:=hm.cc
 obtain⟨seen,rfl,hn,hs,hmm⟩:=hI
 show ay env N 76 [8] 0 _ _
 refine yB (by kernel_rfl) (of_decide_eq_true (by kernel_rfl)) ?_
 refine zY (o:=arb) (by kernel_rfl) ?_
 refine step_next (x:= .tmp 58) (l:=2) (m:=3) (since:=cc) (last:=cc) (c:=cc) (seen:=seen) (es:=es) rfl rfl (by kernel_rfl) rfl rfl (fun e he=>?_) ?_ (fun hf=>?_) fun e he=>?_
 · obtain⟨_,_,_,_,h3,_⟩:=hm.mem he; omega
 · cases es with
   |nil=>exact .inr (.inl rfl)
   |cons e0 r=>obtain⟨_,_,_,_,h3,_⟩:=hm.mem (e:=e0) List.mem_cons_self; exact .inr (.inr ⟨e0,List.mem_cons_self,by omega⟩)
 · obtain⟨st',g1,g2⟩:=ahF (zLF N c t es cc cc cc seen (pI c t ks seen))
   refine adS 1 g1 ?_
   show ay env N 76 [] (8+1) (canon 0 (dZ env 76 [] 8).2 st') Q
   rw[g2]
   refine hend seen hn hs fun n hnl=>?_
   have hnk:n < ks.length:=by omega
   obtain⟨v,hv⟩:=hm.at hnk
   have:=List.filter_eq_nil_iff.1 hf _ (List.mem_of_getElem? hv)
   simpa using this
 · obtain⟨he1,he2⟩:=List.mem_filter.1 he
   obtain⟨x,v,k1,k2,k3,k4⟩:=hm.mem he1
   have hns:e.2.2∉seen:=by simpa using he2
   generalize e.2.2=n at k1 k2 k3 k4 hns
   subst k2
   refine adS 1 (atA N c t es cc cc cc seen (pI c t ks seen) x v n) ?_
   refine oC (p:=[8]) (i:=2) (id:=7) (c:=gZ ((aO env 76 [8]).getD 2 .skip)) (by kernel_rfl) (by kernel_rfl) ?_
   show ay env N 76 [8,2] 0 _ _
   refine yB (by kernel_rfl) (of_decide_eq_true (by kernel_rfl)) ?_
   refine zY (o:=ara) (by kernel_rfl) ?_
   refine LX (x:= .tmp 58) (l:=2) (m:=3) (since:=cc) (c:=cc) (n:=n) (seen:=seen) (es:=es) (e:=(x.t,i64 v,n)) rfl rfl (by kernel_rfl) rfl rfl k4 ?_
   show Hl env N 76 [8,2] 0 1 (sT c t es cc cc (seen++ [n]) (pI c t ks seen) x v) _
   have hxo:=hk x (List.mem_of_getElem? k1)
   have hto:=xJ (x:=x) h ht
   have hth:=Ij (c:=c) (t:=t) (x:=x)
   have hq:cO Rt.ok (gu c t x):=⟨by
    have:=Qi (c:=c) (t:=t) (x:=x)
    unfold gu
    cases hcs:dH c with
    |false=>simp
    |true=>
     have:=(ou hcs).2.2.2.2
     have h1:=List.length_filterMap_le (fun(k:Nat)=>(t[k]?).bind fun l=>(pF l x).bind fun p=>wK c (k:Int) x p) (List.range (min t.length c.s.length))
     rw[List.length_range] at h1
     simp only[if_true,List.length_append]
     split<;>simp<;>omega,hto⟩
   obtain⟨M,rfl⟩:=dJ (show 1≤N by omega)
   have z1:=atB (M+1) c t es cc cc (seen++ [n]) (pI c t ks seen) x v
   rw[aH (ahH (by omega) h ht hxo),aH (ahG (by omega) hq),I7] at z1
   simp only[aG,List.getElem?_cons_zero,List.getElem?_cons_succ,tq,aN] at z1
   refine akn (k:=2) z1 ?_
   have hnext:∀ {r':List Ch} {st2:St},r'=pI c t ks (seen++ [n])→canon 0 (dZ env 76 [] 8).1 st2=sR c t es cc cc cc (seen++ [n]) r'→∃ m',m' < m∧aa6 c t es cc ks m' (canon 0 (dZ env 76 [] 8).1 st2):=fun {r' st2} e1 e2=>by
    have hlt:(seen++ [n]).length≤es.length:=Ej _ _ (by
     rw[List.nodup_append]
     exact⟨hn,by simp,fun a ha b hb e=>by rw[List.mem_singleton.1 hb] at e; exact hns (e ▸ ha)⟩) (fun y hy=>by
     rcases List.mem_append.1 hy with hy|hy
     · exact hs y hy
     · rw[List.mem_singleton.1 hy]; exact k3)
    rw[List.length_append,List.length_singleton] at hlt
    refine⟨m - 1,by omega,seen++ [n],by rw[e2,e1],?_,?_,by rw[List.length_append,List.length_singleton]; omega⟩
    · rw[List.nodup_append]
      exact⟨hn,by simp,fun a ha b hb e=>by rw[List.mem_singleton.1 hb] at e; exact hns (e ▸ ha)⟩
    · intro y hy
      rcases List.mem_append.1 hy with hy|hy
      · exact hs y hy
      · rw[List.mem_singleton.1 hy]; exact k3
   have fin:∀ (Q2:Ex→St→Prop) (q:Rt) (b:Bool) (x1 x2:T) (r':List Ch),oN env (M+1) 76 [8,2] 3 1 (sU c t es cc cc (seen++ [n]) (pI c t ks seen) x v x1 x2 q b) (zL env 76 [] 8)= .ok (.norm,sR c t es cc cc cc (seen++ [n]) r')→
    (∀ st2,canon 0 (dZ env 76 [] 8).1 st2=sR c t es cc cc cc (seen++ [n]) r'→Q2 .norm st2)→ay env (M+1) 76 [8,2] (0+1+2) (sU c t es cc cc (seen++ [n]) (pI c t ks seen) x v x1 x2 q b) Q2:=fun Q2 q b x1 x2 r' hz hQ=>by
    obtain⟨st2,y1,y2⟩:=agm hz
    refine fF (e:= .norm) 1 y1 ?_
    exact kU (by kernel_rfl) (hQ st2 y2)
   have htk:=Qj c t ks seen
   have hsl:seen.length≤es.length:=by omega
   have hadd:=adr (c:=c) (t:=t) (seen:=seen) k1
   rw[afc] at hadd
   cases hb:qw (gu c t x) with
   |none=>
    rw[hb] at hadd
    exact fin _ zRt false _ _ (pI c t ks seen) (agE _ _ _ _ _ _ _ _ _ _ _ _ _) fun st2 e2=>kU (by kernel_rfl) (hnext hadd.symm e2)
   |some q=>
    rw[hb] at hadd
    refine fin _ q true _ _ (pI c t ks seen++ [⟨x,q⟩]) ?_ fun st2 e2=>kU (by kernel_rfl) (hnext hadd.symm e2)
    rw[ajz]
    rw[show ∀ K:ah (Ex×St),bW (T.mF 8) [T.agg [i64 x.a,i64 x.n,i64 q.n,i64 q.p.o,T.sl 1 (ints q.p.s),i64 q.p.h,i64 q.p.c,i64 q.f]] K=K from fun K=>rfl,decide_eq_true (by rw[List.length_map]; omega),aN]
    unfold sR
    rw[List.map_append]; rfl
end
section
theorem lV {α:Type} {f:α→T} (h:∀ a b,f a=f b→a=b):∀ {l m:List α},l.map f=m.map f→l=m
 | [],[],_=>rfl
 | [],_::_,e=>by simp at e
 |_::_,[],e=>by simp at e
 |a::l,b::m,e=>by
  simp only[List.map_cons,List.cons.injEq] at e
  rw[h a b e.1,lV h e.2]
theorem eF (a b:Int) (h:i64 a=i64 b):a=b:=by injection h
theorem Y1 {l m:List Int} (h:ints l=ints m):l=m:=lV eF h
theorem Px.tells (x y:Px) (h:x.t=y.t):x=y:=by
 cases x; cases y
 simp only[Px.t,T.agg.injEq,List.cons.injEq,and_true] at h
 rw[eF _ _ h.1,eF _ _ h.2]
theorem En.tells (x y:En) (h:x.t=y.t):x=y:=by
 obtain⟨⟨a,n⟩,⟨o,s,hh,c⟩⟩:=x
 obtain⟨⟨a',n'⟩,⟨o',s',hh',c'⟩⟩:=y
 simp only[En.t,T.agg.injEq,List.cons.injEq,T.sl.injEq,and_true,true_and] at h
 obtain⟨h1,h2,h3,h4,h5,h6⟩:=h
 rw[eF _ _ h1,eF _ _ h2,eF _ _ h3,Y1 h4,eF _ _ h5,eF _ _ h6]
theorem Ru.tells (x y:Ru) (h:x.t=y.t):x=y:=by
 obtain⟨m,⟨a,n⟩,v,b,k⟩:=x
 obtain⟨m',⟨a',n'⟩,v',b',k'⟩:=y
 simp only[Ru.t,T.agg.injEq,List.cons.injEq,and_true] at h
 obtain⟨h1,h2,h3,h4,h5,h6⟩:=h
 rw[eF _ _ h1,eF _ _ h2,eF _ _ h3,eF _ _ h4,eF _ _ h5,eF _ _ h6]
theorem Sd.tells (x y:Sd) (h:x.t=y.t):x=y:=by
 obtain⟨a,r,i,o⟩:=x
 obtain⟨a',r',i',o'⟩:=y
 simp only[Sd.t,T.agg.injEq,List.cons.injEq,T.sl.injEq,and_true,true_and] at h
 obtain⟨h1,h2,h3,h4⟩:=h
 rw[eF _ _ h1,eF _ _ h2,lV Ru.tells h3,lV Ru.tells h4]
theorem Cf.tells (x y:Cf) (h:x.t=y.t):x=y:=by
 obtain⟨a,d,k,m,w,s⟩:=x
 obtain⟨a',d',k',m',w',s'⟩:=y
 simp only[Cf.t,T.agg.injEq,List.cons.injEq,T.sl.injEq,and_true,true_and] at h
 obtain⟨h1,h2,h3,h4,h5,h6⟩:=h
 rw[eF _ _ h1,eF _ _ h2,eF _ _ h3,eF _ _ h4,lV Px.tells h5,lV Sd.tells h6]
theorem ZT {t t':List (List En)} (h:(t.map fun l=>T.sl 6 (l.map En.t))=t'.map fun l=>T.sl 6 (l.map En.t)):t=t':=lV (fun a b e=>by
 simp only[T.sl.injEq,true_and] at e
 exact lV En.tells e) h
end
section
open Go.RowKit Go.Proofs
def ard:Oper:={dst:=some 79,op:= .call {callee:= .value (.func 102),args:= #[.tmp 78,.func 103],argTypes:= #[40,126]},type:=0,pos:= "decide.go:53",after:= #[{on:=0,ground:= .data}],guard:=none}
theorem ajr {c:Cf} {t:List (List En)} (h:c.ok) (ht:DY t):∀ x∈iJ c t,x.ok:=fun x hx=>by
 unfold iJ at hx
 rcases List.mem_append.1 hx with hx|hx
 · exact h.w.2 x hx
 · obtain⟨l,h1,h2⟩:=List.mem_flatMap.1 hx
   obtain⟨e,h3,rfl⟩:=List.mem_map.1 h2
   exact((ht.2 l (List.mem_of_mem_take h1)).2 e h3).x
variable [Lv]
theorem abm {c:Cf} {t:List (List En)} {x:Px} {e:Ch} (h:c.ok) (ht:DY t) (hx:x.ok) (he:jZ c t x=some e):e.ok:=by
 obtain⟨h1,h2⟩:=ku.1 he
 exact⟨by rw[h1]; exact hx,xJ h ht _ (mY h2).1⟩
theorem agy {M:Nat} (hM:60≤M):ak env M 102 [T.sl 8 [],T.fn 103 [] []]= .ok (.au []):=by
 obtain⟨m,rfl⟩:∃ m,M=(m+30)+30:=⟨M - 60,by omega⟩
 exact abk (CY:=[]) aju 30 (by kernel_rfl)
def anM (l:List Ch):PV→List aj→Prop:=fun r H'=>aW env 76 r H'= .ok (.sl 8 (l.map Ch.t))
theorem aaI {l:List Ch} {st:St} (h1:iZ env st (dW env 76).results.toList (fun ps=>(.ok (wY ps,st.heap):ah (PV×List aj)))= .ok (.own 0,[.row 46 8 (l.map Ch.t)])):AZ env (dW env 76) (anM l) st:=⟨_,_,h1,rfl⟩
theorem afJ {N:Nat} (he:nK env) (hN:big+80≤N) {c:Cf} {t:List (List En)} (h:c.ok) (ht:DY t) (hr:uY c t):O4 env (aJ env N) 76 ([c.t,.sl 1 (fP t)].map .t) [] (anM (iM c t)):=by
 have hbig:=aU
 unfold uY at hr
 have hL:(iJ c t).length≤big:=by omega
 refine Dj ⟨dW env 76,by kernel_rfl,by kernel_rfl⟩ ?_
 obtain⟨p,a1,a2⟩:=aq4 (N:=N) (t:=t) hN h hL
 refine Hq (i:=0) 3 (id:=0) (s:=sA c t [] 0 0) (X:=sX c t p.1 p.2) (c:=gZ ((aO env 76 []).getD 3 .skip)) (zLA N c t) (by kernel_rfl) a1 ?_
 obtain⟨p',b1,b2⟩:=aq5 hN h ht a2 hL
 refine Hq (i:=4) 1 (id:=2) (X:=sX c t p'.1 p'.2) (c:=gZ ((aO env 76 []).getD 5 .skip)) (zLB N c t p.1 p.2) (by kernel_rfl) b1 ?_
 obtain⟨ks,hm,hks⟩:=b2
 have hkl:ks.length≤(iJ c t).length:=Gn ks _ hm.nd fun y hy=>(hks y).1 hy
 obtain⟨st',g1,g2⟩:=zS (zLR N c t p'.1 p'.2)
 have anX:∀ x∈ks,x.ok:=fun x hx=>ajr h ht x ((hks x).1 hx)
 refine QL (i:=6) 2 g1 ?_
 refine xC (i:=6+2) (id:=6) (c:=gZ ((aO env 76 []).getD 8 .skip)) (by kernel_rfl) (by kernel_rfl) (aa6 c t p'.1 p'.2 ks) (m:=p'.1.length) ?_ fun m st hI=>abI hN h ht hm (by omega) anX ?_ m st hI
 · show aa6 c t p'.1 p'.2 ks p'.1.length (canon 0 (dZ env 76 [] 8).1 st')
   rw[g2]
   exact⟨[],rfl,List.nodup_nil,by simp,by simp⟩
 intro seen hn hs hall
 have hlen:=hm.len
 obtain⟨v1,v2⟩:=ads hn hm.nd (fun n hx=>by have:=hs n hx; omega) fun n hx=>hall n (by omega)
 have hv:∀ x,x∈(seen.filterMap fun n=>ks[n]?)↔x∈iJ c t:=fun x=>(v2 x).trans (hks x)
 have hsl:seen.length≤ks.length:=by rw[←hlen]; exact Ej _ _ hn hs
 have htl:=Qj c t ks seen
 have an2:cO Ch.ok (pI c t ks seen):=⟨by omega,fun e he=>by
  obtain⟨x,h1,h2⟩:=List.mem_filterMap.1 he
  exact abm h ht (anX x ((v2 x).1 h1)) h2⟩
 by_cases hne:pI c t ks seen= []
 · rw[hne]
   have hz:=zLE N
   rw[aH (agy (by omega))] at hz
   refine fF (e:= .ret) 3 hz ?_
   have:iM c t= []:=(KZ (ys:=[]) hv v1 (by rw[show(seen.filterMap fun n=>ks[n]?).filterMap (jZ c t)= [] from hne]) List.Pairwise.nil).symm
   rw[this]
   exact aaI (l:=[]) (by kernel_rfl)
 · generalize hl:pI c t ks seen=l at hne an2 htl
   refine yB (by kernel_rfl) (of_decide_eq_true (by kernel_rfl)) ?_
   refine ao9 1 (aoK N l) ?_
   refine zY (o:=ard) (by kernel_rfl) ?_
   refine acR (l:=0) (e:=46) (k:=8) (xs:=l.map Ch.t) (rest:=[.fn 103 [] []]) rfl rfl (by kernel_rfl) rfl (by simpa using hne) (Wp he hne an2) ?_
   rintro ys ⟨m,rfl,m1,m2⟩
   refine ai9 (by kernel_rfl) ?_
   have hz:=atz N l m
   rw[aoK] at hz
   refine fF (e:= .ret) 2 hz ?_
   have:m=iM c t:=KZ hv v1 (by unfold pI at hl; rw[hl]; exact m1) m2
   rw[this]
   exact aaI (l:=iM c t) (by kernel_rfl)
noncomputable def Po (ts:List T):ah T:=open Classical in if h:∃ q:Cf×List (List En),ts= [q.1.t,.sl 1 (fP q.2)]∧q.1.ok∧DY q.2∧uY q.1 q.2 then .ok (.sl 8 ((iM h.choose.1 h.choose.2).map Ch.t)) else .stuck
theorem aaH {c:Cf} {t:List (List En)} (h:c.ok) (ht:DY t) (hr:uY c t):Po [c.t,.sl 1 (fP t)]= .ok (.sl 8 ((iM c t).map Ch.t)):=by
 have hx:∃ q:Cf×List (List En),[c.t,.sl 1 (fP t)]= [q.1.t,.sl 1 (fP q.2)]∧q.1.ok∧DY q.2∧uY q.1 q.2:=⟨(c,t),rfl,h,ht,hr⟩
 unfold Po
 rw[dif_pos hx]
 have e:=hx.choose_spec.1
 generalize hx.choose=q at e ⊢
 obtain⟨c',t'⟩:=q
 simp only[List.cons.injEq,T.sl.injEq,and_true,true_and] at e
 have e1:=Cf.tells _ _ e.1
 have e2:t=t':=ZT e.2
 subst e1; subst e2
 rfl
end
section
open Go.RowKit Go.Proofs
theorem Bf {α β:Type} (f:α→β):∀ (l:List α) (i:Nat),(l.eraseIdx i).map f=(l.map f).eraseIdx i
 | [],_=>rfl
 |_::_,0=>rfl
 |a::l,i+1=>by rw[List.eraseIdx_cons_succ,List.map_cons,List.map_cons,List.eraseIdx_cons_succ,Bf f l i]
structure jC (es:List (T×T×Nat)) (cc:Nat) (ks:List Nat):Prop where
 keys:es.map (·.1)=ks.map fun(j:Nat)=>i64 (j:Int)
 nd:ks.Nodup
 vals:∀ e∈es,∃ n,e.2.1=i64 n
 st:(es.map (·.2.2)).Pairwise (· < ·)
 lt:∀ e∈es,e.2.2 < cc
theorem jC.nil (cc:Nat):jC [] cc []:=⟨rfl,List.nodup_nil,by simp,by simp,by simp⟩
theorem jC.len {es:List (T×T×Nat)} {cc:Nat} {ks:List Nat} (h:jC es cc ks):es.length=ks.length:=by have:=congrArg List.length h.keys; simpa using this
theorem jC.at {es:List (T×T×Nat)} {cc:Nat} {ks:List Nat} (h:jC es cc ks) {i:Nat} (hi:i < ks.length):∃ n b,es[i]? =some (i64 (ks[i]:Int),i64 n,b)∧b < cc:=by
 have hl:=h.len
 have e0:es[i]? =some es[i]:=List.getElem?_eq_getElem (by omega)
 have h1:=congrArg (fun z=>z[i]?) h.keys
 simp only[List.getElem?_map,e0,Option.map_some,List.getElem?_eq_getElem hi,Option.some.injEq] at h1
 obtain⟨n,hn⟩:=h.vals _ (List.mem_of_getElem? e0)
 have hlt:=h.lt _ (List.mem_of_getElem? e0)
 refine⟨n,es[i].2.2,e0.trans (congrArg some ?_),hlt⟩
 generalize es[i]=e at h1 hn
 obtain⟨e1,e2,e3⟩:=e
 simp only at h1 hn
 subst h1; subst hn; rfl
theorem jC.strike {es:List (T×T×Nat)} {cc:Nat} {ks:List Nat} (h:jC es cc ks) (i:Nat):jC (es.eraseIdx i) cc (ks.eraseIdx i) where
 keys:=by rw[Bf,h.keys,Bf]
 nd:=h.nd.sublist (List.eraseIdx_sublist _ _)
 vals e he:=h.vals e (List.mem_of_mem_eraseIdx he)
 st:=by rw[Bf]; exact h.st.sublist (List.eraseIdx_sublist _ _)
 lt e he:=h.lt e (List.mem_of_mem_eraseIdx he)
theorem jC.add {es:List (T×T×Nat)} {cc:Nat} {ks:List Nat} (h:jC es cc ks) {j:Nat} (hj:j∉ks) (n:Int):jC (es++ [(i64 (j:Int),i64 n,cc)]) (cc+1) (ks++ [j]) where
 keys:=by rw[List.map_append,List.map_append,h.keys]; rfl
 nd:=by
  rw[List.nodup_append]
  exact⟨h.nd,by simp,fun a ha b hb e=>by rw[List.mem_singleton.1 hb] at e; exact hj (e ▸ ha)⟩
 vals e he:=by
  rcases List.mem_append.1 he with he|he
  · exact h.vals e he
  · rw[List.mem_singleton.1 he]; exact⟨n,rfl⟩
 st:=by
  rw[List.map_append,List.pairwise_append]
  refine⟨h.st,by simp,fun a ha b hb=>?_⟩
  obtain⟨e,he,rfl⟩:=List.mem_map.1 ha
  have:=h.lt e he
  simp at hb
  omega
 lt e he:=by
  rcases List.mem_append.1 he with he|he
  · have:=h.lt e he; omega
  · rw[List.mem_singleton.1 he]; show cc < cc+1; omega
theorem afk (a b:Int):T.eX [0] [i64 a] [i64 b]=some (a==b):=by simp[T.eX]
theorem OW {x:Nat}:∀ (es:List (T×T×Nat)) (ks:List Nat) (i:Nat),es.map (·.1)=(ks.map fun(j:Nat)=>i64 (j:Int))→
 jh [0] (i64 (x:Int)) es i=some (match ks.findIdx? (fun y=>decide (x=y)) with|none=>none|some j=>(es[j]?).map fun e=>(i+j,e.2.1,e.2.2))
 | [],[],i,_=>rfl
 | [],_::_,_,h=>by simp at h
 |_::_,[],_,h=>by simp at h
 |e::es,k::ks,i,h=>by
  simp only[List.map_cons,List.cons.injEq] at h
  unfold jh
  rw[h.1,show T.flat [0] (i64 (x:Int))= [i64 (x:Int)] from rfl,show T.flat [0] (i64 (k:Int))= [i64 (k:Int)] from rfl,afk,List.findIdx?_cons]
  by_cases hx:x=k
  · subst hx; simp
  · rw[decide_eq_false hx,show((x:Int)==(k:Int))=false from beq_eq_false_iff_ne.2 (by omega)]
    simp only[Bool.false_eq_true,if_false]
    rw[OW es ks (i+1) h.2]
    cases ks.findIdx? (fun y=>decide (x=y)) with
    |none=>rfl
    |some j=>
     simp only[Option.map_some,List.getElem?_cons_succ]
     cases es[j]? with
     |none=>rfl
     |some e'=>simp only[Option.map_some]; congr 3; omega
theorem Jl (x:Int):jB [0] (i64 x)=true:=rfl
theorem findD {es:List (T×T×Nat)} {cc:Nat} {ks:List Nat} (h:jC es cc ks) (x:Nat):(x∉ks∧jh [0] (i64 (x:Int)) es 0=some none)∨
 ∃ i a b,ks[i]? =some x∧es[i]? =some (i64 (x:Int),i64 a,b)∧jh [0] (i64 (x:Int)) es 0=some (some (i,i64 a,b)):=by
 have hf:=OW (x:=x) es ks 0 h.keys
 cases hk:ks.findIdx? (fun y=>decide (x=y)) with
 |none=>
  rw[hk] at hf
  exact .inl ⟨fun hx=>by have:=List.findIdx?_eq_none_iff.1 hk x hx; simp at this,hf⟩
 |some j=>
  rw[hk] at hf
  obtain⟨hj,XH,_⟩:=List.findIdx?_eq_some_iff_getElem.1 hk
  have hxk:x=ks[j]:=by simpa using XH
  obtain⟨a,b,ha,_⟩:=h.at hj
  rw[←hxk] at ha
  simp only[ha,Option.map_some,Nat.zero_add] at hf
  exact .inr ⟨j,a,b,by rw[List.getElem?_eq_getElem hj,hxk],ha,hf⟩
theorem Ic {α β:Type} (f:α→β) {l:List α} {i:Nat} {a b:α} (h:l[i]? =some a) (e:f b=f a):(l.set i b).map f=l.map f:=by
 rw[List.map_set,e]
 refine List.ext_getElem? fun k=>?_
 rw[List.getElem?_set]
 split
 · rename_i e; subst e
   rw[List.length_map,if_pos (List.getElem?_eq_some_iff.1 h).1,List.getElem?_map,h]; rfl
 · rfl
theorem jC.put {es:List (T×T×Nat)} {cc:Nat} {ks:List Nat} (h:jC es cc ks) {i:Nat} {k:T} {a b:Nat} {v:T} (he:es[i]? =some (k,v,b)) (n:Int):jC (es.set i (k,i64 n,b)) cc ks where
 keys:=by rw[Ic _ he (b:=(k,i64 n,b)) rfl]; exact h.keys
 nd:=h.nd
 vals e hm:=by
  rcases List.mem_or_eq_of_mem_set hm with hm|hm
  · exact h.vals e hm
  · rw[hm]; exact⟨n,rfl⟩
 st:=by rw[Ic _ he (b:=(k,i64 n,b)) rfl]; exact h.st
 lt e hm:=by
  rcases List.mem_or_eq_of_mem_set hm with hm|hm
  · exact h.lt e hm
  · rw[hm]; exact h.lt (k,v,b) (List.mem_of_getElem? he)
def addN (ks:List Nat) (x:Nat):List Nat:=if x∈ks then ks else ks++ [x]
theorem UO {ks:List Nat} {x y:Nat}:y∈addN ks x↔y∈ks∨y=x:=by
 unfold addN
 split
 · rename_i h
   exact⟨.inl,fun h2=>h2.elim id fun e=>e ▸ h⟩
 · simp
def Q5 {β:Type} (x:Nat) (es:List (T×T×Nat)) (cc:Nat) (G:List (T×T×Nat)→Nat→ah β):ah β:=
 chk (jB [0] (i64 (x:Int))) (fA [0] (i64 (x:Int)) es (chk (jB [0] (i64 (x:Int))) (fA [0] (i64 (x:Int)) es (G (es++ [(i64 (x:Int),i64 1,cc)]) (cc+1)) fun i _ b=>G (es.set i (i64 (x:Int),i64 1,b)) cc))
  fun _ v _=>iT IntKind.i64 v fun a=>chk (jB [0] (i64 (x:Int))) (fA [0] (i64 (x:Int)) es (G (es++ [(i64 (x:Int),i64 (IntKind.i64.wrap (a+1)),cc)]) (cc+1)) fun i _ b=>G (es.set i (i64 (x:Int),i64 (IntKind.i64.wrap (a+1)),b)) cc))
theorem abj {β:Type} {es:List (T×T×Nat)} {cc:Nat} {ks:List Nat} (h:jC es cc ks) {x:Nat} (hx:x∉ks) (G:List (T×T×Nat)→Nat→ah β):Q5 x es cc G=G (es++ [(i64 (x:Int),i64 1,cc)]) (cc+1):=by
 rcases findD h x with ⟨_,hf⟩|⟨i,_,_,hi,_,_⟩
 · unfold Q5 fA
   rw[Jl,aN,hf]
   simp only[aN]
 · exact absurd (List.mem_of_getElem? hi) hx
theorem Ug {es:List (T×T×Nat)} {cc:Nat} {ks:List Nat} (h:jC es cc ks) (x:Nat):∃ es' cc',jC es' cc' (addN ks x)∧∀ {β:Type} (G:List (T×T×Nat)→Nat→ah β),Q5 x es cc G=G es' cc':=by
 unfold addN
 rcases findD h x with ⟨hx,_⟩|⟨i,a,b,hi,he,hf⟩
 · rw[if_neg hx]
   exact⟨_,_,h.add hx 1,fun G=>abj h hx G⟩
 · rw[if_pos (List.mem_of_getElem? hi)]
   refine⟨_,_,h.put (a:=0) he (IntKind.i64.wrap (a+1)),fun G=>?_⟩
   unfold Q5 fA
   rw[Jl,aN,hf]
   simp only[aN,dI]
def Ones (es:List (T×T×Nat)):Prop:=∀ e∈es,e.2.1=i64 1
theorem Ones.add {es:List (T×T×Nat)} (h:Ones es) (k:T) (c:Nat):Ones (es++ [(k,i64 1,c)]):=fun e he=>by
 rcases List.mem_append.1 he with he|he
 · exact h e he
 · rw[List.mem_singleton.1 he]
theorem Ec {β:Type} {es:List (T×T×Nat)} {cc:Nat} {ks:List Nat} (h:jC es cc ks) (ho:Ones es) (x:Nat) (A:ah β) (B:Nat→T→Nat→ah β):(x∉ks∧fA [0] (i64 (x:Int)) es A B=A)∨(x∈ks∧∃ i b,fA [0] (i64 (x:Int)) es A B=B i (i64 1) b):=by
 unfold fA
 rcases findD h x with ⟨hx,hf⟩|⟨i,a,b,hi,he,hf⟩
 · rw[hf]; exact .inl ⟨hx,rfl⟩
 · rw[hf]
   have:=ho _ (List.mem_of_getElem? he)
   simp only at this
   rw[this]
   exact .inr ⟨List.mem_of_getElem? hi,i,b,rfl⟩
theorem L8 {ks:List Nat} (hn:ks.Nodup) {i x y:Nat} (hi:ks[i]? =some x):y∈ks.eraseIdx i↔y∈ks∧y≠x:=by
 rw[List.mem_eraseIdx_iff_getElem]
 obtain⟨hl,hx⟩:=List.getElem?_eq_some_iff.1 hi
 constructor
 · rintro⟨k,hk,hne,rfl⟩
   refine⟨List.getElem_mem _,fun e=>hne ?_⟩
   rw[←hx] at e
   exact(List.getElem_inj hn).1 e
 · rintro⟨hy,hne⟩
   obtain⟨k,hk,rfl⟩:=List.getElem_of_mem hy
   exact⟨k,hk,fun e=>hne (by subst e; exact hx),rfl⟩
theorem jC.mem {es:List (T×T×Nat)} {cc:Nat} {ks:List Nat} (h:jC es cc ks) {e:T×T×Nat} (he:e∈es):∃ (x:Nat) (n:Int),x∈ks∧e=(i64 (x:Int),i64 n,e.2.2)∧X6 es e.2.2=some e:=by
 obtain⟨i,hi,hie⟩:=List.getElem_of_mem he
 have hl:=h.len
 obtain⟨n,b,hv,_⟩:=h.at (show i < ks.length by omega)
 rw[List.getElem?_eq_getElem hi,hie] at hv
 simp only[Option.some.injEq] at hv
 refine⟨ks[i],n,List.getElem_mem _,by rw[hv],?_⟩
 unfold X6
 rw[List.find?_eq_some_iff_getElem]
 refine⟨by simp,i,hi,hie,fun j hj=>?_⟩
 have:=List.pairwise_iff_getElem.1 h.st j i (by rw[List.length_map]; omega) (by rw[List.length_map]; omega) hj
 simp only[List.getElem_map] at this
 rw[hie] at this
 simp; omega
theorem Bg:∀ (n:Nat) (l:List Nat),l.Nodup→(∀ x∈l,x < n)→l.length≤n
 |0,[],_,_=>Nat.le_refl _
 |0,x::l,_,h=>absurd (h x List.mem_cons_self) (Nat.not_lt_zero _)
 |n+1,l,hn,h=>by
  by_cases hm:n∈l
  · have h1:=Bg n (l.erase n) (hn.erase n) fun x hx=>by
     have h2:=h x (List.mem_of_mem_erase hx)
     have h3:x≠n:=fun e=>by rw[e] at hx; exact(List.Nodup.not_mem_erase hn) hx
     omega
    rw[List.length_erase_of_mem hm] at h1
    omega
  · exact Nat.le_succ_of_le (Bg n l hn fun x hx=>by
     have h2:=h x hx
     have h3:x≠n:=fun e=>hm (e ▸ hx)
     omega)
def Mc (gs ks:List Nat) (x:Nat):List Nat:=if x∈gs then ks else addN ks x
theorem TV {gs:List Nat} {y:Nat}:∀ (l ks:List Nat),y∈l.foldl (Mc gs) ks↔y∈ks∨(y∈l∧y∉gs)
 | [],ks=>by simp
 |x::l,ks=>by
  rw[List.foldl_cons,TV l]
  unfold Mc
  by_cases hx:x∈gs
  · rw[if_pos hx,List.mem_cons]
    constructor
    · rintro(h|⟨h,h2⟩)
      · exact .inl h
      · exact .inr ⟨.inr h,h2⟩
    · rintro(h|⟨rfl|h,h2⟩)
      · exact .inl h
      · exact absurd hx h2
      · exact .inr ⟨h,h2⟩
  · rw[if_neg hx,UO,List.mem_cons]
    constructor
    · rintro((h|rfl)|⟨h,h2⟩)
      · exact .inl h
      · exact .inr ⟨.inl rfl,hx⟩
      · exact .inr ⟨.inr h,h2⟩
    · rintro(h|⟨rfl|h,h2⟩)
      · exact .inl (.inl h)
      · exact .inl (.inr rfl)
      · exact .inr ⟨h,h2⟩
end
section
open Go.RowKit Go.Proofs
variable [Lv]
abbrev eU:Type:=T×T×Nat
def sRa (t:List Cf) (i:Int):St:=⟨slots 70 [(0,.t (.sl 6 (t.map Cf.t))),(13,.t (i64 (t.map Cf.t).length)),(14,.t (i64 i))],[]⟩
def YD (t:List Cf) (i:Int) (b:Bool):St:=⟨slots 70 [(0,.t (.sl 6 (t.map Cf.t))),(13,.t (i64 (t.map Cf.t).length)),(14,.t (i64 i)),(15,.t (.bool b))],[]⟩
def sRb (t:List Cf) (i:Int) (we:List eU) (wc:Nat) (ge:List eU) (gc:Nat) (xs:List T) (n k:Int):St:=⟨slots 70 [(0,.t (.sl 6 (t.map Cf.t))),(4,.t (i64 i)),(5,.mp 0),(6,.mp 1),(13,.t (i64 (t.map Cf.t).length)),(14,.t (i64 i)),(21,.t (.sl 1 xs)),(22,.t (i64 n)),(23,.t (i64 k))],[.map we wc,.map ge gc]⟩
def wB (t:List Cf) (i:Int) (we:List eU) (wc:Nat) (ge:List eU) (gc:Nat):St:=⟨slots 70 [(0,.t (.sl 6 (t.map Cf.t))),(4,.t (i64 i)),(5,.mp 0),(6,.mp 1),(13,.t (i64 (t.map Cf.t).length)),(14,.t (i64 i))],[.map we wc,.map ge gc]⟩
def sRx (t:List Cf) (i:Int) (ge:List eU) (gc:Nat):St:=⟨slots 70 [(0,.t (.sl 6 (t.map Cf.t))),(4,.t (i64 i)),(6,.mp 0),(13,.t (i64 (t.map Cf.t).length)),(14,.t (i64 i))],[.map ge gc]⟩
def sRr (t:List Cf) (i:Int) (we:List eU) (wc:Nat) (ge:List eU) (gc since last:Nat) (seen:List Nat):St:=⟨slots 70 [(0,.t (.sl 6 (t.map Cf.t))),(4,.t (i64 i)),(5,.mp 0),(6,.mp 1),(13,.t (i64 (t.map Cf.t).length)),(14,.t (i64 i)),(36,.ptr 2 0)],[.map we wc,.map ge gc,.iter 0 since seen last]⟩
def ag6 (t:List Cf) (i:Int) (we:List eU) (wc:Nat) (ge:List eU) (gc:Nat) (n:Int) (b:Bool):St:=⟨slots 70 [(0,.t (.sl 6 (t.map Cf.t))),(4,.t (i64 i)),(5,.mp 0),(6,.mp 1),(13,.t (i64 (t.map Cf.t).length)),(14,.t (i64 i)),(32,.mp 0),(33,.t (i64 n)),(34,.t (.bool b))],[.map we wc,.map ge gc]⟩
def aq9 (st:St) (d l m since cc:Nat) (seen:List Nat) (e:T×T×Nat):St:=⟨dL st.tmps (some d) (.t (.au [.bool true,e.1,e.2.1])),st.heap.set l (.iter m since (seen++ [e.2.2]) cc)⟩
def sRe (t:List Cf) (i:Int) (we:List eU) (wc:Nat) (ge:List eU) (gc:Nat) (j v:Int) (n:Nat):St:=⟨slots 70 [(0,.t (.sl 6 (t.map Cf.t))),(4,.t (i64 i)),(5,.mp 0),(6,.mp 1),(13,.t (i64 (t.map Cf.t).length)),(14,.t (i64 i)),(36,.ptr 2 0),(37,.t (.au [.bool true,i64 j,i64 v])),(38,.t (.bool true)),(39,.t (.au [i64 j,i64 v]))],[.map we wc,.map ge gc,.iter 0 wc [n] wc]⟩
def sRd (t:List Cf) (i:Int) (we:List eU) (wc:Nat) (ge:List eU) (gc:Nat) (j v:Int) (n:Nat):St:=⟨slots 70 [(0,.t (.sl 6 (t.map Cf.t))),(4,.t (i64 i)),(5,.mp 0),(6,.mp 1),(9,.t (i64 j)),(13,.t (i64 (t.map Cf.t).length)),(14,.t (i64 i)),(36,.ptr 2 0),(37,.t (.au [.bool true,i64 j,i64 v])),(38,.t (.bool true)),(39,.t (.au [i64 j,i64 v])),(40,.t (i64 j))],[.map we wc,.map ge gc,.iter 0 wc [n] wc]⟩
def atj (t:List Cf) (i:Int) (we:List eU) (wc:Nat) (ge:List eU) (gc:Nat) (j:Int) (o:aj):St:=⟨slots 70 [(0,.t (.sl 6 (t.map Cf.t))),(4,.t (i64 i)),(5,.mp 0),(6,.mp 1),(9,.t (i64 j)),(13,.t (i64 (t.map Cf.t).length)),(14,.t (i64 i))],[.map we wc,.map ge gc,o]⟩
def sRg (t:List Cf) (i:Int) (we:List eU) (wc:Nat) (ge:List eU) (gc:Nat) (xs:List T) (n k:Int):St:=⟨slots 70 [(0,.t (.sl 6 (t.map Cf.t))),(4,.t (i64 i)),(5,.mp 0),(6,.mp 1),(13,.t (i64 (t.map Cf.t).length)),(14,.t (i64 i)),(49,.t (.sl 1 xs)),(50,.t (i64 n)),(51,.t (i64 k))],[.map we wc,.map ge gc]⟩
theorem adz (N:Nat) (t:List Cf) (i:Int):dO env N 60 [2] 0 2 (sRa t i)=bif decide (i < (↑(List.map Cf.t t).length:Int)) then ah.ok (Ex.norm,YD t i (decide (i < (↑(List.map Cf.t t).length:Int)))) else ah.ok (Ex.exit 0,YD t i (decide (i < (↑(List.map Cf.t t).length:Int)))):=by kernel_rfl
theorem Qm (N:Nat) (t:List Cf) (i:Int) (we:List eU) (wc:Nat) (ge:List eU) (gc:Nat) (xs:List T) (n k:Int):nM env N 60 [2,2] 4 (sRb t i we wc ge gc xs n k)=bif decide (k < n) then bK xs k fun e=>chk (jB [0] e) (fA [0] e we (chk (jB [0] e) (fA [0] e we (ah.ok (Ex.norm,sRb t i (we++ [(e,i64 1,wc)]) (wc+1) ge gc xs n (IntKind.i64.wrap (k+1)))) fun jH x b=>ah.ok (Ex.norm,sRb t i (we.set jH (e,i64 1,b)) wc ge gc xs n (IntKind.i64.wrap (k+1))))) fun x v x_1=>iT IntKind.i64 v fun a=>chk (jB [0] e) (fA [0] e we (ah.ok (Ex.norm,sRb t i (we++ [(e,i64 (IntKind.i64.wrap (a+1)),wc)]) (wc+1) ge gc xs n (IntKind.i64.wrap (k+1)))) fun jH x b=>ah.ok (Ex.norm,sRb t i (we.set jH (e,i64 (IntKind.i64.wrap (a+1)),b)) wc ge gc xs n (IntKind.i64.wrap (k+1))))) else ah.ok (Ex.exit 2,wB t i we wc ge gc):=by kernel_rfl
theorem Oh (N:Nat) (t:List Cf) (i:Int) (we:List eU) (wc:Nat) (ge:List eU) (gc:Nat):dO env N 60 [2,2,5] 0 2 (wB t i we wc ge gc)=chk (decide (we.length≤140737488355328)) (bif decide ((↑we.length:Int) > 0) then ah.ok (Ex.norm,ag6 t i we wc ge gc (↑we.length:Int) (decide ((↑we.length:Int) > 0))) else ah.ok (Ex.exit 4,ag6 t i we wc ge gc (↑we.length:Int) (decide ((↑we.length:Int) > 0)))):=by kernel_rfl
theorem zRX (N:Nat) (t:List Cf) (i:Int) (ge:List eU) (gc:Nat):(oN env N 60 [2,2] 6 2 (sRx t i ge gc) (IQ env N 60 [] 2 1 3 1))=chk (jB [0] (i64 i)) (fA [0] (i64 i) ge (ah.ok (Ex.norm,sRa t (IntKind.i64.wrap (i+1)))) fun x v x_1=>iT IntKind.i64 v fun a=>bif decide (a > 0) then ah.ok (Ex.ret,{tmps:=slots 70 [(2,PV.t (i64 i)),(3,PV.t (T.bool true))],heap:=[]}) else ah.ok (Ex.norm,sRa t (IntKind.i64.wrap (i+1)))):=by kernel_rfl
theorem zRR (N:Nat) (t:List Cf) (i:Int) (we:List eU) (wc:Nat) (ge:List eU) (gc:Nat) (n:Int) (b:Bool):(D8 env 60 [2,2,5,2] 1 (acL env N 60 [2,2,5,2] 0 1 (ag6 t i we wc ge gc n b)))=ah.ok (Ex.norm,sRr t i we wc ge gc wc wc []):=by kernel_rfl
theorem zRN (N:Nat) (t:List Cf) (i:Int) (we:List eU) (wc:Nat) (ge:List eU) (gc:Nat) (j v:Int) (n:Nat):(Yn env N 60 [2,2,5,2,1] 0 1 1 (aq9 (sRr t i we wc ge gc wc wc []) 37 2 0 wc wc [] (i64 j,i64 v,n)))=ah.ok (Ex.norm,{tmps:=slots 70 [(0,PV.t (T.sl 6 (List.map Cf.t t))),(4,PV.t (i64 i)),(5,PV.mp 0),(6,PV.mp 1),(13,PV.t (i64 (↑(List.map Cf.t t).length:Int))),(14,PV.t (i64 i)),(36,PV.ptr 2 0),(37,PV.t (T.au [T.bool true,i64 j,i64 v])),(38,PV.t (T.bool true))],heap:=[aj.map we wc,aj.map ge gc,aj.iter 0 wc [n] wc]}):=by kernel_rfl
theorem zRE (N:Nat) (t:List Cf) (i:Int) (we:List eU) (wc:Nat) (ge:List eU) (gc:Nat) (j v:Int) (n:Nat):(CG env N 60 [2,2,5,2,1,2] 0 1 0 (sRe t i we wc ge gc j v n) fun e s=>(.ok (e,s):ah (Ex×St)))=ah.ok (Ex.norm,sRd t i we wc ge gc j v n):=by kernel_rfl
theorem zRD (N:Nat) (t:List Cf) (i:Int) (we:List eU) (wc:Nat) (ge:List eU) (gc:Nat) (j v:Int) (n:Nat):(oN env N 60 [2,2,5,2,1,2] 1 2 (sRd t i we wc ge gc j v n) (fun e s=>e.k (.ok s) (fun _=> .stuck) .stuck))=chk (jB [0] (i64 j)) (fA [0] (i64 j) we (chk (jB [0] (i64 j)) (fA [0] (i64 j) ge (chk (jB [0] (i64 j)) (fA [0] (i64 j) ge (ah.ok {tmps:=slots 70 [(0,PV.t (T.sl 6 (List.map Cf.t t))),(4,PV.t (i64 i)),(5,PV.mp 0),(6,PV.mp 1),(9,PV.t (i64 j)),(13,PV.t (i64 (↑(List.map Cf.t t).length:Int))),(14,PV.t (i64 i)),(36,PV.ptr 2 0),(37,PV.t (T.au [T.bool true,i64 j,i64 v])),(38,PV.t (T.bool true)),(39,PV.t (T.au [i64 j,i64 v])),(40,PV.t (i64 j)),(41,PV.mp 0),(42,PV.t (i64 j)),(43,PV.mp 1),(44,PV.t (i64 j)),(45,PV.t (i64 0)),(46,PV.t (i64 1))],heap:=[aj.map we wc,aj.map (ge++ [(i64 j,i64 1,gc)]) (gc+1),aj.iter 0 wc [n] wc]}) fun jH x b=>ah.ok {tmps:=slots 70 [(0,PV.t (T.sl 6 (List.map Cf.t t))),(4,PV.t (i64 i)),(5,PV.mp 0),(6,PV.mp 1),(9,PV.t (i64 j)),(13,PV.t (i64 (↑(List.map Cf.t t).length:Int))),(14,PV.t (i64 i)),(36,PV.ptr 2 0),(37,PV.t (T.au [T.bool true,i64 j,i64 v])),(38,PV.t (T.bool true)),(39,PV.t (T.au [i64 j,i64 v])),(40,PV.t (i64 j)),(41,PV.mp 0),(42,PV.t (i64 j)),(43,PV.mp 1),(44,PV.t (i64 j)),(45,PV.t (i64 0)),(46,PV.t (i64 1))],heap:=[aj.map we wc,aj.map (ge.set jH (i64 j,i64 1,b)) gc,aj.iter 0 wc [n] wc]})) fun x v_1 x_1=>iT IntKind.i64 v_1 fun a=>chk (jB [0] (i64 j)) (fA [0] (i64 j) ge (ah.ok {tmps:=slots 70 [(0,PV.t (T.sl 6 (List.map Cf.t t))),(4,PV.t (i64 i)),(5,PV.mp 0),(6,PV.mp 1),(9,PV.t (i64 j)),(13,PV.t (i64 (↑(List.map Cf.t t).length:Int))),(14,PV.t (i64 i)),(36,PV.ptr 2 0),(37,PV.t (T.au [T.bool true,i64 j,i64 v])),(38,PV.t (T.bool true)),(39,PV.t (T.au [i64 j,i64 v])),(40,PV.t (i64 j)),(41,PV.mp 0),(42,PV.t (i64 j)),(43,PV.mp 1),(44,PV.t (i64 j)),(45,PV.t v_1),(46,PV.t (i64 (IntKind.i64.wrap (a+1))))],heap:=[aj.map we wc,aj.map (ge++ [(i64 j,i64 (IntKind.i64.wrap (a+1)),gc)]) (gc+1),aj.iter 0 wc [n] wc]}) fun jH x b=>ah.ok {tmps:=slots 70 [(0,PV.t (T.sl 6 (List.map Cf.t t))),(4,PV.t (i64 i)),(5,PV.mp 0),(6,PV.mp 1),(9,PV.t (i64 j)),(13,PV.t (i64 (↑(List.map Cf.t t).length:Int))),(14,PV.t (i64 i)),(36,PV.ptr 2 0),(37,PV.t (T.au [T.bool true,i64 j,i64 v])),(38,PV.t (T.bool true)),(39,PV.t (T.au [i64 j,i64 v])),(40,PV.t (i64 j)),(41,PV.mp 0),(42,PV.t (i64 j)),(43,PV.mp 1),(44,PV.t (i64 j)),(45,PV.t v_1),(46,PV.t (i64 (IntKind.i64.wrap (a+1))))],heap:=[aj.map we wc,aj.map (ge.set jH (i64 j,i64 (IntKind.i64.wrap (a+1)),b)) gc,aj.iter 0 wc [n] wc]}))) fun jH x x_1=>chk (jB [0] (i64 j)) (fA [0] (i64 j) ge (chk (jB [0] (i64 j)) (fA [0] (i64 j) ge (ah.ok {tmps:=slots 70 [(0,PV.t (T.sl 6 (List.map Cf.t t))),(4,PV.t (i64 i)),(5,PV.mp 0),(6,PV.mp 1),(9,PV.t (i64 j)),(13,PV.t (i64 (↑(List.map Cf.t t).length:Int))),(14,PV.t (i64 i)),(36,PV.ptr 2 0),(37,PV.t (T.au [T.bool true,i64 j,i64 v])),(38,PV.t (T.bool true)),(39,PV.t (T.au [i64 j,i64 v])),(40,PV.t (i64 j)),(41,PV.mp 0),(42,PV.t (i64 j)),(43,PV.mp 1),(44,PV.t (i64 j)),(45,PV.t (i64 0)),(46,PV.t (i64 1))],heap:=[aj.map (we.eraseIdx jH) wc,aj.map (ge++ [(i64 j,i64 1,gc)]) (gc+1),aj.iter 0 wc [n] wc]}) fun i_2 x b=>ah.ok {tmps:=slots 70 [(0,PV.t (T.sl 6 (List.map Cf.t t))),(4,PV.t (i64 i)),(5,PV.mp 0),(6,PV.mp 1),(9,PV.t (i64 j)),(13,PV.t (i64 (↑(List.map Cf.t t).length:Int))),(14,PV.t (i64 i)),(36,PV.ptr 2 0),(37,PV.t (T.au [T.bool true,i64 j,i64 v])),(38,PV.t (T.bool true)),(39,PV.t (T.au [i64 j,i64 v])),(40,PV.t (i64 j)),(41,PV.mp 0),(42,PV.t (i64 j)),(43,PV.mp 1),(44,PV.t (i64 j)),(45,PV.t (i64 0)),(46,PV.t (i64 1))],heap:=[aj.map (we.eraseIdx jH) wc,aj.map (ge.set i_2 (i64 j,i64 1,b)) gc,aj.iter 0 wc [n] wc]})) fun x v_1 x_2=>iT IntKind.i64 v_1 fun a=>chk (jB [0] (i64 j)) (fA [0] (i64 j) ge (ah.ok {tmps:=slots 70 [(0,PV.t (T.sl 6 (List.map Cf.t t))),(4,PV.t (i64 i)),(5,PV.mp 0),(6,PV.mp 1),(9,PV.t (i64 j)),(13,PV.t (i64 (↑(List.map Cf.t t).length:Int))),(14,PV.t (i64 i)),(36,PV.ptr 2 0),(37,PV.t (T.au [T.bool true,i64 j,i64 v])),(38,PV.t (T.bool true)),(39,PV.t (T.au [i64 j,i64 v])),(40,PV.t (i64 j)),(41,PV.mp 0),(42,PV.t (i64 j)),(43,PV.mp 1),(44,PV.t (i64 j)),(45,PV.t v_1),(46,PV.t (i64 (IntKind.i64.wrap (a+1))))],heap:=[aj.map (we.eraseIdx jH) wc,aj.map (ge++ [(i64 j,i64 (IntKind.i64.wrap (a+1)),gc)]) (gc+1),aj.iter 0 wc [n] wc]}) fun i_2 x b=>ah.ok {tmps:=slots 70 [(0,PV.t (T.sl 6 (List.map Cf.t t))),(4,PV.t (i64 i)),(5,PV.mp 0),(6,PV.mp 1),(9,PV.t (i64 j)),(13,PV.t (i64 (↑(List.map Cf.t t).length:Int))),(14,PV.t (i64 i)),(36,PV.ptr 2 0),(37,PV.t (T.au [T.bool true,i64 j,i64 v])),(38,PV.t (T.bool true)),(39,PV.t (T.au [i64 j,i64 v])),(40,PV.t (i64 j)),(41,PV.mp 0),(42,PV.t (i64 j)),(43,PV.mp 1),(44,PV.t (i64 j)),(45,PV.t v_1),(46,PV.t (i64 (IntKind.i64.wrap (a+1))))],heap:=[aj.map (we.eraseIdx jH) wc,aj.map (ge.set i_2 (i64 j,i64 (IntKind.i64.wrap (a+1)),b)) gc,aj.iter 0 wc [n] wc]}))):=by kernel_rfl
end
section
open Go.RowKit Go.Proofs
variable [Lv]
def ag5 (t:List Cf) (i:Int) (we:List eU) (wc:Nat) (ge:List eU) (gc:Nat) (xs:List T) (n k:Int) (b:Bool):St:=⟨slots 70 [(0,.t (.sl 6 (t.map Cf.t))),(4,.t (i64 i)),(5,.mp 0),(6,.mp 1),(13,.t (i64 (t.map Cf.t).length)),(14,.t (i64 i)),(49,.t (.sl 1 xs)),(50,.t (i64 n)),(51,.t (i64 k)),(52,.t (.bool b))],[.map we wc,.map ge gc]⟩
def sRh (t:List Cf) (i:Int) (we:List eU) (wc:Nat) (ge:List eU) (gc:Nat) (xs:List T) (n k m:Int) (b:Bool):St:=⟨slots 70 [(0,.t (.sl 6 (t.map Cf.t))),(4,.t (i64 i)),(5,.mp 0),(6,.mp 1),(11,.t (i64 m)),(13,.t (i64 (t.map Cf.t).length)),(14,.t (i64 i)),(49,.t (.sl 1 xs)),(50,.t (i64 n)),(51,.t (i64 k)),(52,.t (.bool b)),(53,.rp 1 (i64 m) 0),(54,.t (i64 m))],[.map we wc,.map ge gc]⟩
def P6 (t:List Cf) (i:Int) (we:List eU) (wc:Nat) (ge:List eU) (gc:Nat) (xs:List T) (n k m g:Int) (b b2:Bool):St:=⟨slots 70 [(0,.t (.sl 6 (t.map Cf.t))),(4,.t (i64 i)),(5,.mp 0),(6,.mp 1),(11,.t (i64 m)),(13,.t (i64 (t.map Cf.t).length)),(14,.t (i64 i)),(49,.t (.sl 1 xs)),(50,.t (i64 n)),(51,.t (i64 k)),(52,.t (.bool b)),(53,.rp 1 (i64 m) 0),(54,.t (i64 m)),(55,.mp 1),(56,.t (i64 m)),(57,.t (i64 g)),(58,.t (.bool b2))],[.map we wc,.map ge gc]⟩
theorem tC (N:Nat) (t:List Cf) (i:Int) (we:List eU) (wc:Nat) (ge:List eU) (gc:Nat) (xs:List T) (n k:Int):dO env N 60 [2,2,5,2,1,2,4] 0 2 (sRg t i we wc ge gc xs n k)=bif decide (k < n) then ah.ok (Ex.norm,ag5 t i we wc ge gc xs n k (decide (k < n))) else ah.ok (Ex.exit 8,ag5 t i we wc ge gc xs n k (decide (k < n))):=by kernel_rfl
theorem yO (N:Nat) (t:List Cf) (i:Int) (we:List eU) (wc:Nat) (ge:List eU) (gc:Nat) (xs:List T) (n k:Int) (b:Bool):dO env N 60 [2,2,5,2,1,2,4,2] 0 1 (ag5 t i we wc ge gc xs n k b)=bK xs k fun e=>ah.ok (Ex.norm,{tmps:=slots 70 [(0,PV.t (T.sl 6 (List.map Cf.t t))),(4,PV.t (i64 i)),(5,PV.mp 0),(6,PV.mp 1),(11,PV.t e),(13,PV.t (i64 (↑(List.map Cf.t t).length:Int))),(14,PV.t (i64 i)),(49,PV.t (T.sl 1 xs)),(50,PV.t (i64 n)),(51,PV.t (i64 k)),(52,PV.t (T.bool b)),(53,PV.rp 1 e 0),(54,PV.t e)],heap:=[aj.map we wc,aj.map ge gc]}):=by kernel_rfl
theorem yP (N:Nat) (t:List Cf) (i:Int) (we:List eU) (wc:Nat) (ge:List eU) (gc:Nat) (xs:List T) (n k m:Int) (b:Bool):dO env N 60 [2,2,5,2,1,2,4,2] 1 1 (sRh t i we wc ge gc xs n k m b)=chk (jB [0] (i64 m)) (fA [0] (i64 m) ge (ah.ok (Ex.norm,P6 t i we wc ge gc xs n k m 0 b true)) fun x v x_1=>iT IntKind.i64 v fun a=>ah.ok (Ex.norm,{tmps:=slots 70 [(0,PV.t (T.sl 6 (List.map Cf.t t))),(4,PV.t (i64 i)),(5,PV.mp 0),(6,PV.mp 1),(11,PV.t (i64 m)),(13,PV.t (i64 (↑(List.map Cf.t t).length:Int))),(14,PV.t (i64 i)),(49,PV.t (T.sl 1 xs)),(50,PV.t (i64 n)),(51,PV.t (i64 k)),(52,PV.t (T.bool b)),(53,PV.rp 1 (i64 m) 0),(54,PV.t (i64 m)),(55,PV.mp 1),(56,PV.t (i64 m)),(57,PV.t v),(58,PV.t (T.bool (a==0)))],heap:=[aj.map we wc,aj.map ge gc]})):=by kernel_rfl
theorem atC (N:Nat) (t:List Cf) (i:Int) (we:List eU) (wc:Nat) (ge:List eU) (gc:Nat) (xs:List T) (n k m g:Int) (b:Bool):(oN env N 60 [2,2,5,2,1,2,4,2] 2 1 (P6 t i we wc ge gc xs n k m g b false) (IQ env N 60 [2,2,5,2,1,2] 4 9 3 1))=ah.ok (Ex.norm,{tmps:=slots 70 [(0,PV.t (T.sl 6 (List.map Cf.t t))),(4,PV.t (i64 i)),(5,PV.mp 0),(6,PV.mp 1),(13,PV.t (i64 (↑(List.map Cf.t t).length:Int))),(14,PV.t (i64 i)),(49,PV.t (T.sl 1 xs)),(50,PV.t (i64 n)),(51,PV.t (i64 (IntKind.i64.wrap (k+1))))],heap:=[aj.map we wc,aj.map ge gc]}):=by kernel_rfl
theorem atD (N:Nat) (t:List Cf) (i:Int) (we:List eU) (wc:Nat) (ge:List eU) (gc:Nat) (xs:List T) (n k m g:Int) (b:Bool):(oN env N 60 [2,2,5,2,1,2,4,2] 2 1 (P6 t i we wc ge gc xs n k m g b true) (IQ env N 60 [2,2,5,2,1,2] 4 9 3 1))=chk (jB [0] (i64 m)) (fA [0] (i64 m) we (chk (jB [0] (i64 m)) (fA [0] (i64 m) we (ah.ok (Ex.norm,{tmps:=slots 70 [(0,PV.t (T.sl 6 (List.map Cf.t t))),(4,PV.t (i64 i)),(5,PV.mp 0),(6,PV.mp 1),(13,PV.t (i64 (↑(List.map Cf.t t).length:Int))),(14,PV.t (i64 i)),(49,PV.t (T.sl 1 xs)),(50,PV.t (i64 n)),(51,PV.t (i64 (IntKind.i64.wrap (k+1))))],heap:=[aj.map (we++ [(i64 m,i64 1,wc)]) (wc+1),aj.map ge gc]})) fun jH x b=>ah.ok (Ex.norm,{tmps:=slots 70 [(0,PV.t (T.sl 6 (List.map Cf.t t))),(4,PV.t (i64 i)),(5,PV.mp 0),(6,PV.mp 1),(13,PV.t (i64 (↑(List.map Cf.t t).length:Int))),(14,PV.t (i64 i)),(49,PV.t (T.sl 1 xs)),(50,PV.t (i64 n)),(51,PV.t (i64 (IntKind.i64.wrap (k+1))))],heap:=[aj.map (we.set jH (i64 m,i64 1,b)) wc,aj.map ge gc]}))) fun x v x_1=>iT IntKind.i64 v fun a=>chk (jB [0] (i64 m)) (fA [0] (i64 m) we (ah.ok (Ex.norm,{tmps:=slots 70 [(0,PV.t (T.sl 6 (List.map Cf.t t))),(4,PV.t (i64 i)),(5,PV.mp 0),(6,PV.mp 1),(13,PV.t (i64 (↑(List.map Cf.t t).length:Int))),(14,PV.t (i64 i)),(49,PV.t (T.sl 1 xs)),(50,PV.t (i64 n)),(51,PV.t (i64 (IntKind.i64.wrap (k+1))))],heap:=[aj.map (we++ [(i64 m,i64 (IntKind.i64.wrap (a+1)),wc)]) (wc+1),aj.map ge gc]})) fun jH x b=>ah.ok (Ex.norm,{tmps:=slots 70 [(0,PV.t (T.sl 6 (List.map Cf.t t))),(4,PV.t (i64 i)),(5,PV.mp 0),(6,PV.mp 1),(13,PV.t (i64 (↑(List.map Cf.t t).length:Int))),(14,PV.t (i64 i)),(49,PV.t (T.sl 1 xs)),(50,PV.t (i64 n)),(51,PV.t (i64 (IntKind.i64.wrap (k+1))))],heap:=[aj.map (we.set jH (i64 m,i64 (IntKind.i64.wrap (a+1)),b)) wc,aj.map ge gc]}))):=by kernel_rfl
end
section
open Go.RowKit Go.Proofs
variable [Lv]
def aov (t:List Cf) (i:Int) (we:List eU) (wc:Nat) (ge:List eU) (gc:Nat) (j v:Int) (n wd:Nat):St:=⟨slots 70 [(0,.t (.sl 6 (t.map Cf.t))),(4,.t (i64 i)),(5,.mp 0),(6,.mp 1),(9,.t (i64 j)),(13,.t (i64 (t.map Cf.t).length)),(14,.t (i64 i)),(36,.ptr 2 0),(37,.t (.au [.bool true,i64 j,i64 v])),(38,.t (.bool true)),(39,.t (.au [i64 j,i64 v])),(40,.t (i64 j)),(41,.mp 0),(42,.t (i64 j)),(43,.mp 1),(44,.t (i64 j)),(45,.t (i64 0)),(46,.t (i64 1))],[.map we wc,.map ge gc,.iter 0 wd [n] wd]⟩
theorem CP (N:Nat) (t:List Cf) (i:Int) (we:List eU) (wc:Nat) (ge:List eU) (gc:Nat) (j v:Int) (n wd:Nat):dO env N 60 [2,2,5,2,1,2] 3 1 (aov t i we wc ge gc j v n wd)=cl N 95 [T.sl 6 (List.map Cf.t t),i64 j] fun x=>iO x fun n_1=>ah.ok (Ex.norm,{tmps:=slots 70 [(0,PV.t (T.sl 6 (List.map Cf.t t))),(4,PV.t (i64 i)),(5,PV.mp 0),(6,PV.mp 1),(9,PV.t (i64 j)),(13,PV.t (i64 (↑(List.map Cf.t t).length:Int))),(14,PV.t (i64 i)),(36,PV.ptr 2 0),(37,PV.t (T.au [T.bool true,i64 j,i64 v])),(38,PV.t (T.bool true)),(39,PV.t (T.au [i64 j,i64 v])),(40,PV.t (i64 j)),(41,PV.mp 0),(42,PV.t (i64 j)),(43,PV.mp 1),(44,PV.t (i64 j)),(45,PV.t (i64 0)),(46,PV.t (i64 1)),(47,PV.t (T.sl 6 (List.map Cf.t t))),(48,PV.t (i64 j)),(49,PV.t x),(50,PV.t (i64 n_1)),(51,PV.t (i64 0))],heap:=[aj.map we wc,aj.map ge gc,aj.iter 0 wd [n] wd]}):=by kernel_rfl
theorem Xp (N:Nat) (t:List Cf) (i:Int) (b:Bool):dO env N 60 [2,2] 0 4 (YD t i b)=cl N 95 [T.sl 6 (List.map Cf.t t),i64 i] fun x=>iO x fun n=>ah.ok (Ex.norm,{tmps:=slots 70 [(0,PV.t (T.sl 6 (List.map Cf.t t))),(4,PV.t (i64 i)),(5,PV.mp 0),(6,PV.mp 1),(13,PV.t (i64 (↑(List.map Cf.t t).length:Int))),(14,PV.t (i64 i)),(15,PV.t (T.bool b)),(16,PV.t (i64 i)),(17,PV.mp 0),(18,PV.mp 1),(19,PV.t (T.sl 6 (List.map Cf.t t))),(20,PV.t (i64 i)),(21,PV.t x),(22,PV.t (i64 n)),(23,PV.t (i64 0))],heap:=[aj.map [] 0,aj.map [] 0]}):=by kernel_rfl
theorem ady (N:Nat):dO env N 60 [] 3 2 (⟨slots 70 [],[]⟩)=ah.ok (Ex.ret,{tmps:=slots 70 [(2,PV.t (i64 0)),(3,PV.t (T.bool false))],heap:=[]}):=by kernel_rfl
end
section
open Go.RowKit Go.Proofs
theorem yK {A C:Prop} {B:Nat→Prop} {j:Nat} (h:B j):Ex.kP (.exit j) A B C:=h
theorem rD {A C:Prop} {B:Nat→Prop} (h:A):Ex.kP .norm A B C:=h
theorem Xy {A C:Prop} {B:Nat→Prop} (h:C):Ex.kP .ret A B C:=h
theorem agn {E:Env} {n:Nat} {f:FuncId} {p:List Nat} {i:Nat} (a b:Nat) {st s:St} {r:ah (Ex×St)} (h1:dO E n f p i a st= .ok (.norm,s)) (h2:dO E n f p (i+a) b s=r):dO E n f p i (a+b) st=r:=by
 unfold dO at h1 h2 ⊢
 rw[List.take_add,List.drop_drop,oG]
 have:=sS (E:=E) (f:=f) (fn:=dW E f) (n:=n) (base:=0) (fH E n) (Strict.bind fun q:Ex×St=>q.1.k (kV E (aJ E n) f (dW E f) n 0 (((aO E f p).drop (i+a)).take b) q.2 fun e s=>(.ok (e,s):ah (Ex×St))) (fun j=> .ok (.exit j,q.2)) (.ok (.ret,q.2))) (((aO E f p).drop i).take a) st fun e s=> .ok (e,s)
 rw[h1] at this
 exact this.symm.trans h2
def amP:Oper:={dst:=some 37,op:= .next (.tmp 36) false,type:=0,pos:= "topo.go:64",after:= #[],guard:=none}
def amM:Oper:={dst:=some 39,op:= .entry (.tmp 36),type:=0,pos:= "topo.go:64",after:= #[],guard:=none}
theorem F8 {B:St→ah (Ex×St)} {S:List eU→Nat→Nat→St} {X:List eU→Nat→St} {id:Nat} (F:List Nat→Nat→List Nat) (xs:List Nat)
 (hs:∀ we wc ks k x,jC we wc ks→xs[k]? =some x→∃ JE wc',jC JE wc' (F ks x)∧B (S we wc k)= .ok (.norm,S JE wc' (k+1)))
 (he:∀ we wc,B (S we wc xs.length)= .ok (.exit id,X we wc)):
 ∀ (m k:Nat) (we:List eU) (wc:Nat) (ks:List Nat) (n:Nat),k+m=xs.length→jC we wc ks→m < n→∃ JE wc',jC JE wc' ((xs.drop k).foldl F ks)∧bF B n (S we wc k)= .ok (.exit id,X JE wc')
 |0,k,we,wc,ks,n,hk,h,hn=>by
  obtain⟨n,rfl⟩:∃ m,n=m+1:=⟨n - 1,by omega⟩
  obtain rfl:k=xs.length:=by omega
  refine⟨we,wc,?_,dV (he we wc)⟩
  rw[List.drop_length]; exact h
 |m+1,k,we,wc,ks,n,hk,h,hn=>by
  obtain⟨n,rfl⟩:∃ m,n=m+1:=⟨n - 1,by omega⟩
  have hx:xs[k]? =some xs[k]:=List.getElem?_eq_getElem (by omega)
  obtain⟨we1,wc1,h1,h2⟩:=hs we wc ks k _ h hx
  obtain⟨we2,Qk,h3,h4⟩:=F8 F xs hs he m (k+1) we1 wc1 (F ks xs[k]) n (by omega) h1 (by omega)
  refine⟨we2,Qk,?_,by rw[bf h2]; exact h4⟩
  rw[List.drop_eq_getElem_cons (by omega),List.foldl_cons]
  exact h3
variable [Lv]
attribute [local irreducible] ay Hl stepD aO iW
theorem amV {N:Nat} (hN:big+40≤N) {t:List Cf} {i:Int} (xs:List Nat) (hx:xs.length≤big):∃ we wc,jC we wc (xs.foldl addN [])∧bF (nM env N 60 [2,2] 4) N (sRb t i [] 0 [] 0 (fJ xs) ((fJ xs).length:Nat) 0)= .ok (.exit 2,wB t i we wc [] 0):=by
 have hbg:=aU
 have hl:(fJ xs).length=xs.length:=by simp[fJ]
 obtain⟨we,wc,h1,h2⟩:=F8 (B:=nM env N 60 [2,2] 4) (S:=fun we wc (k:Nat)=>sRb t i we wc [] 0 (fJ xs) ((fJ xs).length:Nat) (k:Nat)) (X:=fun we wc=>wB t i we wc [] 0) (id:=2) addN xs
  (fun we wc ks k x h hk=>by
   obtain⟨JE,wc',g1,g2⟩:=Ug h x
   have hkl:=(List.getElem?_eq_some_iff.1 hk).1
   refine⟨JE,wc',g1,?_⟩
   rw[Qm,hl,decide_eq_true (by omega),cond_true,aA (x:=i64 (x:Int)) (by unfold fJ; rw[List.getElem?_map,hk]; rfl)]
   have:=g2 fun e c=>(ah.ok (Ex.norm,sRb t i e c [] 0 (fJ xs) (xs.length:Nat) (IntKind.i64.wrap ((k:Int)+1))):ah (Ex×St))
   unfold Q5 at this
   rw[this,wrap_succ (show k≤big by omega)])
  (fun we wc=>by
   rw[Qm,hl,decide_eq_false (by omega)]; rfl) xs.length 0 [] 0 [] N (by omega) (jC.nil 0) (by omega)
 exact⟨we,wc,by simpa using h1,h2⟩
theorem amW {N:Nat} (hN:big+40≤N) {t:List Cf} {i:Int} {we ge:List eU} {wc gc:Nat} {ws gs:List Nat} (xs:List Nat) (hx:xs.length≤big) (hw:jC we wc ws) (hg:jC ge gc gs) (ho:Ones ge):
 ∃ JE wc',jC JE wc' (xs.foldl (Mc gs) ws)∧bF (nM env N 60 [2,2,5,2,1,2] 4) N (sRg t i we wc ge gc (fJ xs) ((fJ xs).length:Nat) 0)= .ok (.exit 8,wB t i JE wc' ge gc):=by
 have hbg:=aU
 have hl:(fJ xs).length=xs.length:=by simp[fJ]
 obtain⟨JE,wc',h1,h2⟩:=F8 (B:=nM env N 60 [2,2,5,2,1,2] 4) (S:=fun we wc (k:Nat)=>sRg t i we wc ge gc (fJ xs) ((fJ xs).length:Nat) (k:Nat)) (X:=fun we wc=>wB t i we wc ge gc) (id:=8) (Mc gs) xs
  (fun we wc ks k x h hk=>by
   have hkl:=(List.getElem?_eq_some_iff.1 hk).1
   have e0:=tC N t i we wc ge gc (fJ xs) ((fJ xs).length:Nat) (k:Nat)
   rw[hl,decide_eq_true (by omega),cond_true] at e0
   have e1:=yO N t i we wc ge gc (fJ xs) ((fJ xs).length:Nat) (k:Nat) true
   rw[aA (x:=i64 (x:Int)) (by unfold fJ; rw[List.getElem?_map,hk]; rfl),hl] at e1
   have e2:=yP N t i we wc ge gc (fJ xs) ((fJ xs).length:Nat) (k:Nat) (x:Nat) true
   rw[Jl,aN,hl] at e2
   have wr:=wrap_succ (show k≤big by omega)
   have cut:∀ {g:Int} {b:Bool},dO env N 60 [2,2,5,2,1,2,4,2] 1 1 (sRh t i we wc ge gc (fJ xs) (xs.length:Nat) (k:Nat) (x:Nat) true)= .ok (.norm,P6 t i we wc ge gc (fJ xs) (xs.length:Nat) (k:Nat) (x:Nat) g true b)→dO env N 60 [2,2,5,2,1,2,4,2] 0 2 (ag5 t i we wc ge gc (fJ xs) (xs.length:Nat) (k:Nat) true)= .ok (.norm,P6 t i we wc ge gc (fJ xs) (xs.length:Nat) (k:Nat) (x:Nat) g true b):=fun h=>by
    exact agn 1 1 e1 h
   have fin:∀ {g:Int} {b:Bool} {JE:List eU} {wc':Nat},dO env N 60 [2,2,5,2,1,2,4,2] 1 1 (sRh t i we wc ge gc (fJ xs) (xs.length:Nat) (k:Nat) (x:Nat) true)= .ok (.norm,P6 t i we wc ge gc (fJ xs) (xs.length:Nat) (k:Nat) (x:Nat) g true b)→(oN env N 60 [2,2,5,2,1,2,4,2] 2 1 (P6 t i we wc ge gc (fJ xs) (xs.length:Nat) (k:Nat) (x:Nat) g true b) (IQ env N 60 [2,2,5,2,1,2] 4 9 3 1))= .ok (.norm,sRg t i JE wc' ge gc (fJ xs) (xs.length:Nat) (k+1:Nat))→
    nM env N 60 [2,2,5,2,1,2] 4 (sRg t i we wc ge gc (fJ xs) ((fJ xs).length:Nat) (k:Nat))= .ok (.norm,sRg t i JE wc' ge gc (fJ xs) ((fJ xs).length:Nat) (k+1:Nat)):=fun h1 h2=>by
    rw[hl]
    exact FX (p:=[2,2,5,2,1,2]) (i:=4) (a:=2) (b:=2) (k1:=1) (k2:=1) (id:=9) (c:=gZ ((aO env 60 [2,2,5,2,1,2,4]).getD 2 .skip)) (by kernel_rfl) (by kernel_rfl) (by kernel_rfl) (by kernel_rfl) (by kernel_rfl) e0 (cut h1) h2
   unfold Mc
   by_cases hn:x∈gs
   rotate_left
   · rw[if_neg hn]
     obtain⟨JE,wc',g1,g2⟩:=Ug h x
     refine⟨JE,wc',g1,fin (g:=0) (b:=true) ?_ ?_⟩
     · exact e2.trans ((Ec hg ho x _ _).resolve_right fun h=>hn h.1).2
     · rw[atD,wr]
       exact g2 fun e c=>(ah.ok (Ex.norm,sRg t i e c ge gc (fJ xs) (xs.length:Nat) (k+1:Nat)):ah (Ex×St))
   · rw[if_pos hn]
     refine⟨we,wc,h,fin (g:=1) (b:=false) ?_ ?_⟩
     · obtain⟨_,_,_,h1⟩:=(Ec hg ho x (ah.ok (Ex.norm,P6 t i we wc ge gc (fJ xs) (xs.length:Nat) (k:Nat) (x:Nat) 0 true true)) _).resolve_left fun h=>h.1 hn
       exact(e2.trans h1).trans rfl
     · rw[atC,wr]; rfl)
  (fun we wc=>by
   have e0:=tC N t i we wc ge gc (fJ xs) ((fJ xs).length:Nat) (xs.length:Nat)
   rw[hl,decide_eq_false (by omega),cond_false] at e0
   rw[hl]
   exact KA (p:=[2,2,5,2,1,2]) (i:=4) (by kernel_rfl) e0 (by kernel_rfl)) xs.length 0 we wc ws N (by omega) hw (by omega)
 exact⟨JE,wc',by simpa using h1,h2⟩
theorem ajs {E:Env} {n:Nat} {f:FuncId} {p:List Nat} {i k:Nat} {st s:St} (h:oN E n f p i k st (fun e s=>e.k (.ok s) (fun _=> .stuck) .stuck)= .ok s):dO E n f p i k st= .ok (.norm,s):=by
 rw[yD] at h
 obtain⟨⟨e,s'⟩,h1,h2⟩:=bQ h
 cases e with
 |norm=>simp only[Ex.k,ah.ok.injEq] at h2; subst h2; exact h1
 |exit j=>simp[Ex.k] at h2
 |ret=>simp[Ex.k] at h2
def adF (t:List Cf) (i:Nat) (m:Nat) (st:St):Prop:=∃ (we:List eU) (wc:Nat) (ws:List Nat) (ge:List eU) (gc:Nat) (gs:List Nat),st=wB t (i:Int) we wc ge gc∧jC we wc ws∧jC ge gc gs∧Ones ge∧(∀ x∈ws,x∉gs)∧Work t i (· ∈ws) (· ∈gs)∧m+gs.length=t.length
theorem U4 {t:List Cf} {i:Nat} {c:Cf} (h:t[i]? =some c):(jL t i).length≤c.s.length:=by
 unfold jL
 rw[h]
 exact List.length_filterMap_le _ _
theorem cR8 (N:Nat) (t:List Cf) (i:Int) (we:List eU) (wc:Nat) (ge:List eU) (gc:Nat):dO env N 60 [2,2,5,2,1,2] 5 1 (wB t i we wc ge gc)= .ok (.exit 6,wB t i we wc ge gc):=by kernel_rfl
theorem cR5 (t:List Cf) (i:Int) (we:List eU) (wc:Nat) (ge:List eU) (gc:Nat) (j v:Int) (n wd:Nat) (xs:List T) (q:Int):canon 0 (dZ env 60 [2,2,5,2,1,2] 4).1 (⟨slots 70 [(0,PV.t (T.sl 6 (List.map Cf.t t))),(4,PV.t (i64 i)),(5,PV.mp 0),(6,PV.mp 1),(9,PV.t (i64 j)),(13,PV.t (i64 (↑(List.map Cf.t t).length:Int))),(14,PV.t (i64 i)),(36,PV.ptr 2 0),(37,PV.t (T.au [T.bool true,i64 j,i64 v])),(38,PV.t (T.bool true)),(39,PV.t (T.au [i64 j,i64 v])),(40,PV.t (i64 j)),(41,PV.mp 0),(42,PV.t (i64 j)),(43,PV.mp 1),(44,PV.t (i64 j)),(45,PV.t (i64 0)),(46,PV.t (i64 1)),(47,PV.t (T.sl 6 (List.map Cf.t t))),(48,PV.t (i64 j)),(49,PV.t (T.sl 1 xs)),(50,PV.t (i64 q)),(51,PV.t (i64 0))],[aj.map we wc,aj.map ge gc,aj.iter 0 wd [n] wd]⟩)=sRg t i we wc ge gc xs q 0:=by kernel_rfl
theorem cR6 (t:List Cf) (i:Int) (we:List eU) (wc:Nat) (ge:List eU) (gc:Nat):canon 0 (dZ env 60 [2,2] 5).1 (canon 0 (dZ env 60 [2,2,5,2] 1).2 (wB t i we wc ge gc))=wB t i we wc ge gc:=by kernel_rfl
theorem cRx (t:List Cf) (i:Int) (we:List eU) (wc:Nat) (ge:List eU) (gc:Nat) (n:Int) (b:Bool):canon 0 (dZ env 60 [2,2] 5).2 (ag6 t i we wc ge gc n b)=sRx t i ge gc:=by kernel_rfl
theorem Zn {N:Nat} (hN:big+80≤N) {t:List Cf} {i x n:Nat} {v:Int} {we ge:List eU} {wc gc:Nat} {ws gs:List Nat} (ht:cO Cf.ok t) (hts:∀ c∈t,(c.s.length+1)*8≤big) (hw:jC we wc ws) (hg:jC ge gc gs) (ho:Ones ge) (hx:x∈ws) (hxl:x < t.length) (hxg:x∉gs) {Q:Ex→St→Prop}
 (hQ:∀ we2 Qk XV KP gc1,(∀ y,y∈XV↔y∈ws∧y≠x)→jC we2 Qk ((jL t x).foldl (Mc (gs++ [x])) XV)→jC KP gc1 (gs++ [x])→Ones KP→Q (.exit 6) (wB t (i:Int) we2 Qk KP gc1)):
 ay env N 60 [2,2,5,2,1,2] 1 (sRd t (i:Int) we wc ge gc (x:Int) v n) Q:=by
 have hbg:=aU
 have z:=zRD N t (i:Int) we wc ge gc (x:Int) v n
 rcases findD hw x with ⟨hn,_⟩|⟨i1,a,b,hi1,he1,hf1⟩
 · exact absurd hx hn
 have hfg:jh [0] (i64 (x:Int)) ge 0=some none:=by
  rcases findD hg x with ⟨_,h⟩|⟨_,_,_,h,_⟩
  · exact h
  · exact absurd (List.mem_of_getElem? h) hxg
 simp only[Jl,aN,fA,hf1,hfg] at z
 refine fF (e:= .norm) 2 (ajs z) ?_
 refine rD ?_
 show ay env N 60 [2,2,5,2,1,2] 3 (aov t (i:Int) (we.eraseIdx i1) wc (ge++ [(i64 (x:Int),i64 1,gc)]) (gc+1) (x:Int) v n wc) _
 have hw1:=hw.strike i1
 have hg1:=hg.add hxg 1
 have ho1:=ho.add (i64 (x:Int)) gc
 have hst:∀ y,y∈ws.eraseIdx i1↔y∈ws∧y≠x:=fun y=>L8 hw.nd hi1
 generalize we.eraseIdx i1=we1 at hw1
 generalize ge++ [(i64 (x:Int),i64 1,gc)]=KP at hg1 ho1
 generalize ws.eraseIdx i1=XV at hw1 hst
 have hc:t[x]? =some t[x]:=List.getElem?_eq_getElem hxl
 obtain⟨M,rfl⟩:=dJ (show 1≤N by omega)
 have z2:=CP (M+1) t (i:Int) we1 wc KP (gc+1) (x:Int) v n wc
 rw[aH (aeQ (by omega) ht hc (hts _ (List.mem_of_getElem? hc)))] at z2
 simp only[iO] at z2
 refine fF (e:= .norm) 1 z2 ?_
 refine rD ?_
 have hpl:(jL t x).length≤big:=by
  have h1:=U4 hc
  have h2:=hts _ (List.mem_of_getElem? hc)
  omega
 obtain⟨we2,Qk,hw2,hit⟩:=amW (N:=M+1) (t:=t) (i:=(i:Int)) (by omega) (jL t x) hpl hw1 hg1 ho1
 refine y7 (p:=[2,2,5,2,1,2]) (i:=4) (id:=8) (X:=wB t (i:Int) we2 Qk KP (gc+1)) (c:=gZ ((aO env 60 [2,2,5,2,1,2]).getD 4 .skip)) (by kernel_rfl) ?_ ?_
 · refine Eq.trans ?_ hit
   exact congrArg _ (cR5 t (i:Int) we1 wc KP (gc+1) (x:Int) v n wc (fJ (jL t x)) ((fJ (jL t x)).length:Nat))
 refine fF (e:= .exit 6) 1 (cR8 (M+1) t (i:Int) we2 Qk KP (gc+1)) ?_
 exact yK (hQ _ _ _ _ _ hst hw2 hg1 ho1)
theorem Zo {N:Nat} (hN:big+80≤N) {t:List Cf} {i:Nat} {we ge:List eU} {wc gc:Nat} {ws gs:List Nat} (ht:cO Cf.ok t) (hts:∀ c∈t,(c.s.length+1)*8≤big) (hw:jC we wc ws) (hg:jC ge gc gs) (ho:Ones ge) (hne:ws≠ []) (hwx:∀ x∈ws,x < t.length∧x∉gs) {Q:Ex→St→Prop}
 (hQ:∀ x we2 Qk XV KP gc1,x∈ws→(∀ y,y∈XV↔y∈ws∧y≠x)→jC we2 Qk ((jL t x).foldl (Mc (gs++ [x])) XV)→jC KP gc1 (gs++ [x])→Ones KP→Q (.exit 6) (wB t (i:Int) we2 Qk KP gc1)):
 ay env N 60 [2,2,5,2,1] 0 (sRr t (i:Int) we wc ge gc wc wc []) Q:=by
 refine yB (by kernel_rfl) (of_decide_eq_true (by kernel_rfl)) ?_
 refine zY (o:=amP) (by kernel_rfl) ?_
 refine step_next (x:= .tmp 36) (l:=2) (m:=0) (since:=wc) (last:=wc) (c:=wc) (seen:=[]) (es:=we) rfl rfl (by kernel_rfl) rfl rfl hw.lt (.inl rfl) (fun hf=>?_) fun e he=>?_
 · exfalso
   have:Aj [] we=we:=List.filter_eq_self.2 (by simp)
   rw[this] at hf
   have hlen:=hw.len
   rw[hf] at hlen
   exact hne (List.length_eq_zero_iff.1 hlen.symm)
 · have he1:=(List.mem_filter.1 he).1
   obtain⟨x,v,hx,k2,k3⟩:=hw.mem he1
   generalize e.2.2=n at k2 k3
   subst k2
   obtain⟨hxl,hxg⟩:=hwx x hx
   refine adS 1 (zRN N t (i:Int) we wc ge gc (x:Int) v n) ?_
   refine rD ?_
   refine oC (p:=[2,2,5,2,1]) (i:=2) (id:=7) (c:=gZ ((aO env 60 [2,2,5,2,1]).getD 2 .skip)) (by kernel_rfl) (by kernel_rfl) ?_
   show ay env N 60 [2,2,5,2,1,2] 0 _ _
   refine yB (by kernel_rfl) (of_decide_eq_true (by kernel_rfl)) ?_
   refine zY (o:=amM) (by kernel_rfl) ?_
   refine LX (x:= .tmp 36) (l:=2) (m:=0) (since:=wc) (c:=wc) (n:=n) (seen:=[]) (es:=we) (e:=(i64 (x:Int),i64 v,n)) rfl rfl (by kernel_rfl) rfl rfl k3 ?_
   show Hl env N 60 [2,2,5,2,1,2] 0 1 (sRe t (i:Int) we wc ge gc (x:Int) v n) _
   refine akn (k:=0) (zRE N t (i:Int) we wc ge gc (x:Int) v n) ?_
   refine Zn hN ht hts hw hg ho hx hxl hxg fun we2 Qk XV KP gc1 h1 h2 h3 h4=>yK ?_
   rw[if_neg (by decide)]
   exact hQ x we2 Qk XV KP gc1 hx h1 h2 h3 h4
theorem ring_step {N:Nat} (hN:big+80≤N) {t:List Cf} {i:Nat} (ht:cO Cf.ok t) (hts:∀ c∈t,(c.s.length+1)*8≤big) {Q:Ex→St→Prop}
 (hend:∀ ge gc gs,jC ge gc gs→Ones ge→(∀ j,j∈gs↔Up t i j)→ay env N 60 [2,2] 6 (sRx t (i:Int) ge gc) Q) (m:Nat) (st:St) (hI:adF t i m st):
 ay env N 60 ([2,2]++ [5]) 0 st fun e st=>e.kP (∃ m',m' < m∧adF t i m' (canon 0 (dZ env 60 [2,2] 5).1 st))
  (fun j=>if j=4 then ay env N 60 [2,2] (5+1) (canon 0 (dZ env 60 [2,2] 5).2 st) Q else Q (.exit j) (canon 0 (dZ env 60 [2,2] 5).2 st)) (Q .ret (canon 0 (lD (dW env 60)) st)):=by
 have hbg:=aU
 have htl:=ht.1
 obtain⟨we,wc,ws,ge,gc,gs,rfl,hw,hg,ho,hd,hk,hm⟩:=hI
 have hwl:ws.length≤t.length:=Bg _ _ hw.nd fun x hx=>(hk.up x (.inl hx)).lt
 have hlen:=hw.len
 show ay env N 60 [2,2,5] 0 _ _
 have h1:=Oh N t (i:Int) we wc ge gc
 rw[decide_eq_true (show we.length≤140737488355328 by omega),aN] at h1
 by_cases hne:ws= []
 · rw[hne,List.length_nil] at hlen
   rw[hlen,decide_eq_false (by simp),cond_false] at h1
   refine fF (e:= .exit 4) 2 h1 ?_
   refine yK (yK ?_)
   rw[if_pos rfl,cRx]
   exact hend ge gc gs hg ho fun j=>hk.done (fun j hj=>by rw[hne] at hj; cases hj) j
 · rw[decide_eq_true (by have:=List.length_pos_iff.2 hne; omega),cond_true] at h1
   refine fF (e:= .norm) 2 h1 ?_
   refine rD ?_
   refine oC (p:=[2,2,5]) (i:=2) (id:=5) (c:=gZ ((aO env 60 [2,2,5]).getD 2 .skip)) (by kernel_rfl) (by kernel_rfl) ?_
   show ay env N 60 [2,2,5,2] 0 _ _
   obtain⟨st1,g1,g2⟩:=zS (zRR N t (i:Int) we wc ge gc (we.length:Int) true)
   refine QL 1 g1 ?_
   refine rD ?_
   refine xC (p:=[2,2,5,2]) (i:=1) (id:=6) (c:=gZ ((aO env 60 [2,2,5,2]).getD 1 .skip)) (by kernel_rfl) (by kernel_rfl) (fun _ st=>st=sRr t (i:Int) we wc ge gc wc wc []) (m:=0) g2 ?_
   rintro _ st rfl
   refine Zo hN ht hts hw hg ho hne (fun x hx=>⟨(hk.up x (.inl hx)).lt,hd x hx⟩) fun x we2 Qk XV KP gc1 hx hst hw2 hg1 ho1=>yK ?_
   rw[if_pos rfl]
   refine kU (by kernel_rfl) (rD (kU (by kernel_rfl) (rD ?_)))
   rw[cR6]
   have hmem:∀ y,y∈(jL t x).foldl (Mc (gs++ [x])) XV↔(y∈ws∧y≠x)∨(y∈jL t x∧ ¬ (y∈gs∨y=x)):=fun y=>by
    rw[TV,hst]; simp
   have hgl:(gs++ [x]).length≤t.length:=Bg _ _ hg1.nd fun y hy=>by
    rcases List.mem_append.1 hy with hy|hy
    · exact(hk.up y (.inr hy)).lt
    · rw[List.mem_singleton.1 hy]; exact(hk.up x (.inl hx)).lt
   rw[List.length_append,List.length_singleton] at hgl
   refine⟨m - 1,by omega,we2,Qk,_,KP,gc1,gs++ [x],rfl,hw2,hg1,ho1,fun y hy hy2=>?_,?_,by rw[List.length_append,List.length_singleton]; omega⟩
   · have h3:y∈gs∨y=x:=by simpa using hy2
     rcases(hmem y).1 hy with ⟨h1,h2⟩|⟨_,h2⟩
     · exact h3.elim (hd y h1) h2
     · exact h2 h3
   · have e1:(fun y=>y∈(jL t x).foldl (Mc (gs++ [x])) XV)=fun y=>(y∈ws∧y≠x)∨(y∈jL t x∧ ¬ (y∈gs∨y=x)):=funext fun y=>propext (hmem y)
     have e2:(fun y=>y∈gs++ [x])=fun y=>y∈gs∨y=x:=funext fun y=>propext (by simp)
     rw[e1,e2]
     exact hk.step hx
theorem cR0 (N:Nat) (t:List Cf):D8 env 60 [] 2 (dO env N 60 [] 0 2 (oq env 60 [.t (.sl 6 (t.map Cf.t))]))= .ok (.norm,sRa t 0):=by kernel_rfl
theorem cRz (t:List Cf) (i:Int) (b:Bool):canon 0 (dZ env 60 [] 2).2 (YD t i b)=⟨slots 70 [],[]⟩:=by kernel_rfl
theorem cR4 (t:List Cf) (i:Int) (b:Bool) (x:List T) (n:Int):canon 0 (dZ env 60 [2,2] 4).1 ⟨slots 70 [(0,PV.t (T.sl 6 (List.map Cf.t t))),(4,PV.t (i64 i)),(5,PV.mp 0),(6,PV.mp 1),(13,PV.t (i64 (↑(List.map Cf.t t).length:Int))),(14,PV.t (i64 i)),(15,PV.t (T.bool b)),(16,PV.t (i64 i)),(17,PV.mp 0),(18,PV.mp 1),(19,PV.t (T.sl 6 (List.map Cf.t t))),(20,PV.t (i64 i)),(21,PV.t (.sl 1 x)),(22,PV.t (i64 n)),(23,PV.t (i64 0))],[aj.map [] 0,aj.map [] 0]⟩=sRb t i [] 0 [] 0 x n 0:=by kernel_rfl
theorem aqy (t:List Cf) (i:Int) (we:List eU) (wc:Nat) (ge:List eU) (gc:Nat):canon 0 (dZ env 60 [2,2] 5).1 (wB t i we wc ge gc)=wB t i we wc ge gc:=by kernel_rfl
theorem TU {y:Nat}:∀ (l ks:List Nat),y∈l.foldl addN ks↔y∈ks∨y∈l
 | [],ks=>by simp
 |x::l,ks=>by
  rw[List.foldl_cons,TU l,UO,List.mem_cons]
  constructor
  · rintro((h|h)|h)
    · exact .inl h
    · exact .inr (.inl h)
    · exact .inr (.inr h)
  · rintro(h|h|h)
    · exact .inl (.inl h)
    · exact .inl (.inr h)
    · exact .inr h
theorem aci {N:Nat} (hN:big+80≤N) {t:List Cf} {i:Nat} (ht:cO Cf.ok t) (hts:∀ c∈t,(c.s.length+1)*8≤big) (hi:i < t.length) {Q:Ex→St→Prop}
 (hend:∀ ge gc gs,jC ge gc gs→Ones ge→(∀ j,j∈gs↔Up t i j)→ay env N 60 [2,2] 6 (sRx t (i:Int) ge gc) Q):ay env N 60 [2,2] 0 (YD t (i:Int) true) Q:=by
 have hbg:=aU
 obtain⟨M,rfl⟩:=dJ (show 1≤N by omega)
 have hc:t[i]? =some t[i]:=List.getElem?_eq_getElem hi
 have z:=Xp (M+1) t (i:Int) true
 rw[aH (aeQ (by omega) ht hc (hts _ (List.mem_of_getElem? hc)))] at z
 simp only[iO] at z
 refine fF (e:= .norm) 4 z ?_
 refine rD ?_
 have hpl:(jL t i).length≤big:=by
  have h1:=U4 hc
  have h2:=hts _ (List.mem_of_getElem? hc)
  omega
 obtain⟨we,wc,hw,hit⟩:=amV (N:=M+1) (t:=t) (i:=(i:Int)) (by omega) (jL t i) hpl
 refine y7 (p:=[2,2]) (i:=4) (id:=2) (X:=wB t (i:Int) we wc [] 0) (c:=gZ ((aO env 60 [2,2]).getD 4 .skip)) (by kernel_rfl) ?_ ?_
 · refine Eq.trans ?_ hit
   exact congrArg _ (cR4 t (i:Int) true (fJ (jL t i)) ((fJ (jL t i)).length:Nat))
 have hm:∀ y,y∈(jL t i).foldl addN []↔y∈jL t i:=fun y=>by rw[TU]; simp
 refine xC (p:=[2,2]) (i:=5) (id:=4) (c:=gZ ((aO env 60 [2,2]).getD 5 .skip)) (by kernel_rfl) (by kernel_rfl) (adF t i) (m:=t.length) ?_ (ring_step hN ht hts hend)
 rw[aqy]
 exact⟨we,wc,_,[],0,[],rfl,hw,jC.nil 0,fun e he=>(by cases he),fun x _ h=>(by cases h),⟨fun j hj=>hj.elim (fun h=> .one ((hm j).1 h)) (fun h=>(by cases h)),fun j hj=> .inl ((hm j).2 hj),fun j hj=>(by cases hj)⟩,by simp⟩
theorem acn {t:List Cf} {i:Nat} (hi:i < t.length) (h:Up t i i) (hb:∀ j < i,¬ Up t j j):uX t=some i:=by
 unfold uX
 rw[List.find?_eq_some_iff_getElem]
 refine⟨(steps_iff hi).2 h,i,by rw[List.length_range]; exact hi,List.getElem_range _,fun j hj=>?_⟩
 rw[List.getElem_range]
 cases hs:kD t j t.length j with
 |true=>exact absurd ((steps_iff (by omega)).1 hs) (hb j hj)
 |false=>rfl
theorem acj {t:List Cf} (hb:∀ j < t.length,¬ Up t j j):uX t=none:=by
 unfold uX
 rw[List.find?_eq_none]
 intro j hj
 rw[List.mem_range] at hj
 intro h
 exact hb j hj ((steps_iff hj).1 h)
theorem alu (i:Nat) (R:PV→List aj→Prop) (h:∀ r H',aW env 60 r H'= .ok (Gp (some i))→R r H'):AZ env (dW env 60) R ⟨slots 70 [(2,PV.t (i64 (i:Int))),(3,PV.t (T.bool true))],[]⟩:=⟨.au [.t (i64 (i:Int)),.t (.bool true)],[],by kernel_rfl,h _ _ (by kernel_rfl)⟩
theorem als (R:PV→List aj→Prop) (h:∀ r H',aW env 60 r H'= .ok (Gp none)→R r H'):AZ env (dW env 60) R ⟨slots 70 [(2,PV.t (i64 0)),(3,PV.t (T.bool false))],[]⟩:=⟨.au [.t (i64 0),.t (.bool false)],[],by kernel_rfl,h _ _ (by kernel_rfl)⟩
theorem ach {N:Nat} (hN:big+80≤N) {t:List Cf} (ht:cO Cf.ok t) (hts:∀ c∈t,(c.s.length+1)*8≤big):O4 env (aJ env N) 60 ([T.sl 6 (t.map Cf.t)].map .t) [] (fun r H'=>aW env 60 r H'= .ok (Gp (uX t))):=by
 have hbg:=aU
 have htl:=ht.1
 refine Dj ⟨dW env 60,by kernel_rfl,by kernel_rfl⟩ ?_
 refine zq (i:=0) 2 (id:=0) (c:=gZ ((aO env 60 []).getD 2 .skip)) (cR0 N t) (by kernel_rfl) (by kernel_rfl) (fun k st=>∃ i:Nat,i+k=t.length∧st=sRa t (i:Nat)∧∀ j < i,¬ Up t j j) (m:=t.length) ⟨0,by omega,rfl,by simp⟩ ?_
 rintro k st ⟨i,hik,rfl,hb⟩
 show ay env N 60 [2] 0 _ _
 have h1:=adz N t (i:Nat)
 by_cases hi:i < t.length
 · rw[decide_eq_true (by rw[List.length_map]; omega),cond_true] at h1
   refine fF (e:= .norm) 2 h1 ?_
   refine rD ?_
   refine oC (p:=[2]) (i:=2) (id:=1) (c:=gZ ((aO env 60 [2]).getD 2 .skip)) (by kernel_rfl) (by kernel_rfl) ?_
   refine aci hN ht hts hi fun ge gc gs hg ho hup=>?_
   have z:=zRX N t (i:Nat) ge gc
   rw[Jl,aN,wrap_succ (show i≤big by omega)] at z
   by_cases hr:i∈gs
   · obtain⟨_,_,_,hk⟩:=(Ec hg ho i (ah.ok (Ex.norm,sRa t (i+1:Nat))) _).resolve_left fun h=>h.1 hr
     refine Ls (p:=[]) (i:=2) (a:=2) (b:=6) (k1:=2) (k2:=1) (id:=1) (by kernel_rfl) (by kernel_rfl) (z.trans hk) fun e' s' he=>?_
     cases e' with
     |norm=>simp[tJ,Ex.k] at he
     |exit j=>simp[tJ,Ex.k] at he
     |ret=>
      simp only[tJ,Ex.k,ah.ok.injEq,Prod.mk.injEq,true_and] at he
      refine Xy ?_
      refine Xy ?_
      rw[he]
      exact alu i _ fun r H' h=>by rw[acn hi ((hup i).1 hr) hb]; exact h
   · have hk:∀ B,fA [0] (i64 (i:Int)) ge (ah.ok (Ex.norm,sRa t (i+1:Nat))) B=ah.ok (Ex.norm,sRa t (i+1:Nat)):=fun B=>((Ec hg ho i (ah.ok (Ex.norm,sRa t (i+1:Nat))) B).resolve_right fun h=>hr h.1).2
     refine Ls (p:=[]) (i:=2) (a:=2) (b:=6) (k1:=2) (k2:=1) (id:=1) (by kernel_rfl) (by kernel_rfl) (z.trans (hk _)) fun e' s' he=>?_
     cases e' with
     |norm=>
      simp only[tJ,Ex.k,ah.ok.injEq,Prod.mk.injEq,true_and] at he
      refine rD ⟨k - 1,by omega,i+1,by omega,he,fun j hj=>?_⟩
      rcases Nat.lt_succ_iff_lt_or_eq.1 hj with h|rfl
      · exact hb j h
      · exact fun h=>hr ((hup _).2 h)
     |exit j=>simp[tJ,Ex.k] at he
     |ret=>simp[tJ,Ex.k] at he
 · rw[decide_eq_false (by rw[List.length_map]; omega),cond_false] at h1
   refine fF (e:= .exit 0) 2 h1 ?_
   refine yK (yK ?_)
   rw[if_pos rfl,cRz]
   refine fF (e:= .ret) 2 (ady N) ?_
   refine Xy ?_
   refine als _ fun r H' h=>?_
   rw[acj fun j hj=>hb j (by omega)]; exact h
end
end Go.aT
