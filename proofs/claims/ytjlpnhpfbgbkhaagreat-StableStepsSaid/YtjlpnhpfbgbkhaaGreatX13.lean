/- The texts of a proof, one behind the other: an interpreter and its soundness, what the functions of the program answer, and plain laws on that. -/
import Derived.Test.YtjlpnhpfbgbkhaaGreatX12
import Derived.Test.YtjlpnhpfbgbkhaaGreatX1
import Derived.Test.YtjlpnhpfbgbkhaaGreatX7
import Derived.Test.YtjlpnhpfbgbkhaaGreatK10
set_option linter.unusedVariables false
set_option linter.unusedSimpArgs false
set_option linter.unnecessarySimpa false
set_option linter.unusedSectionVars false
set_option maxRecDepth 100000
namespace Go.aP
section
open Go.RowKit Go.Proofs
section
variable {t:List Cf} {L:List (List Ch)} {x:Px}
def lF (L:List (List Ch)) (x:Px) (i:Nat):Option Rt:=mW (L.getD i []) x
theorem UY (hg:nP t) (hf:lV t L=true) {i:Nat} {r:Rt} (h:lF L x i=some r):i < t.length∧(CJ t x i r∨∃ j r',lF L x j=some r'∧yx t x i j r' r):=by
 have hn:=Ai hf
 have hl:L.length=t.length:=by rw[←hn]; exact pz hg.most
 have hi:i < t.length:=by
  refine Classical.byContradiction fun hi=>?_
  unfold lF at h
  rw[List.getD_eq_getElem?_getD,List.getElem?_eq_none (by omega)] at h
  cases h
 have hc:t[i]? =some t[i]:=List.getElem?_eq_getElem hi
 have hgd:∀ j,sK (L.getD j [])=true:=fun j=>by rw[←hn]; exact Qd j
 have e:lF L x i=oO (gq t[i] (jU t L i t[i]) x):=by
  unfold lF
  conv=>lhs; rw[←hn]
  rw[List.getD_eq_getElem?_getD,yj hg.most hc,Option.getD_some,Q5]
 rw[e] at h
 exact⟨hi,(vY hgd hc).1 (kR h).1⟩
theorem afd (hg:nP t) (hf:lV t L=true) {i:Nat} {r:Rt} (h:lF L x i=some r):EZ t x i r:=by
 rcases(UY hg hf h).2 with h|⟨_,_,_,h⟩
 · exact h.live
 · exact h.live
def Better (L:List (List Ch)) (x:Px) (a b:Nat):Prop:=∃ ra rb,lF L x a=some ra∧lF L x b=some rb∧iM rb ra < 0
theorem RH {a b c:Nat} (h1:Better L x a b) (h2:Better L x b c):Better L x a c:=by
 obtain⟨ra,rb,a1,a2,a3⟩:=h1
 obtain⟨rb',rc,b1,b2,b3⟩:=h2
 rw[a2] at b1; cases b1
 refine⟨ra,rc,a1,b2,?_⟩
 have h:=vP (show iM rc rb≤0 by omega) (show iM rb ra≤0 by omega)
 rcases Int.lt_or_eq_of_le h with h|h
 · exact h
 · have e:=qj.1 h
   subst e
   have:=Bh rb rc
   omega
theorem Gt {a b:Nat} (h:Better L x a b):a≠b:=by
 rintro rfl
 obtain⟨ra,rb,a1,a2,a3⟩:=h
 rw[a1] at a2; cases a2
 rw[qj.2 rfl] at a3
 omega
theorem PW (hg:nP t) (hf:lV t L=true):∀ (d i:Nat) (ys:List Nat),(∃ zs,ys=zs++ [i])→ys.Pairwise (Better L x)→(∀ y∈ys,(lF L x y).isSome=true∧y < t.length)→9≤ys.length+d→
 ∃ zs,CQ t L x d ys i=(zs,true)∧ys <+:zs∧zs.Pairwise (Better L x)∧(∀ y∈zs,(lF L x y).isSome=true∧y < t.length)∧∃ b c,zs.getLast? =some b∧t[b]? =some c∧x∈c.w
 |d,i,ys,he,hp,ha,h9=>by
  have hnd:∀ zs:List Nat,zs.Pairwise (Better L x)→(∀ y∈zs,y < t.length)→zs.length≤t.length:=fun zs h1 h2=>AP _ zs (List.nodup_iff_pairwise_ne.2 (h1.imp fun h=>Gt h)) h2
  have h8:=hg.most
  cases d with
  |zero=>have:=hnd ys hp fun y hy=>(ha y hy).2; omega
  |succ d=>
   obtain⟨zs,rfl⟩:=he
   obtain⟨h1,hi⟩:=ha i (by simp)
   obtain⟨r,hr⟩:=Option.isSome_iff_exists.1 h1
   have hr':mW (L.getD i []) x=some r:=hr
   unfold CQ
   rw[hr']
   simp only[]
   rcases(UY hg hf hr).2 with ⟨c,hc,h0,hw,rfl⟩|⟨j,r',hj,hx⟩
   · rw[if_pos (show(uI c.d).f < 0 by show(-1:Int) < 0; omega)]
     exact⟨zs++ [i],rfl,List.prefix_refl _,hp,ha,i,c,by simp,hc,hw⟩
   · have hw:=hx.worse hg (afd hg hf hj)
     obtain⟨c,dd,k,m,q,hc,hd,hfr,ho,hin⟩:=hx
     have hk:r.f=(k:Int):=(vC hin).2.2.1
     rw[hk,if_neg (by omega),hfr]
     simp only[]
     have hlast:∀ y∈zs++ [i],Better L x y j:=fun y hy=>by
      have hij:Better L x i j:=⟨r,r',hr,hj,hw⟩
      rcases List.mem_append.1 hy with hy|hy
      · rw[List.pairwise_append] at hp
        exact RH (hp.2.2 y hy i (by simp)) hij
      · rw[List.mem_singleton.1 hy]; exact hij
     have hp':(zs++ [i]++ [j]).Pairwise (Better L x):=by
      rw[List.pairwise_append]
      exact⟨hp,by simp,fun a ha b hb=>by rw[List.mem_singleton.1 hb]; exact hlast a ha⟩
     have ha':∀ y∈zs++ [i]++ [j],(lF L x y).isSome=true∧y < t.length:=fun y hy=>by
      rcases List.mem_append.1 hy with hy|hy
      · exact ha y hy
      · rw[List.mem_singleton.1 hy,hj]; exact⟨rfl,(List.getElem?_eq_some_iff.1 hd).1⟩
     have hl:=hnd _ hp' fun y hy=>(ha' y hy).2
     rw[List.length_append,List.length_singleton] at hl
     rw[if_neg (by omega)]
     obtain⟨ws,g1,g2,g3,g4,g5⟩:=PW hg hf d j (zs++ [i]++ [j]) ⟨_,rfl⟩ hp' ha' (by rw[List.length_append,List.length_singleton]; omega)
     exact⟨ws,g1,(List.prefix_append _ _).trans g2,g3,g4,g5⟩
theorem afr (hg:nP t) (hf:lV t L=true) {i:Nat} (hi:i < t.length):(lF L x i=none∧yc t L i x=([i],false))∨
 ((lF L x i).isSome=true∧∃ zs,yc t L i x=(i::zs,true)∧(i::zs).Pairwise (Better L x)∧(∀ y∈i::zs,(lF L x y).isSome=true∧y < t.length)∧(i::zs).length≤t.length∧∃ b c,(i::zs).getLast? =some b∧t[b]? =some c∧x∈c.w):=by
 have h8:=hg.most
 have e:yc t L i x=CQ t L x 9 [i] i:=by
  unfold yc
  rw[if_pos ⟨by omega,by omega,h8⟩,Int.toNat_natCast]
 cases ht:lF L x i with
 |none=>
  refine .inl ⟨rfl,?_⟩
  rw[e]
  unfold CQ
  have ht':mW (L.getD i []) x=none:=ht
  rw[ht']
 |some r=>
  refine .inr ⟨rfl,?_⟩
  obtain⟨zs,g1,g2,g3,g4,g5⟩:=PW hg hf 9 i [i] ⟨[],rfl⟩ (List.pairwise_singleton _ _) (fun y hy=>by rw[List.mem_singleton.1 hy,ht]; exact⟨rfl,hi⟩) (by simp)
  obtain⟨ws,rfl⟩:=g2
  refine⟨ws,by rw[e,g1]; rfl,g3,g4,AP _ _ (List.nodup_iff_pairwise_ne.2 (g3.imp fun h=>Gt h)) fun y hy=>(g4 y hy).2,g5⟩
end
end
section
open Go.RowKit Go.Proofs
theorem QK {M:Nat} {t:List Cf} {U:List Px} (hM:big+40≤M) (h:Home t U):ak env (M+1) 25 [.sl 6 (t.map Cf.t)]= .ok (.au [i64 ((qY t).1:Int),i64 (qY t).2]):=by
 have hb:=aQ
 have hr:N9 t:=fun c hc=>by have:=(h.sides c hc).1; omega
 exact alh hM h.ft (fun c hc=>by have:=(h.sides c hc).1; omega) fun m=> .inl (aly h.ft hr)
theorem Vh {m:Nat} {t:List Cf} {U:List Px} {K:List (List Ch)} (h:Home t U) (hM:big+80≤m):∀ (d n:Nat) (L:List (List Ch)) (r:Nat),n+d=jD t.length→nX U L→d < r→
 bH (aH env m 6 0 9) r (YE t L K n)= .ok (.exit 0,⟨slots 56 [(1,.t (.sl 1 (dH (lM t d L).1))),(5,.t (.bool true)),(8,.t (.sl 1 (dH K)))],[]⟩)
 |d,n,L,r+1,hd,hL,hr=>by
  obtain⟨m,rfl⟩:=dL (show 1≤m by omega)
  have hbg:=aQ
  have hbl:=JY t.length
  have hb:=apJ (m+1) t L K n
  rw[show(((t.map Cf.t).length:Nat):Int)=(t.length:Int) by rw[List.length_map],nI (aez h.ft.1)] at hb
  cases d with
  |zero=>
   rw[decide_eq_false (show ¬ (n:Int) < (jD t.length:Int) by omega)] at hb
   exact eH hb
  |succ d=>
   rw[decide_eq_true (show(n:Int) < (jD t.length:Int) by omega),cond_true,bD (h.fixed hL (by omega))] at hb
   unfold lM
   by_cases hf:lV t L=true
   · rw[if_pos hf]
     rw[hf] at hb
     exact eH hb
   · rw[if_neg hf]
     rw[show lV t L=false by simpa using hf,Bool.not_false,cond_true,aF (h.nexts hL (by omega)),wrap_succ (show n≤big by omega)] at hb
     have hb2:aH env (m+1) 6 0 9 (YE t L K n)= .ok (.norm,YE t (nextR t L) K (n+1:Nat)):=hb
     rw[aW hb2]
     exact Vh h hM d (n+1) (nextR t L) r (by omega) (h.next hL) (by omega)
theorem aof {M:Nat} {t:List Cf} {L:List (List Ch)} (hM:big+320≤M) (ht:bZ Cf.ok t) (hL:bZ (bZ Ch.ok) L):ak env (M+1) 6 [.sl 6 (t.map Cf.t),.sl 1 (dH L)]= .ok (.bool true):=by
 obtain⟨m,rfl⟩:=dL (show 1≤M by omega)
 have hbg:=aQ
 have hbl:=JY t.length
 rw[q6,aZ (dN (ku ht) (qh hL)),aF (Yi (by omega)),bD (Yj (by omega) ht)]
 cases h1:zN t with
 |false=>rfl
 |true=>
 simp only[Bool.not_true,cond_false]
 rw[bD (aew (by omega) hL)]
 cases h2:Jw L with
 |false=>rfl
 |true=>
 obtain⟨h,hfl⟩:=Ah ht hL h1 h2
 simp only[Bool.not_true,cond_false]
 rw[aF (QK (by omega) h)]
 simp only[aG,List.getElem?_cons_zero,List.getElem?_cons_succ,bW]
 by_cases h0:(qY t).2=0
 case neg=>rw[show((qY t).2 !=0)=true by simpa using h0]; rfl
 have hg:=Q7 h0
 rw[h0,show((0:Int) !=0)=false from rfl,cond_false,aF (h.stable (by omega))]
 simp only[aG,List.getElem?_cons_zero,List.getElem?_cons_succ]
 have it:=Vh (m:=m+1) (K:=(iL t).1) h (by omega) (jD t.length) 0 L (m+1) (by omega) hfl (by omega)
 refine(aU it).trans ((Z7 (m+1) _ _).trans ?_)
 have e:=(qm hg L).2.1
 have hr:=(h.room (h.from_ hfl (jD t.length))).fL
 rw[aF (XL (by omega) hr (by rw[←e]; exact hr)),e,decide_eq_true rfl]
theorem Zl {c:Cf} {t:List (List En)} {x:Px} (h:dF c=true) (hx:x∈c.w):oO (gq c t x)=some (uI c.d):=by
 refine VU (nH.2 ⟨h,.inl ⟨hx,rfl⟩⟩) fun q hq=>?_
 rcases(nH.1 hq).2 with ⟨_,rfl⟩|⟨k,l,p,_,_,_,h4⟩
 · rw[qj.2 rfl]; exact Int.le_refl _
 · obtain⟨_,g1,g2,_⟩:=vC h4
   unfold nK at g1
   simp only[Bool.and_eq_true,decide_eq_true_eq] at g1
   have g3:=g1.2.2
   rw[if_neg (by omega)] at g3
   simp only[Bool.and_eq_true,decide_eq_true_eq] at g3
   have g4:=g3.2.2.2
   unfold iM uI
   simp only[wM]
   have:cZ q.n 400= -1:=by unfold cZ; rw[if_pos g4]
   rw[this]
   simp
theorem agk {t:List Cf} (hg:nP t) {i:Nat} {c:Cf} (hc:t[i]? =some c):(iL t).1[i]? =some (kH c (jU t (iL t).1 i c)):=by
 have hf:=(qm hg []).1
 rw[(qm hg []).2.1] at hf
 conv=>lhs; rw[←Ai hf]
 exact yj hg.most hc
theorem agu (c:Cf):c.t.ay 4 1 false= .sl 2 (c.w.map Px.t):=rfl
theorem apN (c:Cf):c.t.ay 1 1 false=i64 c.d:=rfl
theorem agp {m i:Nat} {t:List Cf} {U:List Px} {c:Cf} (hM:big+80≤m+1) (h:Home t U) (hg:nP t) (hs:nX U (iL t).1) (hc:t[i]? =some c):nY env (m+1) 5 11 14 (SG t (iL t).1 i (0:Nat))= .ok (.norm,I8 t (iL t).1 (i+1:Nat)):=by
 have hbg:=aQ
 have htb:=h.ft.1
 have hi:=(List.getElem?_eq_some_iff.1 hc).1
 have hco:=h.ft.2 c (List.mem_of_getElem? hc)
 have hl:=agk hg hc
 have abM:=(h.room hs).fL.2 _ (List.mem_of_getElem? hl)
 have it:=fH (B:=nR env (m+1) 5 0 11 14) (S:=fun k=>SG t (iL t).1 i (k:Nat)) (R:=fun _=>⟨[],[]⟩) (X:=I8 t (iL t).1 i) (id:=2) (fun _=>false) c.w.length 0 (m+1) (by have:=(h.sides c (List.mem_of_getElem? hc)).2; omega)
  (fun k _ hk hp=>by cases hp)
  (fun k _ hk hp=>by
   have hx:c.w[k]? =some c.w[k]:=List.getElem?_eq_getElem (by omega)
   have hxm:=List.mem_of_getElem? hx
   have hxo:=hco.w.2 _ hxm
   generalize c.w[k]=x at hx hxm hxo
   have hgt:mW (kH c (jU t (iL t).1 i c)) x=some (uI c.d):=by rw[Q5,Zl (hg.sane c (List.mem_of_getElem? hc)) hxm]
   rw[Uz,aA (aC hc),agu]
   simp only[gY]
   rw[decide_eq_true (by rw[List.length_map]; omega),cond_true,aA (jL hl),aA (aC hc),agu]
   simp only[qW,if_true]
   rw[aA (aC hx),aF (Fg (by omega) abM hxo),hgt]
   simp only[BJ,aG,List.getElem?_cons_zero,List.getElem?_cons_succ,bT,Bool.not_true,cond_false]
   rw[oz,aI,aA (aC hc),apN,aF (XO hco.d),bD (XM (by omega) (Em hco.d) (Em hco.d)),qj.2 rfl,wrap_succ (show k≤big by have:=(h.sides c (List.mem_of_getElem? hc)).2; omega)]
   rfl)
  (by
   rw[Nat.zero_add,Uz,aA (aC hc),agu]
   simp only[gY]
   rw[decide_eq_false (by rw[List.length_map]; omega)]; rfl)
 rw[wY] at it
 refine(kU it).trans ((NS (m+1) t _ i).trans ?_)
 rw[wrap_succ (show i≤big by omega)]
theorem aoe {M:Nat} {t:List Cf} (hM:big+320≤M) (ht:bZ Cf.ok t):ak env (M+1) 5 [.sl 6 (t.map Cf.t)]= .ok (.bool true):=by
 obtain⟨m,rfl⟩:=dL (show 1≤M by omega)
 have hbg:=aQ
 have htb:=ht.1
 rw[q5,aZ (gQ (ku ht)),aF (Yi (by omega)),bD (Yj (by omega) ht)]
 cases h1:zN t with
 |false=>rfl
 |true=>
 obtain⟨h,_⟩:=Ah (L:=[]) ht ⟨Nat.zero_le _,fun l hl=>(by cases hl)⟩ h1 rfl
 have hs:=h.from_ h.first (jD t.length)
 simp only[Bool.not_true,cond_false]
 rw[aF (QK (by omega) h)]
 simp only[aG,List.getElem?_cons_zero,List.getElem?_cons_succ]
 rw[aF (h.stable (by omega))]
 simp only[aG,List.getElem?_cons_zero,List.getElem?_cons_succ,bW]
 by_cases h0:(qY t).2=0
 case neg=>
  rw[show((qY t).2 !=0)=true by simpa using h0]
  simp only[cond_true,bT]
  rw[aF (h.fixed (L:=(iL t).1) hs (by omega))]
  have e:(iL t).2=lV t (iL t).1:=J8 t _ _
  rw[←e]
  simp only[T.dZ,Option.map_some,beq_self_eq_true,Bool.and_true]
 have hg:=Q7 h0
 have hst:=qm hg (oh t)
 rw[h0,show((0:Int) !=0)=false from rfl,cond_false,hst.2.2]
 simp only[bT,Bool.not_true,cond_false]
 rw[bD (h.fixed (L:=(iL t).1) hs (by omega)),(show lV t (iL t).1=true by rw[←hst.2.1]; exact hst.1)]
 simp only[Bool.not_true,cond_false,gY]
 rw[xW,KL hg,List.length_map,show(((t.length:Nat):Int) !=(t.length:Int))=false by simp,cond_false]
 have it:=fH (B:=aH env (m+1) 5 0 11) (S:=fun i=>I8 t (iL t).1 (i:Nat)) (R:=fun _=>⟨[],[]⟩) (X:=⟨slots 98 [(3,.t (.bool true))],[]⟩) (id:=0) (fun _=>false) t.length 0 (m+1) (by omega)
  (fun k _ hk hp=>by cases hp)
  (fun i _ hi hp=>by
   rw[ajw,decide_eq_true (by rw[List.length_map]; omega),cond_true]
   exact agp (by omega) h hg hs (List.getElem?_eq_getElem (by omega)))
  (by rw[Nat.zero_add,ajw,decide_eq_false (by rw[List.length_map]; omega)]; rfl)
 rw[wY] at it
 exact(aU it).trans (Xk (m+1))
theorem ZG {t:List Cf} {L:List (List Ch)} {i:Nat} {c:Cf} {e:Ch} (he:e∈kH c (jU t L i c)):e.r.f= -1∨∃ (k j m:Nat) (l:List Ch),e.r.f=k∧iI t i k=some (j,m)∧L[j]? =some l∧(mW l e.x).isSome=true:=by
 rcases(nH.1 (kR (yV.1 he)).1).2 with ⟨_,h⟩|⟨k,l,p,h1,h2,h3,h4⟩
 · left; rw[h]; rfl
 · right
   have hk:=(vC h4).2.2.1
   unfold jU at h2
   rw[List.getElem?_map,List.getElem?_range h1] at h2
   simp only[Option.map_some,Option.some.injEq] at h2
   subst h2
   unfold pO at h3
   have hno:qo [] e.x=some p→False:=fun h=>absurd (lX (pq.1 h)) (by simp)
   cases hf:iI t i k with
   |none=>rw[hf] at h3; exact absurd h3 hno
   |some q=>
    obtain⟨j,m⟩:=q
    rw[hf] at h3
    simp only at h3
    cases hd:t[j]? with
    |none=>rw[hd] at h3; exact absurd h3 hno
    |some d=>
     rw[hd] at h3
     simp only at h3
     rw[J9] at h3
     split at h3
     · obtain⟨r',g1,_⟩:=Option.bind_eq_some_iff.1 h3
       rw[List.getD_eq_getElem?_getD] at g1
       cases hl:L[j]? with
       |none=>rw[hl] at g1; cases g1
       |some l=>rw[hl] at g1; exact⟨k,j,m,l,hk,hf,hl,by rw[show mW l e.x=some r' from g1]; rfl⟩
     · cases h3
theorem agm {m i:Nat} {t:List Cf} {U:List Px} {L:List (List Ch)} {c:Cf} (hM:big+80≤m+1) (h:Home t U) (hL:nX U L) (h8:t.length≤8) (hc:t[i]? =some c):nY env (m+1) 4 10 13 (Oa t L (nextR t L) i (0:Nat))= .ok (.norm,F6 t L (nextR t L) (i+1:Nat)):=by
 have hbg:=aQ
 have htb:=h.ft.1
 have hi:=(List.getElem?_eq_some_iff.1 hc).1
 have hl:=yj (L:=L) h8 hc
 have abM:=(h.room (h.next hL)).fL.2 _ (List.mem_of_getElem? hl)
 have hfr:∀ e∈kH c (jU t L i c),_:=fun e he=>ZG he
 generalize kH c (jU t L i c)=l at hl abM hfr
 have hll:=abM.1
 have it:=fH (B:=nR env (m+1) 4 0 10 13) (S:=fun k=>Oa t L (nextR t L) i (k:Nat)) (R:=fun _=>⟨[],[]⟩) (X:=F6 t L (nextR t L) i) (id:=2) (fun _=>false) l.length 0 (m+1) (by omega)
  (fun k _ hk hp=>by cases hp)
  (fun k _ hk hp=>by
   have hx:l[k]? =some l[k]:=List.getElem?_eq_getElem (by omega)
   have hxm:=List.mem_of_getElem? hx
   have hxo:=abM.2 _ hxm
   have hfe:=hfr _ hxm
   generalize l[k]=e at hx hxm hxo hfe
   have hw:=wrap_succ (show k≤big by omega)
   have e5:(e.t.ay 2 6 true).ay 5 1 false=i64 e.r.f:=rfl
   rw[Uy,aA (jL hl)]
   simp only[gY]
   rw[decide_eq_true (by rw[List.length_map]; omega),cond_true,aA (jL hl)]
   simp only[qW,if_true]
   rw[aA (aC hx),e5,ajG,oz,aI,aF (Pn (by omega) h.ft (iR (by omega)) hxo.r.f),hw]
   rcases hfe with hfe|⟨k',j,mm,lj,g1,g2,g3,g4⟩
   · rw[hfe]; rfl
   · have hjl:=(List.getElem?_eq_some_iff.1 g3).1
     rw[g1,g2]
     simp only[Yk,Et,Eu,Option.map_some,Option.getD_some,aG,List.getElem?_cons_zero,List.getElem?_cons_succ,Option.isSome_some,bW]
     rw[decide_eq_true (show(k':Int)≥0 by omega),cond_true]
     simp only[bT,Bool.not_true,cond_false]
     rw[decide_eq_false (show ¬ (j:Int)≥((dH L).length:Int) by rw[xW]; omega),cond_false]
     simp only[pJ]
     rw[aA (jL g3),aA (jL hl)]
     simp only[qW,if_true]
     rw[aA (aC hx),adL,bD (alg (by omega) ((h.room hL).fL.2 _ (List.mem_of_getElem? g3)) hxo.x),g4]
     rfl)
  (by
   rw[Nat.zero_add,Uy,aA (jL hl)]
   simp only[gY]
   rw[decide_eq_false (by rw[List.length_map]; omega)]; rfl)
 rw[wY] at it
 refine(kU it).trans ((NR (m+1) t L _ i).trans ?_)
 rw[wrap_succ (show i≤big by omega)]
theorem MN {m:Nat} {t:List Cf} {U:List Px} {L:List (List Ch)} (hM:big+80≤m) (h:Home t U) (hL:nX U L) (h8:t.length≤8):bC env (m+1) 4 10 (F6 t L (nextR t L) (0:Nat))= .ok (.bool true):=by
 have hbg:=aQ
 have hn:=pz (L:=L) h8
 have it:=fH (B:=aH env (m+1) 4 0 10) (S:=fun i=>F6 t L (nextR t L) (i:Nat)) (R:=fun _=>⟨[],[]⟩) (X:=⟨slots 126 [(0,.t (.sl 6 (t.map Cf.t))),(5,.t (.bool true))],[]⟩) (id:=0) (fun _=>false) t.length 0 (m+1) (by omega)
  (fun k _ hk hp=>by cases hp)
  (fun i _ hi hp=>by
   rw[ajt,decide_eq_true (by rw[List.length_map,hn]; omega),cond_true]
   exact agm (by omega) h hL h8 (List.getElem?_eq_getElem (by omega)))
  (by rw[Nat.zero_add,ajt,decide_eq_false (by rw[List.length_map,hn]; omega)]; rfl)
 rw[wY] at it
 refine(aU it).trans ((Xf (m+1) t).trans ?_)
 obtain⟨m,rfl⟩:=dL (show 1≤m by omega)
 have hnil:nX U ([]:List (List Ch)):=⟨⟨by simp,by simp,by simp⟩,Nat.zero_le _⟩
 refine Eq.trans (show _=cl (m+1+1) 19 [.sl 6 (t.map Cf.t),.sl 1 (dH [])] _ from rfl) ?_
 rw[aF (h.nexts hnil (by omega)),aF (Pm (by omega) h.ft h.sides),EH,aF (XL (by omega) (h.room h.first).fL (h.room h.first).fL),decide_eq_true rfl]
theorem aod {M:Nat} {t:List Cf} {L:List (List Ch)} (hM:big+320≤M) (ht:bZ Cf.ok t) (hL:bZ (bZ Ch.ok) L):ak env (M+1) 4 [.sl 6 (t.map Cf.t),.sl 1 (dH L)]= .ok (.bool true):=by
 obtain⟨m,rfl⟩:=dL (show 1≤M by omega)
 have hbg:=aQ
 rw[q4,aZ (dN (ku ht) (qh hL)),aF (Yi (by omega)),bD (Yj (by omega) ht)]
 cases h1:zN t with
 |false=>rfl
 |true=>
 simp only[Bool.not_true,cond_false]
 rw[bD (aew (by omega) hL)]
 cases h2:Jw L with
 |false=>rfl
 |true=>
 obtain⟨h,hfl⟩:=Ah ht hL h1 h2
 simp only[Bool.not_true,cond_false]
 rw[aF (h.nexts hfl (by omega))]
 by_cases h8:t.length≤8
 case neg=>
  rw[decide_eq_true (show((t.map Cf.t).length:Int) > 8 by rw[List.length_map]; omega),cond_true]
  have e1:nextR t L= []:=by unfold nextR; rw[if_neg h8]
  have e2:oh t= []:=by unfold oh; rw[if_neg h8]
  rw[e1]
  simp only[bT,cond_true,gY]
  rw[show(((dH []).length:Nat):Int)==0 from rfl,cond_true,aF (Pm (by omega) h.ft h.sides),e2]
  rfl
 rw[decide_eq_false (show ¬ ((t.map Cf.t).length:Int) > 8 by rw[List.length_map]; omega),cond_false]
 simp only[gY]
 rw[xW,pz h8,List.length_map,show(((t.length:Nat):Int) !=(t.length:Int))=false by simp,cond_false,bD (h.fixed hfl (by omega))]
 cases hf:lV t L with
 |false=>exact MN (by omega) h hfl h8
 |true=>
  simp only[cond_true]
  rw[bD (XL (by omega) (h.room (h.next hfl)).fL (h.room hfl).fL),decide_eq_true (Ai hf)]
  exact MN (by omega) h hfl h8
end
section
open Go.RowKit Go.Proofs
variable [Lv]
def adV (t:List Cf) (L:List (List Ch)) (i:Int) (x:Px) (h:List Int) (b:Bool) (d:Nat→PV):St:=⟨[.t (.sl 6 (t.map Cf.t)),.t (i64 i),d 2,d 3,d 4,.ptr 0 0,d 6,.t (.bool true),d 8,d 9,.t (.sl 1 (dH L)),d 11,.t (.sl 1 (ints h)),.t (.bool b),d 14,d 15,d 16,d 17,d 18,d 19,d 20,d 21,d 22,d 23,d 24,d 25,d 26,d 27,d 28,d 29,d 30,d 31,d 32,d 33,d 34,d 35,d 36,d 37,d 38,d 39,d 40,d 41,d 42,d 43,d 44,d 45,d 46,d 47,d 48,d 49,d 50,d 51,d 52,d 53,d 54,d 55,d 56,d 57,d 58,d 59,d 60,d 61,d 62,d 63,d 64,d 65,d 66,d 67,d 68,d 69,d 70,d 71,d 72,d 73,d 74,d 75,d 76,d 77,d 78,d 79,d 80,d 81,d 82,d 83,d 84,d 85,d 86,d 87,d 88,d 89,d 90,d 91,d 92,d 93,d 94,d 95,d 96,d 97,d 98,d 99,d 100,d 101,d 102,d 103,d 104,d 105,d 106,d 107,d 108,d 109,d 110,d 111,d 112,d 113,d 114,d 115,d 116,d 117,d 118,d 119,d 120,d 121,d 122,d 123,d 124,d 125,d 126,d 127,d 128,d 129,d 130,d 131,d 132,d 133,d 134,d 135,d 136,d 137,d 138,d 139,d 140,d 141,d 142,d 143,d 144,d 145,d 146,d 147,d 148,d 149,d 150,d 151,d 152,d 153,d 154,d 155,d 156,d 157,d 158,d 159,d 160,d 161,d 162,d 163,d 164,d 165,d 166,d 167,d 168,d 169,d 170,d 171,d 172,d 173,d 174,d 175,d 176,d 177,d 178,d 179,d 180,d 181,d 182,d 183,d 184,d 185,d 186,d 187,d 188,d 189,d 190,d 191,d 192,d 193,d 194,d 195],[.box 25 2 (.t x.t)]⟩
theorem apW (N:Nat) (t:List Cf) (L:List (List Ch)) (i:Int) (x:Px) (h:List Int) (b:Bool) (d:Nat→PV):zo env N 7 9 (adV t L i x h b d)=bV (List.map (fun l=>T.sl 8 (List.map Ch.t l)) L) i fun e=>cl N 26 [e,x.t] fun x_1=>aG x_1 0 fun y=>aG x_1 1 fun y_1=>chk (y.cells.length==6&& !y.aV) (match T.dZ [1] [T.bool b] [y_1] with|some b=>bif !b then rB false else bif (↑(ints h).length:Int)==0 then rB false else bif decide ((↑(ints h).length:Int) > (↑(List.map Cf.t t).length:Int)) then rB false else bV (ints h) 0 fun e=>iT IntKind.i64 e fun a=>bif a !=i then rB false else bT y_1 fun b=>bif !b then rB ((↑(ints h).length:Int)==1) else bC env N 7 15 {tmps:=slots 196 [(0,PV.t (T.sl 6 (List.map Cf.t t))),(5,PV.ptr 0 0),(7,PV.t (T.bool true)),(10,PV.t (T.sl 1 (List.map (fun l=>T.sl 8 (List.map Ch.t l)) L))),(12,PV.t (T.sl 1 (ints h))),(16,PV.t (i64 0))],heap:=[ah.box 25 2 (PV.t x.t)]}|none=>aj.stuck):=by kernel_rfl
end
section
open Go.RowKit Go.Proofs
theorem qR {h:List Nat} {k y:Nat} (hy:h[k]? =some y):(ints (oL h))[k]? =some (i64 (y:Int)):=jm (by unfold oL; simp[hy])
theorem Am (h:List Nat):(ints (oL h)).length=h.length:=by simp[ints,oL]
theorem VL {L:List (List Ch)} {x:Px} {y:Nat} {r:Rt} (h:lF L x y=some r):∃ l,L[y]? =some l∧mW l x=some r:=by
 unfold lF at h
 rw[List.getD_eq_getElem?_getD] at h
 cases hl:L[y]? with
 |none=>rw[hl] at h; cases h
 |some l=>rw[hl] at h; exact⟨l,rfl,h⟩
theorem abN {m k y:Nat} {t:List Cf} {L:List (List Ch)} {x:Px} {h:List Nat} (hM:big≤m) (hl:h.length≤8) (hn:h.Pairwise (· ≠ ·)) (hk:h[k]? =some y):nY env (m+1) 7 15 18 (SE t L x (oL h) k (0:Nat))=pR env (m+1) 7 0 15 18 (.exit 2) (Dh t L x (oL h) k):=by
 have hbg:=aQ
 have hkl:=(List.getElem?_eq_some_iff.1 hk).1
 have it:=fH (B:=nR env (m+1) 7 0 15 18) (S:=fun j=>SE t L x (oL h) k (j:Nat)) (R:=fun _=>⟨[],[]⟩) (X:=Dh t L x (oL h) k) (id:=2) (fun _=>false) k 0 (m+1) (by omega)
  (fun j _ hj hp=>by cases hp)
  (fun j _ hj hp=>by
   have hz:h[j]? =some h[j]:=List.getElem?_eq_getElem (by omega)
   have hne:h[j]≠y:=fun e=>by
    have h1:h[k]=y:=by rw[List.getElem?_eq_getElem hkl] at hk; exact Option.some.inj hk
    exact List.pairwise_iff_getElem.1 hn j k (by omega) hkl (by omega) (e.trans h1.symm)
   generalize h[j]=z at hz hne
   rw[UC,decide_eq_true (by omega),cond_true,aA (qR hz),aA (qR hk)]
   simp only[bW]
   rw[beq_eq_false_iff_ne.2 (show(z:Int)≠(y:Int) by omega),cond_false,wrap_succ (show j≤big by omega)])
  (by rw[Nat.zero_add,UC,decide_eq_false (by omega)]; rfl)
 rw[wY] at it
 exact kU it
theorem V6 {m b:Nat} {t:List Cf} {U:List Px} {L:List (List Ch)} {x:Px} {h:List Nat} {c:Cf} (hM:big+80≤m) (hh:Home t U) (hL:nX U L) (hx:x.ok) (h8:h.length≤8) (hp:h.Pairwise (Better L x)) (hi:∀ y∈h,(lF L x y).isSome=true∧y < t.length) (hb:h.getLast? =some b) (hc:t[b]? =some c) (hw:x∈c.w):
 bC env (m+1) 7 15 (Dh t L x (oL h) (0:Nat))= .ok (.bool true):=by
 have hbg:=aQ
 have hn:h.Pairwise (· ≠ ·):=hp.imp fun h=>Gt h
 have hfl:=(hh.room hL).fL
 have it:=fH (B:=aH env (m+1) 7 0 15) (S:=fun k=>Dh t L x (oL h) (k:Nat)) (R:=fun _=>⟨[],[]⟩) (X:=⟨slots 196 [(0,.t (.sl 6 (t.map Cf.t))),(5,.ptr 0 0),(7,.t (.bool true)),(12,.t (.sl 1 (ints (oL h))))],[.box 25 2 (.t x.t)]⟩) (id:=0) (fun _=>false) h.length 0 (m+1) (by omega)
  (fun k _ hk hp=>by cases hp)
  (fun k _ hk _=>by
   have hy:h[k]? =some h[k]:=List.getElem?_eq_getElem (by omega)
   have hym:=List.mem_of_getElem? hy
   have hpk:∀ j z y,j+1=k→h[j]? =some z→h[k]? =some y→Better L x z y:=fun j z y hj h1 h2=>by
    obtain⟨g1,e1⟩:=List.getElem?_eq_some_iff.1 h1
    obtain⟨g2,e2⟩:=List.getElem?_eq_some_iff.1 h2
    rw[←e1,←e2]
    exact List.pairwise_iff_getElem.1 hp j k g1 g2 (by omega)
   obtain⟨h1,h2⟩:=hi _ hym
   generalize h[k]'(by omega)=y at hy hym h1 h2
   obtain⟨r,hr⟩:=Option.isSome_iff_exists.1 h1
   obtain⟨l,hl,hg⟩:=VL hr
   have hlo:=hfl.2 l (List.mem_of_getElem? hl)
   rw[ajC,decide_eq_true (by rw[Am]; omega),cond_true]
   refine(abN (by omega) h8 hn hy).trans ?_
   rw[NU,aA (qR hy)]
   simp only[bW]
   rw[decide_eq_false (show ¬ (y:Int) < 0 by omega),cond_false,aA (qR hy)]
   simp only[bW]
   rw[decide_eq_false (show ¬ (y:Int)≥((t.map Cf.t).length:Int) by rw[List.length_map]; omega),cond_false,wrap_succ (show k≤big by omega)]
   by_cases hk0:k=0
   · subst hk0; rfl
   obtain⟨j,rfl⟩:∃ j,k=j+1:=⟨k - 1,by omega⟩
   have hz:h[j]? =some h[j]:=List.getElem?_eq_getElem (by omega)
   generalize h[j]'(by omega)=z at hz
   have hbt:=hpk j z y rfl hz hy
   obtain⟨ra,rb,a1,a2,a3⟩:=hbt
   rw[hr] at a2; cases a2
   obtain⟨l2,hl2,hg2⟩:=VL a1
   have hlo2:=hfl.2 l2 (List.mem_of_getElem? hl2)
   have ho1:ra.ok:=by obtain⟨e,he,e1,_⟩:=DJ hg2; rw[←e1]; exact(hlo2.2 e he).r
   have ho2:r.ok:=by obtain⟨e,he,e1,_⟩:=DJ hg; rw[←e1]; exact(hlo.2 e he).r
   rw[decide_eq_true (show((j+1:Nat):Int) > 0 by omega),cond_true,show((j+1:Nat):Int) - 1=(j:Int) by omega,wrap64 (show _ by omega),aA (qR hz)]
   simp only[pJ]
   rw[aA (jL hl2),aF (Fg (by omega) hlo2 hx),hg2]
   simp only[BJ,aG,List.getElem?_cons_zero,List.getElem?_cons_succ]
   rw[oz,aI,aA (qR hy)]
   simp only[pJ]
   rw[aA (jL hl),aF (Fg (by omega) hlo hx),hg]
   simp only[BJ,aG,List.getElem?_cons_zero,List.getElem?_cons_succ]
   rw[oz,aI]
   simp only[bT,Bool.not_true,cond_false]
   rw[nI (XP (by omega) ho2 ho1),decide_eq_false (by omega),cond_false])
  (by rw[Nat.zero_add,ajC,decide_eq_false (by rw[Am]; omega)]; rfl)
 rw[wY] at it
 refine(aU it).trans ((Xp (m+1) t x (oL h)).trans ?_)
 have hlen:0 < h.length:=by
  cases h with
  |nil=>cases hb
  |cons a h=>simp
 have hbl:h[h.length - 1]? =some b:=by rw[←List.getLast?_eq_getElem?]; exact hb
 rw[show(((ints (oL h)).length:Nat):Int) - 1=((h.length - 1:Nat):Int) by rw[Am]; omega,wrap64 (by omega),aA (qR hbl)]
 simp only[pJ]
 have hco:=hh.ft.2 c (List.mem_of_getElem? hc)
 rw[aA (aC hc),agu,aF (ali (by omega) hco.w hx),List.contains_iff_mem.2 hw]
theorem Y7 {m i:Nat} {t:List Cf} {U:List Px} {x:Px} {d:Nat→PV} (hM:big+80≤m) (hh:Home t U) (hg:nP t) (hx:x.ok) (hi:i < t.length):zo env (m+1) 7 9 (adV t (iL t).1 i x (oL (yc t (iL t).1 i x).1) (yc t (iL t).1 i x).2 d)= .ok (.bool true):=by
 have hbg:=aQ
 have hs:=hh.from_ hh.first (jD t.length)
 have hs:nX U (iL t).1:=hs
 have hf:lV t (iL t).1=true:=by
  have hst:=qm hg (oh t)
  rw[←hst.2.1]; exact hst.1
 have hlen:=KL hg
 have hl:(iL t).1[i]? =some (iL t).1[i]:=List.getElem?_eq_getElem (by omega)
 have hget:mW ((iL t).1[i]'(by omega)) x=lF (iL t).1 x i:=by
  unfold lF
  rw[List.getD_eq_getElem?_getD,hl]; rfl
 have hlo:=(hh.room hs).fL.2 _ (List.mem_of_getElem? hl)
 generalize (iL t).1[i]'(by omega)=l at hl hget hlo
 refine(apW (m+1) t _ i x _ _ d).trans ?_
 rw[aA (jL hl),aF (Fg (by omega) hlo hx),hget]
 rcases afr (x:=x) hg hf hi with ⟨h1,h2⟩|⟨h1,zs,h2,h3,h4,h5,b,c,h6,h7,h8⟩
 · rw[h1,h2]
   simp only[BJ,aG,List.getElem?_cons_zero,List.getElem?_cons_succ]
   rw[show(zR.cells.length==6&& !zR.aV)=true from rfl,aI]
   simp only[T.dZ,Option.map_some,beq_self_eq_true,Bool.and_true,Bool.not_true,cond_false,Am]
   rw[show decide (((([i]:List Nat).length:Nat):Int) > ((t.map Cf.t).length:Int))=false from decide_eq_false (by rw[List.length_map,List.length_singleton]; omega)]
   rw[show(((([i]:List Nat).length:Nat):Int)==0)=false from rfl]
   simp only[cond_false]
   refine Eq.trans (show _=bV (ints (oL [i])) ((0:Nat):Int) _ from rfl) ?_
   rw[aA (qR (show([i]:List Nat)[0]? =some i from rfl))]
   simp only[bW]
   rw[show((i:Int) !=(i:Int))=false by simp,cond_false]
   rfl
 · obtain⟨r,hr⟩:=Option.isSome_iff_exists.1 h1
   rw[hr,h2]
   simp only[BJ,aG,List.getElem?_cons_zero,List.getElem?_cons_succ]
   rw[oz,aI]
   have h88:=hg.most
   simp only[T.dZ,Option.map_some,beq_self_eq_true,Bool.and_true,Bool.not_true,cond_false,Am]
   rw[show decide ((((i::zs).length:Nat):Int) > ((t.map Cf.t).length:Int))=false from decide_eq_false (by rw[List.length_map]; omega)]
   rw[show((((i::zs).length:Nat):Int)==0)=false from beq_eq_false_iff_ne.2 (by rw[List.length_cons]; omega)]
   simp only[cond_false]
   refine Eq.trans (show _=bV (ints (oL (i::zs))) ((0:Nat):Int) _ from rfl) ?_
   rw[aA (qR (show(i::zs)[0]? =some i from rfl))]
   simp only[bW,bT,Bool.not_true,cond_false]
   rw[show((i:Int) !=(i:Int))=false by simp,cond_false]
   exact V6 (by omega) hh hs hx (by omega) h3 h4 h6 h7 h8
theorem aog {M:Nat} {t:List Cf} {i:Int} {x:Px} (hM:big+330≤M) (ht:bZ Cf.ok t) (hi:aT i=true) (hx:x.ok):ak env (M+1) 7 [.sl 6 (t.map Cf.t),i64 i,x.t]= .ok (.bool true):=by
 obtain⟨m,rfl⟩:=dL (show 1≤M by omega)
 have hbg:=aQ
 have htb:=ht.1
 refine(Dy rfl (by
  have h1:=ku ht; have h3:=bg hi; have h4:=hx.wf
  simp only[T.wfs,h1,h3,h4,Bool.and_self])).trans ?_
 refine(Gq 9).trans ?_
 have key:∀ Kc:St→aj T,(∀ (n:Nat) (U:List Px),Home t U→nP t→i=n→n < t.length→∀ st:St,st=adV t (iL t).1 n x (oL (yc t (iL t).1 n x).1) (yc t (iL t).1 n x).2 (fun i=>st.tmps.getD i .junk)→Kc st= .ok (.bool true))→NK env (m+1) 7 0 9 (oC env 7 [.t (.sl 6 (t.map Cf.t)),.t (i64 i),.t (x.t)]) Kc= .ok (.bool true):=fun Kc hKc=>?_
 · exact key _ fun n U hh hg hi hn st hst=>by rw[hst]; exact Y7 (by omega) hh hg hx hn
 rw[apO,aF (Yi (by omega)),aF (Yj (by omega) ht)]
 simp only[bT]
 cases h1:zN t with
 |false=>rfl
 |true=>
 obtain⟨h,_⟩:=Ah (L:=[]) ht ⟨Nat.zero_le _,fun l hl=>(by cases hl)⟩ h1 rfl
 have hs:nX (OJ t []) (iL t).1:=h.from_ h.first (jD t.length)
 simp only[Bool.not_true,cond_false]
 by_cases i0:i < 0
 · rw[decide_eq_true i0]; rfl
 rw[decide_eq_false i0,cond_false]
 by_cases i1:i≥t.length
 · rw[decide_eq_true (by rw[List.length_map]; omega)]; rfl
 rw[decide_eq_false (by rw[List.length_map]; omega),cond_false]
 obtain⟨n,rfl⟩:∃ n:Nat,i=n:=⟨i.toNat,by omega⟩
 rw[aF (QK (by omega) h)]
 simp only[aG,List.getElem?_cons_zero,List.getElem?_cons_succ]
 rw[aF (h.stable (by omega))]
 simp only[aG,List.getElem?_cons_zero,List.getElem?_cons_succ,bW]
 by_cases h0:(qY t).2=0
 case neg=>
  rw[show((qY t).2 !=0)=true by simpa using h0]
  rfl
 have hg:=Q7 h0
 rw[h0,show((0:Int) !=0)=false from rfl,cond_false,(qm hg []).2.2]
 simp only[bT,Bool.not_true,cond_false,gY]
 rw[xW,KL hg,List.length_map,show(((t.length:Nat):Int) !=(t.length:Int))=false by simp,cond_false,aF (aex (by omega) (h.room hs) hi hx)]
 simp only[aG,List.getElem?_cons_zero,List.getElem?_cons_succ]
 exact hKc n _ h hg rfl (by omega) _ rfl
end
end Go.aP
