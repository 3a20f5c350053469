/- The texts of a proof, one behind the other: an interpreter and its soundness, what the functions of the program answer, and plain laws on that. -/
import Derived.Test.YtjlpnhpfbgbkhaaGreatX3
import Derived.Test.YtjlpnhpfbgbkhaaGreatX1
import Derived.Test.YtjlpnhpfbgbkhaaGreatK9
import Derived.Test.YtjlpnhpfbgbkhaaGreatX2
import Derived.Test.YtjlpnhpfbgbkhaaGreatK10
set_option linter.unusedVariables false
set_option linter.unusedSimpArgs false
set_option linter.unnecessarySimpa false
set_option linter.unusedSectionVars false
set_option maxRecDepth 100000
namespace Go.aT
section
open Go.RowKit Go.Proofs
theorem JQ {B:St→ah (Ex×St)} {R:Int→St} {X:St} {id:Nat} {S:Nat→St}:∀ (vs:List Int) (k n:Nat),(∀ j v,vs[j]? =some v→B (S (k+j))=if v=0 then .ok (.norm,S (k+j+1)) else .ok (.ret,R v))→B (S (k+vs.length))= .ok (.exit id,X)→vs.length < n→
 bF B n (S k)=if xk vs=0 then .ok (.exit id,X) else .ok (.ret,R (xk vs))
 | [],k,n,h,hx,hn=>by
  obtain⟨n,rfl⟩:∃ m,n=m+1:=⟨n - 1,by omega⟩
  simp only[xk,if_true]
  exact dV hx
 |v::vs,k,n,h,hx,hn=>by
  simp only[List.length_cons] at hn
  obtain⟨n,rfl⟩:∃ m,n=m+1:=⟨n - 1,by omega⟩
  have h0:=h 0 v rfl
  simp only[Nat.add_zero] at h0
  by_cases hv:v=0
  · rw[if_pos hv] at h0
    rw[bf h0,JQ vs (k+1) n (fun j u hu=>by have:=h (j+1) u (by simpa using hu); rw[show k+1+j=k+(j+1) by omega]; exact this) (by rw[show k+1+vs.length=k+(v::vs).length by simp; omega]; exact hx) (by omega)]
    simp only[xk,hv,if_true]
  · rw[if_neg hv] at h0
    rw[dR h0]
    simp only[xk,hv,if_false]
theorem OX {α:Type}:∀ (l:List (List α)) (r:List α),l.foldl (fun r a=>r++a) r=r++l.flatten
 | [],r=>by simp
 |a::l,r=>by rw[List.foldl_cons,OX l]; simp
theorem OY:∀ (l:List (List Int)) (n:Nat),l.foldl (fun n a=>n+a.length) n=n+l.flatten.length
 | [],n=>by simp
 |a::l,n=>by rw[List.foldl_cons,OY l]; simp; omega
theorem Bc {α:Type} {l:List (List α)} {j:Nat} {a:List α} (h:l[j]? =some a):(l.take j).flatten.length+a.length≤l.flatten.length:=by
 have h1:=(List.getElem?_eq_some_iff.1 h)
 have:l.flatten.length=(l.take (j+1)).flatten.length+(l.drop (j+1)).flatten.length:=by
  rw[←List.length_append,←List.flatten_append,List.take_append_drop]
 rw[this,List.take_succ_eq_append_getElem h1.1,List.flatten_append,List.length_append,h1.2]
 simp
theorem Gy {α:Type} {l:List (List α)} {j:Nat} {a:List α} (h:l[j]? =some a):(l.take (j+1)).flatten=(l.take j).flatten++a:=by
 have h1:=(List.getElem?_eq_some_iff.1 h)
 rw[List.take_succ_eq_append_getElem h1.1,List.flatten_append,h1.2]
 simp
variable [Lv]
theorem yc {M:Nat} {a b:Int} (hM:1≤M) (ha:aV a=true) (hb:aV b=true):ak env (M+1) 96 [i64 a,i64 b]= .ok (i64 (dw a b)):=by
 obtain⟨m,rfl⟩:=dJ hM
 have nn:∀ {a:Int},aV a=true→ak env (m+1) 132 [i64 a]= .ok (.bool false):=fun {a} h=>by rw[arN,aX (gJ (aZ h)),bne_self_eq_false]
 rw[q96,aX (dM (aZ ha) (aZ hb)),aH (nn ha),aH (nn hb)]
 simp only[jW,cond_false]
 unfold dw
 by_cases h:a < b
 · rw[decide_eq_true h,if_pos h]; rfl
 · rw[decide_eq_false h,if_neg h]
   by_cases h2:b < a
   · rw[decide_eq_true (show a > b from h2),if_pos h2]; rfl
   · rw[decide_eq_false (show ¬ a > b from h2),if_neg h2]; rfl
theorem alE (a b:Int):aV (dw a b)=true:=by
 unfold dw
 split
 · rfl
 · split<;>rfl
theorem amq {M:Nat} {l m:List Int} (hM:big+2≤M) (hl:cO okI l) (hm:cO okI m):ak env (M+1) 97 [.sl 1 (ints l),.sl 1 (ints m)]= .ok (i64 (cmpL l m)):=by
 rw[q97,aX (dM (qK hl) (qK hm))]
 have hbl:=hl.1
 have hbm:=hm.1
 have main:∀ (r:List Int) (i n:Nat),l.drop i=r→i≤l.length→r.length < n→
  (bF (aF env M 97 0 2) n (sCm l m i)).bind (fun p=>aP env M 97 0 2 (aW env 97) p.1 p.2)=rI (cmpL r (m.drop i)):=by
  intro r
  induction r with
  |nil=>
   intro i n hd hi hn
   obtain⟨n,rfl⟩:∃ m,n=m+1:=⟨n - 1,by omega⟩
   have hil:i=l.length:=by have:=congrArg List.length hd; simp at this; omega
   subst hil
   have hb:aF env M 97 0 2 (sCm l m (l.length:Int))= .ok (.exit 0,⟨slots 36 [(0,.t (.sl 1 (ints l))),(1,.t (.sl 1 (ints m)))],[]⟩):=by
    rw[aj0,decide_eq_false (by omega)]; rfl
   rw[dV hb]
   refine(Xj M l m).trans ?_
   rw[bg,bg,List.length_map,List.length_map]
   by_cases h:l.length < m.length
   · rw[decide_eq_true (by omega)]
     cases hdm:m.drop l.length with
     |nil=>have:=congrArg List.length hdm; simp at this; omega
     |cons=>rfl
   · rw[decide_eq_false (by omega),List.drop_eq_nil_of_le (by omega)]; rfl
  |cons x r ih=>
   intro i n hd hi hn
   simp only[List.length_cons] at hn
   obtain⟨n,rfl⟩:∃ m,n=m+1:=⟨n - 1,by omega⟩
   have hil:i < l.length:=by have:=congrArg List.length hd; simp at this; omega
   have hx:l[i]? =some x:=by have:=congrArg (fun z=>z[0]?) hd; simpa using this
   have hd':l.drop (i+1)=r:=by rw[←List.drop_drop,hd]; rfl
   have hb:=aj0 M l m i
   rw[decide_eq_true (by omega)] at hb
   simp only[cond_true] at hb
   rw[aA (iV hx),bg,List.length_map] at hb
   by_cases him:i < m.length
   case neg=>
    rw[decide_eq_true (by omega)] at hb
    rw[List.drop_eq_nil_of_le (show m.length≤i by omega),dR hb]
    exact Qe M 1
   have hy:m[i]? =some m[i]:=List.getElem?_eq_getElem him
   rw[decide_eq_false (by omega)] at hb
   simp only[cond_false] at hb
   rw[←bg,aA (iV hy)] at hb
   obtain⟨m',rfl⟩:=dJ (show 1≤M by omega)
   rw[aH (yc (by omega) (hl.2 x (List.mem_of_getElem? hx)) (hm.2 _ (List.mem_of_getElem? hy)))] at hb
   simp only[dI] at hb
   rw[show m.drop i=m[i]::m.drop (i+1) from List.drop_eq_getElem_cons him]
   simp only[cmpL]
   by_cases hc:x=m[i]
   · rw[kR.2 hc,show((0:Int) !=0)=false from rfl,wrap_succ (show i≤big by omega)] at hb
     rw[if_pos hc,bf hb]
     exact ih (i+1) n hd' (by omega) (by omega)
   · rw[bne_iff_ne.2 (fun h=>hc (kR.1 h))] at hb
     rw[if_neg hc,dR hb]
     exact Qe (m'+1) (dw x m[i])
 have:=main l 0 M rfl (Nat.zero_le _) (by omega)
 rw[List.drop_zero] at this
 rw[show((ints l).length:Int)=(l.length:Int) by rw[bg,List.length_map]]
 exact this
theorem ani {a b:Rt} (ha:a.ok) (hb:b.ok):T.wfs [xE a b]=true:=by
 have h1:=ha.wf; have h2:=hb.wf
 simp only[Rt.t,T.wf,T.wfs,Bool.and_true,Bool.and_eq_true] at h1 h2
 simp[xE,T.wf,T.wfs,h1,h2]
def sRc (a b:Rt) (i:Nat):St:=⟨slots 38 [(26,.own 0),(27,.t (i64 7)),(28,.t (i64 i))],[.row 97 1 (MX a b)]⟩
set_option maxHeartbeats 4000000 in
theorem aeG {M:Nat} {a b:Rt} (hM:big+4≤M) (ha:a.ok) (hb:b.ok):ak env (M+1) 30 [a.t,b.t]= .ok (i64 (jy a b)):=by
 obtain⟨m,rfl⟩:=dJ (show 1≤M by omega)
 have hw:=ani ha hb
 have ni:∀ n:Nat,n≤big→aV (n:Int)=true:=fun n hn=>iH.2 (by have:=aU; omega)
 have la:=rF ha.p
 have lb:=rF hb.p
 have m1:ak env (m+1) 63 [xE a b]= .ok (i64 (dw b.n a.n)):=by
  obtain⟨m,rfl⟩:=dJ (show 1≤m by omega)
  rw[q63,aX hw,aH (yc (by omega) hb.n ha.n)]
 have m2:ak env (m+1) 64 [xE a b]= .ok (i64 (dw a.p.s.length b.p.s.length)):=by
  obtain⟨m,rfl⟩:=dJ (show 1≤m by omega)
  rw[q64,aX hw,bg,bg,List.length_map,List.length_map,aH (yc (by omega) (ni _ la.1) (ni _ lb.1))]
 have m3:ak env (m+1) 65 [xE a b]= .ok (i64 (dw a.p.o b.p.o)):=by
  obtain⟨m,rfl⟩:=dJ (show 1≤m by omega)
  rw[q65,aX hw,aH (yc (by omega) ha.p.o hb.p.o)]
 have m4:ak env (m+1) 66 [xE a b]= .ok (i64 (cmpL a.p.s b.p.s)):=by
  obtain⟨m,rfl⟩:=dJ (show 1≤m by omega)
  rw[q66,aX hw,aH (amq (by omega) la lb)]
 have m5:ak env (m+1) 67 [xE a b]= .ok (i64 (dw a.p.h b.p.h)):=by
  obtain⟨m,rfl⟩:=dJ (show 1≤m by omega)
  rw[q67,aX hw,aH (yc (by omega) ha.p.h hb.p.h)]
 have m6:ak env (m+1) 68 [xE a b]= .ok (i64 (dw a.p.c b.p.c)):=by
  obtain⟨m,rfl⟩:=dJ (show 1≤m by omega)
  rw[q68,aX hw,aH (yc (by omega) ha.p.c hb.p.c)]
 have m7:ak env (m+1) 69 [xE a b]= .ok (i64 (dw a.f b.f)):=by
  obtain⟨m,rfl⟩:=dJ (show 1≤m by omega)
  rw[q69,aX hw,aH (yc (by omega) ha.f hb.f)]
 have rnd:∀ {f:FuncId} {ts:List T} {v:Int} {S:St},ak env (m+1) f ts= .ok (i64 v)→
  (cl (m+1) f ts fun r=>iT .i64 r fun a=>bif a !=0 then(.ok (.ret,⟨slots 38 [(4,.t r)],[]⟩):ah (Ex×St)) else .ok (.norm,S))=if v=0 then .ok (.norm,S) else .ok (.ret,⟨slots 38 [(4,.t (i64 v))],[]⟩):=fun {f ts v S} h=>by
  rw[aH h]
  simp only[dI]
  by_cases hv:v=0
  · rw[if_pos hv,hv]; rfl
  · rw[if_neg hv,bne_iff_ne.2 hv]; rfl
 rw[q30,aX (dM ha.wf hb.wf)]
 refine Eq.trans (show _=bC env (m+1) 30 3 (sRc a b 0) from rfl) ?_
 have it:=JQ (B:=aF env (m+1) 30 0 3) (R:=fun v=>⟨slots 38 [(4,.t (i64 v))],[]⟩) (X:=⟨slots 38 [],[]⟩) (id:=0) (S:=sRc a b)
  [dw b.n a.n,dw a.p.s.length b.p.s.length,dw a.p.o b.p.o,cmpL a.p.s b.p.s,dw a.p.h b.p.h,dw a.p.c b.p.c,dw a.f b.f] 0 (m+1) (fun j v hj=>?_) (ahz (m+1) a b) (show 7 < m+1 by have:=aU; omega)
 · unfold jy
   generalize xk [dw b.n a.n,dw a.p.s.length b.p.s.length,dw a.p.o b.p.o,cmpL a.p.s b.p.s,dw a.p.h b.p.h,dw a.p.c b.p.c,dw a.f b.f]=v at it ⊢
   by_cases hv:v=0
   · rw[if_pos hv] at it
     rw[hv]
     exact(aQ it).trans (WE (m+1))
   · rw[if_neg hv] at it
     exact(aQ it).trans (acZ (m+1) v)
 · have hj7:j < 7:=(List.getElem?_eq_some_iff.1 hj).1
   rw[Nat.zero_add]
   have hc:j=0∨j=1∨j=2∨j=3∨j=4∨j=5∨j=6:=by omega
   clear hj7
   rcases hc with rfl|rfl|rfl|rfl|rfl|rfl|rfl
   all_goals simp only[List.getElem?_cons_zero,List.getElem?_cons_succ,Option.some.injEq] at hj; subst hj
   · exact(aoO (m+1) a b).trans (rnd (S:=sRc a b 1) m1)
   · exact(aht (m+1) a b).trans (rnd (S:=sRc a b 2) m2)
   · exact(ahu (m+1) a b).trans (rnd (S:=sRc a b 3) m3)
   · exact(ahv (m+1) a b).trans (rnd (S:=sRc a b 4) m4)
   · exact(ahw (m+1) a b).trans (rnd (S:=sRc a b 5) m5)
   · exact(ahx (m+1) a b).trans (rnd (S:=sRc a b 6) m6)
   · exact(ahy (m+1) a b).trans (rnd (S:=sRc a b 7) m7)
theorem QK {h:Int} (hh:aV h=true):(yA h).ok:=⟨rfl,⟨rfl,Nat.zero_le _,fun _ h=>(by cases h),hh,rfl⟩,rfl⟩
theorem aeF {M:Nat} {n:Int} (h:aV n=true):ak env (M+1) 28 [i64 n]= .ok (yA n).t:=by
 rw[q28,aX (gJ (aZ h))]; rfl
theorem aeE {M:Nat} {a b:Rt} (hM:big+5≤M) (ha:a.ok) (hb:b.ok):ak env (M+1) 27 [a.t,b.t]= .ok (.bool (jy a b==0)):=by
 obtain⟨m,rfl⟩:=dJ (show 1≤M by omega)
 rw[q27,aX (dM ha.wf hb.wf),nG (aeG (by omega) ha hb)]
theorem ahO {M:Nat} {r:Rt} (hM:big+6≤M) (h:r.ok):ak env (M+1) 114 [r.t]= .ok (.bool (oh r)):=by
 obtain⟨m,rfl⟩:=dJ (show 1≤M by omega)
 have ho:=aeF (M:=m) h.p.h
 rw[arD,aX (gJ h.wf),bJ (Qx (by omega) h.p)]
 unfold oh
 cases gY r.p with
 |false=>rfl
 |true=>
 have hl:((ints r.p.s).length:Int)=(r.p.s.length:Int):=by rw[bg,List.length_map]
 rw[hl]
 by_cases h1:r.p.s.length≤32
 case neg=>rw[decide_eq_true (show(r.p.s.length:Int) > 32 by omega),decide_eq_false h1]; rfl
 rw[decide_eq_false (show ¬ (r.p.s.length:Int) > 32 by omega),decide_eq_true h1]
 simp only[Bool.not_true,cond_false,Bool.true_and]
 by_cases h2:r.f= -1
 · rw[beq_iff_eq.2 h2,if_pos h2]
   simp only[cond_true]
   rw[aH ho,aH (aeE (by omega) h (QK h.p.h))]
 · rw[beq_eq_false_iff_ne.2 h2,if_neg h2]
   simp only[cond_false,jE]
theorem ahQ {M:Nat} {a b c:Int} (hM:1≤M) (ha:aV a=true) (hb:aV b=true) (hc:aV c=true):ak env (M+1) 120 [i64 a,i64 b,i64 c]= .ok (.au [i64 ((kL a b c).getD 0),.bool (kL a b c).isSome]):=by
 obtain⟨m,rfl⟩:=dJ hM
 have ho:=aao (M:=m) hc hb
 rw[arG,aX (yG (aZ ha) (aZ hb) (aZ hc))]
 unfold kL
 by_cases h1:a=1
 · rw[beq_iff_eq.2 h1,if_pos h1]; simp only[cond_true]; rw[aH ho]; rfl
 rw[beq_eq_false_iff_ne.2 h1,if_neg h1]; simp only[cond_false]
 by_cases h2:a=2
 · rw[beq_iff_eq.2 h2,if_pos h2]; simp only[cond_true]
   by_cases he:c=0
   · rw[beq_iff_eq.2 he,if_pos he]; simp only[cond_true]; rw[aH ho]; rfl
   · rw[beq_eq_false_iff_ne.2 he,if_neg he,beq_eq_false_iff_ne.2 (show a≠3 by omega)]; rfl
 rw[beq_eq_false_iff_ne.2 h2,if_neg h2]; simp only[cond_false]
 by_cases h3:a=3
 · rw[beq_iff_eq.2 h3,if_pos h3]; simp only[cond_true]
   by_cases he:c=0
   · rw[beq_iff_eq.2 he,if_pos he]; rfl
   · rw[beq_eq_false_iff_ne.2 he,if_neg he]; rfl
 · rw[beq_eq_false_iff_ne.2 h3,if_neg h3]; rfl
theorem ahR {M:Nat} {l:List (List Int)} (hM:l.length+2≤M) (hl:cO (cO okI) l) (hs:l.flatten.length*8≤big):ak env (M+1) 122 [.sl 1 (l.map fun a=> .sl 1 (ints a))]= .ok (.sl 1 (ints l.flatten)):=by
 have hb:=aU
 have h1:=hl.1
 have hw:(T.sl 1 (l.map fun a=>T.sl 1 (ints a))).wf=true:=dD (f:=fun a=>T.sl 1 (ints a)) (p:=cO okI) (fun x hx=>qK hx) hl
 rw[arH,aX (gJ hw)]
 have i1:=lT (B:=aF env M 122 0 3) (S:=fun(n:Nat) i=>sCc l n i) (X:=fun n=>⟨slots 36 [(0,PV.t (T.sl 1 (List.map (fun a=>T.sl 1 (ints a)) l))),(3,PV.t (i64 n))],[]⟩) (id:=0)
  (fun n j=>n=(l.take j).flatten.length) (fun n (a:List Int)=>n+a.length) l (n:=M) 0 (by omega) (fun n j a hj hI=>by
   have hjl:=(List.getElem?_eq_some_iff.1 hj).1
   have hf:=Bc hj
   rw[←hI] at hf
   refine⟨?_,?_⟩
   · show aF env M 122 0 3 (sCc l n j)=_
     rw[ad8,decide_eq_true (by omega)]
     simp only[cond_true]
     rw[aA (aC (f:=fun a=>T.sl 1 (ints a)) hj)]
     have e:iO (T.sl 1 (ints a))=fun(K:Int→ah (Ex×St))=>K (a.length:Int):=by funext K; show K ((ints a).length:Int)=_; rw[bg,List.length_map]
     rw[e]
     simp only[]
     rw[show((n:Int)+(a.length:Int))=((n+a.length:Nat):Int) by omega,EC (by omega),decide_eq_false (by omega),wrap_succ (show j≤big by omega)]
     rfl
   · rw[Gy hj,List.length_append,hI]) (fun n hI=>by
   show aF env M 122 0 3 (sCc l n l.length)=_
   rw[ad8,decide_eq_false (by omega)]; rfl) rfl
 have e1:=i1.1
 rw[OY,Nat.zero_add] at e1
 rw[show((List.map (fun a=>T.sl 1 (ints a)) l).length:Int)=(l.length:Int) by rw[List.length_map]]
 refine(aQ e1).trans ?_
 refine(Sr M l _).trans ?_
 rw[decide_eq_true (show(0:Int)≤(l.flatten.length:Int) by omega),decide_eq_true (show(0+(l.flatten.length:Int).toNat)*8≤140737488355328 by rw[Int.toNat_natCast]; omega)]
 simp only[Bool.and_self,cond_true,ah.bind_ok]
 have i2:=lT (B:=aF env M 122 0 11) (S:=fun(r:List Int) i=>agT l r i) (X:=fun r=>⟨slots 36 [(6,.own 0)],[.row 3 1 (ints r)]⟩) (id:=2)
  (fun r j=>r=(l.take j).flatten) (fun r (a:List Int)=>r++a) l (n:=M) [] (by omega) (fun r j a hj hI=>by
   have hjl:=(List.getElem?_eq_some_iff.1 hj).1
   have hf:=Bc hj
   rw[←hI] at hf
   refine⟨?_,?_⟩
   · show aF env M 122 0 11 (agT l r j)=_
     rw[Z5,decide_eq_true (by omega)]
     simp only[cond_true]
     rw[aA (aC (f:=fun a=>T.sl 1 (ints a)) hj)]
     have e:∀ K:List T→ah (Ex×St),qW 1 (T.sl 1 (ints a)) K=K (ints a):=fun K=>rfl
     simp only[e]
     rw[wrap_succ (show j≤big by omega),decide_eq_true (show((ints r).length+(ints a).length)*8≤140737488355328 by rw[bg,bg,List.length_map,List.length_map]; omega),aN]
     rw[show ints r++ints a=ints (r++a) by rw[bg,bg,bg,List.map_append]]
     rfl
   · rw[Gy hj,hI]) (fun r hI=>by
   show aF env M 122 0 11 (agT l r l.length)=_
   rw[Z5,decide_eq_false (by omega)]; rfl) rfl
 have e2:=i2.1
 rw[OX,List.nil_append] at e2
 rw[show((List.map (fun a=>T.sl 1 (ints a)) l).length:Int)=(l.length:Int) by rw[List.length_map]]
 refine(aQ e2).trans ?_
 exact Ob M l _
end
section
open Go.RowKit Go.Proofs
def OE (e:En):Bool:= !dB e.x|| !gY e.p
def orP (u v:Int):Int:=bif u !=0 then u else v
def kE (x y:Px):Int:=orP (dw x.a y.a) (dw x.n y.n)
def NJ (l:List En) (i:Nat):Bool:=match l[i - 1]?,l[i]? with|some a,some b=>decide (kE a.x b.x≥0)|_,_=>false
def uH (l:List En):Bool:=(dF (NJ l) 1 (l.length - 1)).isNone
def sG (l:List En):Bool:= !(l.any OE)&&uH l
def known (l:List En):List En:=bif sG l then l else[]
theorem lU {l:List En} {e:En} (h:e∈known l):e∈l:=by
 unfold known at h; cases ht:sG l<;>simp[ht] at h; exact h
theorem Gh (l:List En):(known l).length≤l.length:=by
 unfold known; cases sG l<;>simp
def QY (c:Nat→Bool):Nat→Nat→Nat→Nat
 |0,i,_=>i
 |k+1,i,j=>bif decide (i < j) then(bif c ((i+j) / 2) then QY c k ((i+j) / 2+1) j else QY c k i ((i+j) / 2)) else i
def XK (l:List En) (x:Px) (i:Nat):Bool:=match l[i]? with|some e=>decide (kE e.x x < 0)|none=>false
def fM (l:List En) (x:Px):Nat:=QY (XK l x) l.length 0 l.length
def lZ (l:List En) (x:Px):Bool:=match l[fM l x]? with|some e=>kE e.x x==0|none=>false
theorem GH {l:List En} {x:Px} (h:lZ l x=true):fM l x < l.length:=by
 unfold lZ at h
 cases hx:l[fM l x]? with
 |none=>simp[hx] at h
 |some e=>exact(List.getElem?_eq_some_iff.1 hx).1
theorem agC {i j:Nat} (hi:i≤big) (hj:j≤big):IntKind.i64.wrap (Int.fdiv (IntKind.u64.wrap (IntKind.i64.wrap ((i:Int)+(j:Int)))) 2)=(((i+j) / 2:Nat):Int):=by
 have hb:=aU
 have h0:IntKind.i64.wrap ((i:Int)+(j:Int))=(i:Int)+(j:Int):=wrap64 (by omega)
 have h1:IntKind.u64.wrap ((i:Int)+(j:Int))=((i+j:Nat):Int):=by rw[IntKind.wrap_u64]; omega
 have h2:Int.fdiv ((i+j:Nat):Int) 2=(((i+j) / 2:Nat):Int):=by
  rw[Int.fdiv_eq_ediv_of_nonneg _ (by omega)]; omega
 rw[h0,h1,h2,wrap64 (by omega)]
def qQ (l:List En) (x:Px):List En:=bif lZ l x then l.take (fM l x)++l.drop (fM l x+1) else l
def newE (p:Pa) (l:List En) (x:Px):List En:=bif dB x&&gY p then(bif lZ l x then l.set (fM l x) ⟨x,p⟩ else l.take (fM l x)++ [⟨x,p⟩]++l.drop (fM l x)) else l
def xY (t:List En) (n:Nw):List En:=n.m.foldl (newE n.p) (n.g.foldl qQ (known t))
def auH (l:List En) (i:Nat):Bool:=match l[i]? with|some e=>decide ((e.p.s.length:Int) > 100)|none=>false
def aqB (l:List En):Bool:= !(l.any fun e=>decide ((e.p.s.length:Int) > 100))&&decide ((l.length:Int)≤40)
def aw1 (n:Nw):Bool:=decide ((n.g.length:Int)≤40)&&(decide ((n.m.length:Int)≤40)&&decide ((n.p.s.length:Int)≤300))
def Ba (x y:Px):Bool:=(x.a==y.a)&&((x.n==y.n)&&true)
theorem Px.ext' {x y:Px} (h:x.a=y.a) (h2:x.n=y.n):x=y:=by cases x; cases y; simp_all
theorem Pa.ext' {p q:Pa} (h:p.o=q.o) (h2:p.s=q.s) (h3:p.h=q.h) (h4:p.c=q.c):p=q:=by cases p; cases q; simp_all
theorem En.ext' {p q:En} (h:p.x=q.x) (h2:p.p=q.p):p=q:=by cases p; cases q; simp_all
def vO (x y:Px):Prop:=x.a < y.a∨(x.a=y.a∧x.n < y.n)
theorem gG (x:Px):¬ vO x x:=fun h=>by rcases h with h|⟨_,h⟩<;>omega
theorem yw {x y z:Px} (h:vO x y) (h2:vO y z):vO x z:=by
 unfold vO at*; omega
theorem Gj {x y:Px} (h:vO x y):¬ vO y x:=by unfold vO at*; omega
theorem KG (a b:Int):(a < b∧dw a b= -1)∨(a > b∧dw a b=1)∨(a=b∧dw a b=0):=by
 unfold dw
 split
 · exact .inl ⟨by assumption,rfl⟩
 · split
   · exact .inr (.inl ⟨by assumption,rfl⟩)
   · exact .inr (.inr ⟨by omega,rfl⟩)
theorem rW (x y:Px):(vO x y∧kE x y= -1)∨(vO y x∧kE x y=1)∨(x=y∧kE x y=0):=by
 unfold kE orP
 rcases KG x.a y.a with ⟨h,e⟩|⟨h,e⟩|⟨h,e⟩
 · exact .inl ⟨.inl h,by rw[e]; rfl⟩
 · exact .inr (.inl ⟨.inl h,by rw[e]; rfl⟩)
 · rw[e]
   rcases KG x.n y.n with ⟨h',e'⟩|⟨h',e'⟩|⟨h',e'⟩
   · exact .inl ⟨.inr ⟨h,h'⟩,by rw[e']; rfl⟩
   · exact .inr (.inl ⟨.inr ⟨h.symm,h'⟩,by rw[e']; rfl⟩)
   · exact .inr (.inr ⟨Px.ext' h h',by rw[e']; rfl⟩)
theorem rC {x y:Px}:kE x y < 0↔vO x y:=by
 rcases rW x y with ⟨h,e⟩|⟨h,e⟩|⟨h,e⟩
 · exact⟨fun _=>h,fun _=>by omega⟩
 · exact⟨fun _=>by omega,fun h2=>absurd h2 (Gj h)⟩
 · exact⟨fun _=>by omega,fun h2=>absurd (h ▸ h2) (gG _)⟩
theorem Qo {x y:Px}:kE x y≥0↔ ¬ vO x y:=by rw[←rC]; omega
theorem aag {x y:Px}:(kE x y==0)=true↔x=y:=by
 rw[beq_iff_eq]
 rcases rW x y with ⟨h,e⟩|⟨h,e⟩|⟨h,e⟩
 · exact⟨fun _=>by omega,fun h2=>absurd (h2 ▸ h) (gG _)⟩
 · exact⟨fun _=>by omega,fun h2=>absurd (h2 ▸ h) (gG _)⟩
 · exact⟨fun _=>h,fun _=>e⟩
def mg (l:List En):Prop:=l.Pairwise fun a b=>vO a.x b.x
theorem xU {l:List En}:uH l=true↔mg l:=by
 unfold uH
 constructor
 · intro h
   have h':dF (NJ l) 1 (l.length - 1)=none:=by simpa using h
   have hs:=gI h'
   unfold mg
   rw[List.pairwise_iff_getElem]
   have key:∀ (d i:Nat) (hi:i+d+1 < l.length),vO l[i].x l[i+d+1].x:=by
    intro d
    induction d with
    |zero=>
     intro i hi
     have:=hs (i+1) (by omega) (by omega)
     have g1:l[i+1 - 1]? =some l[i]:=by rw[show i+1 - 1=i by omega]; exact List.getElem?_eq_getElem (by omega)
     have g2:l[i+1]? =some l[i+1]:=List.getElem?_eq_getElem (by omega)
     simp only[NJ,g1,g2,decide_eq_false_iff_not] at this
     rw[Qo,Classical.not_not] at this
     exact this
    |succ d ih=>
     intro i hi
     have h1:=ih i (by omega)
     have h2:=ih (i+1) (by omega)
     have h3:=hs (i+d+1+1) (by omega) (by omega)
     have g1:l[i+d+1+1 - 1]? =some l[i+d+1]:=by rw[show i+d+1+1 - 1=i+d+1 by omega]; exact List.getElem?_eq_getElem (by omega)
     have g2:l[i+d+1+1]? =some l[i+d+1+1]:=List.getElem?_eq_getElem (by omega)
     simp only[NJ,g1,g2,decide_eq_false_iff_not] at h3
     rw[Qo,Classical.not_not] at h3
     exact yw h1 h3
   intro i j hi hj hij
   have:=key (j - i - 1) i (by omega)
   simpa only[show i+(j - i - 1)+1=j by omega] using this
 · intro h
   cases hk:dF (NJ l) 1 (l.length - 1) with
   |none=>rfl
   |some j=>
    obtain⟨a,b,c⟩:=iK hk
    have g1:l[j - 1]? =some l[j - 1]:=List.getElem?_eq_getElem (by omega)
    have g2:l[j]? =some l[j]:=List.getElem?_eq_getElem (by omega)
    simp only[NJ,g1,g2,decide_eq_true_eq] at c
    rw[Qo] at c
    exact absurd (List.pairwise_iff_getElem.1 h (j - 1) j (by omega) (by omega) (by omega)) c
theorem Um {e:En}:OE e=false↔dB e.x=true∧gY e.p=true:=by
 unfold OE; cases dB e.x<;>cases gY e.p<;>simp
theorem yF {l:List En}:sG l=true↔mg l∧∀ e∈l,dB e.x=true∧gY e.p=true:=by
 unfold sG
 rw[Bool.and_eq_true,xU,Bool.not_eq_true',List.any_eq_false]
 constructor
 · rintro⟨a,b⟩
   exact⟨b,fun e he=>Um.1 (by simpa using a e he)⟩
 · rintro⟨a,b⟩
   exact⟨fun e he=>by simp[Um.2 (b e he)],a⟩
theorem vT (l:List En):mg (known l):=by
 unfold known
 cases h:sG l with
 |true=>exact(yF.1 h).1
 |false=>exact List.Pairwise.nil
theorem agc {l:List En} (h:mg l):∀ {e e':En},e∈l→e'∈l→e.x=e'.x→e=e':=by
 induction l with
 |nil=>intro e e' h; cases h
 |cons a l ih=>
  obtain⟨ha,hl⟩:=List.pairwise_cons.1 h
  intro e e' h1 h2 hx
  rcases List.mem_cons.1 h1 with e1|e1<;>rcases List.mem_cons.1 h2 with e2|e2
  · rw[e1,e2]
  · subst e1; exact absurd (hx ▸ ha _ e2) (gG _)
  · subst e2; exact absurd (hx ▸ ha _ e1) (gG _)
  · exact ih hl e1 e2 hx
theorem FY (c:Nat→Bool) (hc:∀ i j,i≤j→c j=true→c i=true):∀ (k i j:Nat),j - i≤k→i≤j→(∀ a,a < i→c a=true)→(∀ a,j≤a→c a=false)→(∀ a,a < QY c k i j→c a=true)∧∀ a,QY c k i j≤a→c a=false
 |0,i,j,h,hij,h1,h2=>⟨h1,fun a ha=>h2 a (by simp only[QY] at ha; omega)⟩
 |k+1,i,j,h,hij,h1,h2=>by
  unfold QY
  rcases Nat.lt_or_ge i j with h3|h3
  · rw[decide_eq_true h3,cond_true]
    cases hm:c ((i+j) / 2) with
    |true=>exact FY c hc k _ j (by omega) (by omega) (fun a ha=>hc a _ (by omega) hm) h2
    |false=>
     refine FY c hc k i _ (by omega) (by omega) h1 fun a ha=>?_
     cases hca:c a with
     |false=>rfl
     |true=>rw[hc _ _ ha hca] at hm; cases hm
  · rw[decide_eq_false (by omega),cond_false]
    exact⟨h1,fun a ha=>h2 a (by omega)⟩
theorem HY {l:List En} (h:mg l) (x:Px):(∀ a,a < fM l x→XK l x a=true)∧∀ a,fM l x≤a→XK l x a=false:=by
 refine FY _ (fun i j hij hj=>?_) _ _ _ (by omega) (by omega) (fun a ha=>by omega) fun a ha=>by simp[XK,List.getElem?_eq_none ha]
 unfold XK at hj ⊢
 cases hx:l[j]? with
 |none=>simp[hx] at hj
 |some e=>
  obtain⟨hlt,he⟩:=List.getElem?_eq_some_iff.1 hx
  have g:l[i]? =some l[i]:=List.getElem?_eq_getElem (by omega)
  simp only[hx,decide_eq_true_eq,rC] at hj
  simp only[g,decide_eq_true_eq,rC]
  rcases Nat.lt_or_ge i j with h1|h1
  · exact yw (List.pairwise_iff_getElem.1 h i j (by omega) hlt h1) (he ▸ hj)
  · have:i=j:=by omega
    subst this; exact he ▸ hj
theorem aa5 {l:List En} (h:mg l) (x:Px):∀ e∈l.take (fM l x),vO e.x x:=fun e he=>by
 obtain⟨i,hi⟩:=List.getElem?_of_mem he
 have hlt:=(List.getElem?_eq_some_iff.1 hi).1
 rw[List.length_take] at hlt
 rw[List.getElem?_take_of_lt (by omega)] at hi
 have:=(HY h x).1 i (by omega)
 simp only[XK,hi,decide_eq_true_eq,rC] at this
 exact this
theorem aah {l:List En} (h:mg l) (x:Px):∀ e∈l.drop (fM l x),¬ vO e.x x:=fun e he=>by
 obtain⟨i,hi⟩:=List.getElem?_of_mem he
 rw[List.getElem?_drop] at hi
 have:=(HY h x).2 (fM l x+i) (by omega)
 simp only[XK,hi,decide_eq_false_iff_not,rC] at this
 exact this
theorem uf {l:List En} {x:Px} (h:lZ l x=true):∃ p,l=l.take (fM l x)++⟨x,p⟩::l.drop (fM l x+1):=by
 have hlt:=GH h
 unfold lZ at h
 have g:l[fM l x]? =some l[fM l x]:=List.getElem?_eq_getElem hlt
 simp only[g,aag] at h
 refine⟨l[fM l x].p,?_⟩
 rw[show(⟨x,l[fM l x].p⟩:En)=l[fM l x] from En.ext' h.symm rfl,List.getElem_cons_drop,List.take_append_drop]
theorem ado {l:List En} (hr:mg l) {x:Px}:lZ l x=true↔∃ e∈l,e.x=x:=by
 constructor
 · intro h
   obtain⟨p,hp⟩:=uf h
   exact⟨⟨x,p⟩,by rw[hp]; simp,rfl⟩
 · rintro⟨e,he,rfl⟩
   have hs:=List.take_append_drop (fM l e.x) l
   have hd:e∈l.drop (fM l e.x):=by
    rw[←hs] at he
    rcases List.mem_append.1 he with h|h
    · exact absurd (aa5 hr _ _ h) (gG _)
    · exact h
   cases hdr:l.drop (fM l e.x) with
   |nil=>rw[hdr] at hd; cases hd
   |cons f r=>
    have g:l[fM l e.x]? =some f:=by
     have:=List.getElem?_drop (xs:=l) (i:=fM l e.x) (j:=0)
     rw[hdr] at this; simpa using this.symm
    unfold lZ
    simp only[g,aag]
    rw[hdr] at hd
    rcases List.mem_cons.1 hd with rfl|hd
    · rfl
    · have hrd:mg (f::r):=by rw[←hdr]; exact List.Pairwise.sublist (List.drop_sublist _ _) hr
      have:=(List.pairwise_cons.1 hrd).1 _ hd
      exact absurd this (aah hr _ f (by rw[hdr]; exact List.mem_cons_self))
theorem Bh {l:List En} (hr:mg l) {x:Px} (h:lZ l x=false):∀ e∈l,e.x≠x:=fun e he hx=>by
 rw[ado hr |>.2 ⟨e,he,hx⟩] at h; cases h
def Told (p:Pa) (m:List Px) (x:Px):Prop:=x∈m∧dB x=true∧gY p=true
theorem vF {x y:Px}:Ba x y=true↔x=y:=by
 unfold Ba
 constructor
 · intro h
   simp only[Bool.and_eq_true,beq_iff_eq] at h
   exact Px.ext' h.1 h.2.1
 · rintro rfl; simp
def akK (s s':List Int):Bool:=bif (s.length:Int) !=(s'.length:Int) then false else !((s.zip s').any fun p=>p.1 !=p.2)
def akL (p q:Pa):Bool:=bif p.o==q.o then bif p.h==q.h then bif p.c==q.c then akK p.s q.s else false else false else false
def abp (e f:En):Bool:=bif Ba e.x f.x then akL e.p f.p else false
def anN (l l':List En):Bool:=bif (l.length:Int) !=(l'.length:Int) then false else !((l.zip l').any fun p=> !abp p.1 p.2)
def Pa.none:Pa:=⟨0,[],0,0⟩
def pF (l:List En) (x:Px):Option Pa:=((known l).find? fun e=>Ba e.x x).map (·.p)
theorem oW {l:List En} {x:Px} {p:Pa}:pF l x=some p↔(⟨x,p⟩:En)∈known l:=by
 unfold pF
 rw[Option.map_eq_some_iff]
 constructor
 · rintro⟨e,he,rfl⟩
   have h1:=List.find?_some he
   have h2:=List.mem_of_find?_eq_some he
   simp only[vF] at h1
   subst h1
   exact h2
 · intro h
   cases hf:(known l).find? fun e=>Ba e.x x with
   |none=>
    have:=List.find?_eq_none.1 hf _ h
    simp[vF.2 rfl] at this
   |some e=>
    have h1:=List.find?_some hf
    have h2:=List.mem_of_find?_eq_some hf
    simp only[vF] at h1
    exact⟨e,rfl,by rw[agc (vT l) h2 h h1]⟩
theorem get_none {l:List En} {x:Px}:pF l x=none↔∀ e∈known l,e.x≠x:=by
 cases h:pF l x with
 |none=>
  refine⟨fun _ e he hx=>?_,fun _=>rfl⟩
  subst hx
  have:=(oW (l:=l) (x:=e.x) (p:=e.p)).2 he
  rw[h] at this; cases this
 |some p=>exact⟨fun q=>(by cases q),fun q=>absurd rfl (q _ (oW.1 h))⟩
theorem ams {l:List En} {x:Px} (hs:∀ e∈l,e.ok):((pF l x).getD Pa.none).ok:=by
 cases h:pF l x with
 |none=>exact⟨by decide,by simp[Pa.none],by simp[Pa.none],by decide,by decide⟩
 |some p=>exact(hs _ (lU (oW.1 h))).p
end
section
open Go.RowKit Go.Proofs
def gu (c:Cf) (t:List (List En)) (x:Px):List Rt:=if dH c then(if c.w.contains x then[yA c.d] else[])++(List.range (min t.length c.s.length)).filterMap fun(k:Nat)=>(t[k]?).bind fun l=>(pF l x).bind fun p=>wK c (k:Int) x p else[]
def qj (x:Px):List Px→List Px
 | []=>[x]
 |y::l=>if kE x y < 0 then x::y::l else if kE x y=0 then y::l else y::qj x l
def iJ (c:Cf) (t:List (List En)):List Px:=c.w++(t.take c.s.length).flatMap fun l=>l.map En.x
def wX (c:Cf) (t:List (List En)):List Px:=(iJ c t).foldl (fun l x=>qj x l) []
def jZ (c:Cf) (t:List (List En)) (x:Px):Option Ch:=(qw (gu c t x)).map (Ch.mk x)
def iM (c:Cf) (t:List (List En)):List Ch:=(wX c t).filterMap (jZ c t)
def pz (l:List Ch) (x:Px):Option Rt:=(l.find? fun c=>c.x==x).map Ch.r
theorem DU {x y:Px}:∀ {l:List Px},y∈qj x l↔y=x∨y∈l
 | []=>by simp[qj]
 |z::l=>by
  simp only[qj]
  split
  · simp
  · split
    · rename_i h1 h2
      have:x=z:=by
       rcases rW x z with ⟨_,h⟩|⟨_,h⟩|⟨h,_⟩
       · omega
       · omega
       · exact h
      subst this
      simp
    · rw[List.mem_cons,DU,List.mem_cons]
      constructor
      · rintro(h|h|h)
        · exact .inr (.inl h)
        · exact .inl h
        · exact .inr (.inr h)
      · rintro(h|h|h)
        · exact .inr (.inl h)
        · exact .inl h
        · exact .inr (.inr h)
theorem LH {x:Px}:∀ {l:List Px},l.Pairwise vO→(qj x l).Pairwise vO
 | [],_=>by simp[qj]
 |z::l,h=>by
  simp only[qj]
  obtain⟨h1,h2⟩:=List.pairwise_cons.1 h
  split
  · rename_i h3
    have h3:=rC.1 h3
    refine List.pairwise_cons.2 ⟨fun y hy=>?_,h⟩
    rcases List.mem_cons.1 hy with rfl|hy
    · exact h3
    · exact yw h3 (h1 y hy)
  · split
    · exact h
    · rename_i h3 h4
      refine List.pairwise_cons.2 ⟨fun y hy=>?_,LH h2⟩
      rcases DU.1 hy with rfl|hy
      · rcases rW y z with ⟨_,h⟩|⟨h,_⟩|⟨_,h⟩
        · omega
        · exact h
        · omega
      · exact h1 y hy
theorem J6 {y:Px}:∀ (m l:List Px),y∈m.foldl (fun l x=>qj x l) l↔y∈m∨y∈l
 | [],l=>by simp
 |x::m,l=>by
  rw[List.foldl_cons,J6 m,DU,List.mem_cons]
  constructor
  · rintro(h|h|h)
    · exact .inl (.inr h)
    · exact .inl (.inl h)
    · exact .inr h
  · rintro((h|h)|h)
    · exact .inr (.inl h)
    · exact .inl h
    · exact .inr (.inr h)
theorem H7:∀ (m l:List Px),l.Pairwise vO→(m.foldl (fun l x=>qj x l) l).Pairwise vO
 | [],l,h=>h
 |x::m,l,h=>H7 m _ (LH h)
theorem mem_keys {c:Cf} {t:List (List En)} {x:Px}:x∈wX c t↔x∈iJ c t:=by
 unfold wX
 rw[J6]; simp
theorem VO (c:Cf) (t:List (List En)):(wX c t).Pairwise vO:=H7 _ _ List.Pairwise.nil
theorem ku {c:Cf} {t:List (List En)} {x:Px} {e:Ch}:jZ c t x=some e↔e.x=x∧qw (gu c t x)=some e.r:=by
 unfold jZ
 rw[Option.map_eq_some_iff]
 constructor
 · rintro⟨r,h,rfl⟩; exact⟨rfl,h⟩
 · rintro⟨rfl,h⟩; exact⟨e.r,h,rfl⟩
def EF (l:List Ch):Prop:=l.Pairwise fun a b=>vO a.x b.x
theorem su (c:Cf) (t:List (List En)):EF (iM c t):=by
 refine List.Pairwise.filterMap _ (fun a b h a' h1 b' h2=>?_) (VO c t)
 rw[(ku.1 h1).1,(ku.1 h2).1]; exact h
theorem Gu:∀ {l l':List Ch},EF l→EF l'→(∀ e,e∈l↔e∈l')→l=l'
 | [],[],_,_,_=>rfl
 | [],e::l,_,_,h=>absurd ((h e).2 List.mem_cons_self) (by simp)
 |e::l,[],_,_,h=>absurd ((h e).1 List.mem_cons_self) (by simp)
 |e::l,e'::l',h1,h2,h=>by
  obtain⟨a1,a2⟩:=List.pairwise_cons.1 h1
  obtain⟨b1,b2⟩:=List.pairwise_cons.1 h2
  have he:e=e':=by
   rcases List.mem_cons.1 ((h e).1 List.mem_cons_self) with h3|h3
   · exact h3
   · rcases List.mem_cons.1 ((h e').2 List.mem_cons_self) with h4|h4
     · exact h4.symm
     · exact absurd (a1 _ h4) (Gj (b1 _ h3))
  subst he
  rw[Gu a2 b2 fun x=>?_]
  constructor
  · intro hx
    rcases List.mem_cons.1 ((h x).1 (List.mem_cons_of_mem _ hx)) with h3|h3
    · exact absurd (h3 ▸ a1 x hx) (gG _)
    · exact h3
  · intro hx
    rcases List.mem_cons.1 ((h x).2 (List.mem_cons_of_mem _ hx)) with h3|h3
    · exact absurd (h3 ▸ b1 x hx) (gG _)
    · exact h3
theorem rJ {c:Cf} {t:List (List En)} {x:Px} {r:Rt}:r∈gu c t x↔dH c=true∧((x∈c.w∧r=yA c.d)∨∃ (k:Nat) (l:List En) (p:Pa),k < c.s.length∧t[k]? =some l∧pF l x=some p∧wK c k x p=some r):=by
 unfold gu
 cases hc:dH c with
 |false=>simp
 |true=>
  simp only[if_true,true_and,List.mem_append,List.mem_filterMap,List.mem_range]
  constructor
  · rintro(h|⟨k,h1,h2⟩)
    · split at h
      · rename_i h3
        rw[List.mem_singleton] at h
        exact .inl ⟨List.contains_iff_mem.1 h3,h⟩
      · simp at h
    · rw[Option.bind_eq_some_iff] at h2
      obtain⟨l,h2,h3⟩:=h2
      rw[Option.bind_eq_some_iff] at h3
      obtain⟨p,h3,h4⟩:=h3
      exact .inr ⟨k,l,p,by omega,h2,h3,h4⟩
  · rintro(⟨h1,h2⟩|⟨k,l,p,h1,h2,h3,h4⟩)
    · rw[if_pos (List.contains_iff_mem.2 h1)]; exact .inl (by rw[h2]; simp)
    · have:=(List.getElem?_eq_some_iff.1 h2).1
      exact .inr ⟨k,by omega,by rw[h2,Option.bind_some,h3,Option.bind_some,h4]⟩
theorem L9 {c:Cf} {t:List (List En)} {x:Px} {r:Rt} (h:r∈gu c t x):x∈iJ c t:=by
 unfold iJ
 rw[List.mem_append]
 rcases(rJ.1 h).2 with ⟨h,_⟩|⟨k,l,p,h1,h2,h3,h4⟩
 · exact .inl h
 · refine .inr (List.mem_flatMap.2 ⟨l,?_,List.mem_map.2 ⟨⟨x,p⟩,lU (oW.1 h3),rfl⟩⟩)
   exact List.mem_of_getElem? (i:=k) (by rw[List.getElem?_take,if_pos h1]; exact h2)
theorem Am {c:Cf} {t:List (List En)} {e:Ch}:e∈iM c t↔qw (gu c t e.x)=some e.r:=by
 unfold iM
 rw[List.mem_filterMap]
 constructor
 · rintro⟨x,h1,h2⟩
   obtain⟨h3,h4⟩:=ku.1 h2
   subst h3; exact h4
 · intro h
   exact⟨e.x,mem_keys.2 (L9 (mY h).1),ku.2 ⟨rfl,h⟩⟩
theorem KZ {c:Cf} {t:List (List En)} {vis:List Px} {ys:List Ch} (hv:∀ x,x∈vis↔x∈iJ c t) (hn:vis.Nodup) (hp:ys.Perm (vis.filterMap (jZ c t))) (hs:ys.Pairwise fun a b=>¬ kE b.x a.x < 0):ys=iM c t:=by
 have hmem:∀ e,e∈ys↔e∈iM c t:=fun e=>by
  rw[hp.mem_iff,Am,List.mem_filterMap]
  constructor
  · rintro⟨x,h1,h2⟩
    obtain⟨h3,h4⟩:=ku.1 h2
    subst h3; exact h4
  · intro h
    exact⟨e.x,(hv _).2 (L9 (mY h).1),ku.2 ⟨rfl,h⟩⟩
 have hd:(vis.filterMap (jZ c t)).Pairwise fun a b=>a.x≠b.x:=by
  refine List.Pairwise.filterMap _ (fun a b h a' h1 b' h2=>?_) hn
  rw[(ku.1 h1).1,(ku.1 h2).1]; exact h
 have hd2:ys.Pairwise fun a b=>a.x≠b.x:=hp.symm.pairwise hd fun {a b} h=>Ne.symm h
 refine Gu ?_ (su c t) hmem
 refine List.Pairwise.imp₂ (fun a b h1 h2=>?_) hs hd2
 rcases rW b.x a.x with ⟨_,h⟩|⟨h,_⟩|⟨h,_⟩
 · omega
 · exact h
 · exact absurd h.symm h2
end
section
open Go.RowKit Go.Proofs
variable [Lv]
def ag3 (l:List Sd) (f:T) (i:Int):St:=⟨slots 19 [(0,.t (.sl 4 (l.map Sd.t))),(1,.t f),(7,.t (i64 (l.map Sd.t).length)),(8,.t (i64 i))],[]⟩
theorem q87 (N:Nat) (l:List Sd) (f:T):ak env (N+1) 87 [.sl 4 (l.map Sd.t),f]=W [.sl 4 (l.map Sd.t),f] (bC env N 87 2 (ag3 l f 0)):=by kernel_rfl
theorem aoR (N:Nat) (l:List Sd) (f:T) (i:Int):aF env N 87 0 2 (ag3 l f i)=bif decide (i < (↑(List.map Sd.t l).length:Int)) then bK (List.map Sd.t l) i fun e=>oJ env (aJ env N) f [e] fun r=>bT r fun v=>bif v then ah.ok (Ex.ret,{tmps:=slots 19 [(4,.t (i64 i))],heap:=[]}) else ah.ok (Ex.norm,ag3 l f (IntKind.i64.wrap (i+1))) else ah.ok (Ex.exit 0,{tmps:=slots 19 [],heap:=[]}):=by kernel_rfl
theorem adh (N:Nat) (i:Int):aP env N 87 0 2 (aW env 87) (.ret) (⟨slots 19 [(4,.t (i64 i))],[]⟩)=rI i:=by kernel_rfl
theorem Xg (N:Nat):aP env N 87 0 2 (aW env 87) (.exit 0) (⟨slots 19 [],[]⟩)=rI (-1):=by kernel_rfl
theorem q51 (N:Nat) (c:Cf) (n:Int):ak env (N+1) 51 [c.t,i64 n]=W [c.t,i64 n] (cl N 87 [T.sl 4 (List.map Sd.t c.s),T.fn 88 [] [(i64 n).ref]] fun x=>iT IntKind.i64 x fun n=>iT IntKind.i64 x fun a=>ah.ok (T.au [i64 (dh true [0] n),T.bool (decide (a≥0))])):=by kernel_rfl
theorem q88 (N:Nat) (s:Sd) (n:Int):ak env (N+1) 88 [s.t,.ref (i64 n)]=W [s.t,.ref (i64 n)] (rB (s.a==n)):=by kernel_rfl
def ak7 (l:List Ru) (b:Bool) (e n:Nat) (x:T) (i:Int):St:=⟨slots 39 [(0,.t .dS),(3,.t (.bool b)),(13,.t (.sl 6 (l.map Ru.t))),(14,.t (i64 (l.map Ru.t).length)),(15,.t (i64 i))],[.box e n (.t x)]⟩
def ag8 (l:List Ru) (b:Bool) (e n:Nat) (x:T) (r:Ru) (i:Int):St:=⟨slots 39 [(0,.ptr 1 5),(3,.t (.bool b)),(13,.t (.sl 6 (l.map Ru.t))),(14,.t (i64 (l.map Ru.t).length)),(15,.t (i64 i))],[.box e n (.t x),.box 123 6 (.t r.t)]⟩
def ag9 (l:List Ru) (b:Bool) (e n:Nat) (x:T) (w:Ru) (i:Int):St:=⟨slots 39 [(0,.ptr 0 5),(3,.t (.bool b)),(13,.t (.sl 6 (l.map Ru.t))),(14,.t (i64 (l.map Ru.t).length)),(15,.t (i64 i))],[.box 123 6 (.t w.t),.box e n (.t x)]⟩
def aha (l:List Ru) (b:Bool) (e n:Nat) (x:T) (w r:Ru) (i:Int):St:=⟨slots 39 [(0,.ptr 2 5),(3,.t (.bool b)),(13,.t (.sl 6 (l.map Ru.t))),(14,.t (i64 (l.map Ru.t).length)),(15,.t (i64 i))],[.box 123 6 (.t w.t),.box e n (.t x),.box 123 6 (.t r.t)]⟩
def Ap (l:List Ru) (k:Int) (b:Bool) (e n:Nat) (x:T) (r:PV) (H:List aj):Pin:=⟨128,[.t .dS,.t (.sl 6 (l.map Ru.t)),.t (i64 k),.t (.bool b)],[.box e n (.t x)],r,H⟩
def Rz (l:List Ru) (k:Int) (b:Bool) (e n:Nat) (x:T) (w:Ru) (r:PV) (H:List aj):Pin:=⟨128,[.ptr 0 5,.t (.sl 6 (l.map Ru.t)),.t (i64 k),.t (.bool b)],[.box 123 6 (.t w.t),.box e n (.t x)],r,H⟩
def Yl (H:List aj) (l:Nat) (r:Ru):Pin:=⟨127,[.ptr l 5],H,.au [.t (i64 r.n),.t (.bool true)],H⟩
def Nb (c:Cf) (k i:Int):St:=⟨slots 32 [(1,.t (i64 k)),(6,.t .dS),(12,.t (.sl 4 (c.s.map Sd.t))),(13,.t (i64 (c.s.map Sd.t).length)),(14,.t (i64 i))],[]⟩
def Jb (c:Cf) (w:Ru) (k i:Int):St:=⟨slots 32 [(1,.t (i64 k)),(6,.ptr 0 5),(12,.t (.sl 4 (c.s.map Sd.t))),(13,.t (i64 (c.s.map Sd.t).length)),(14,.t (i64 i))],[.box 123 6 (.t w.t)]⟩
def P7 (a:Cf) (h:T) (k:T) (b:T) (i:Int):St:=⟨slots 75 [(2,.ptr 0 0),(5,.t k),(9,.t h),(10,.t b),(11,.t (i64 i))],[.box 56 6 (.t a.t)]⟩
end
section
open Go.RowKit Go.Proofs
variable [Lv]
theorem ami {M:Nat} {l:List Sd} {g:FuncId} {cs:List T} {q:Sd→Bool} (hM:big+1≤M) (hl:cO Sd.ok l) (hw:T.wfs cs=true) (hm:env.mode g=0) (hq:∀ r∈l,ak env M g (r.t::cs)= .ok (.bool (q r))):
 ak env (M+1) 87 [.sl 4 (l.map Sd.t),.fn g [] cs]= .ok (i64 (rH (l.findIdx? q))):=by
 rw[q87,aX (dM (dD (fun _ h=>Sd.ok.wf h) hl) (wV hw))]
 exact DR Sd.t (S:=ag3 l _) q (by have:=hl.1; omega) hl.1 (aoR M l _) (adh M) (Xg M) fun x hx K=>(lN hm).trans (aH (hq x hx))
theorem amj {M:Nat} {s:Sd} {n:Int} (h:s.ok) (hn:aV n=true):ak env (M+1) 88 [s.t,.ref (i64 n)]= .ok (.bool (s.a==n)):=by
 rw[q88,aX (dM h.wf (lC (aZ hn)))]
theorem UH (k:Option Nat):dh true [0] (rH k)=((k.getD 0:Nat):Int):=by
 cases k with
 |none=>rfl
 |some i=>show(if (i:Int) < 0 then(0:Int) else i)=i; rw[if_neg (by omega)]
theorem OQ {M:Nat} {c:Cf} {n:Int} (hM:big+2≤M) (h:c.ok) (hn:aV n=true):ak env (M+1) 51 [c.t,i64 n]= .ok (.au [i64 (eP c n),.bool (idxOf c n).isSome]):=by
 obtain⟨m,rfl⟩:=dJ (show 1≤M by omega)
 rw[q51,aX (dM h.wf (aZ hn)),aH (ami (q:=fun s=>s.a==n) (by omega) h.s (gJ (lC (aZ hn))) rfl fun s hs=>by
  obtain⟨m,rfl⟩:=dJ (show 1≤m by omega); exact amj (h.s.2 s hs) hn)]
 simp only[dI,UH,wJ]
 rfl
def kN (b:Bool) (w:Option Ru) (r:Ru):Option Ru:=if r.a=2 then(match w with|none=>some r|some v=>if decide (r.n < v.n)==b then some r else some v) else w
def zy (b:Bool) (w:Ru) (u:Option Ru) (r:Ru):Option Ru:=if r.a=2 then(if decide (r.n < (u.getD w).n)==b then some r else u) else u
def pvA:Option Ru→PV|none=> .t .dS|some _=> .ptr 1 5
def hpA (e n:Nat) (x:T):Option Ru→List aj|none=>[.box e n (.t x)]|some r=>[.box e n (.t x),.box 123 6 (.t r.t)]
def stA (l:List Ru) (b:Bool) (e n:Nat) (x:T) (w:Option Ru) (i:Nat):St:=match w with|none=>ak7 l b e n x (i:Nat)|some r=>ag8 l b e n x r (i:Nat)
def atn (e n:Nat) (x:T) (w:Option Ru):St:=⟨slots 39 [(0,pvA w)],hpA e n x w⟩
def pvC:Option Ru→PV|none=> .ptr 0 5|some _=> .ptr 2 5
def hpC (e n:Nat) (x:T) (w:Ru):Option Ru→List aj|none=>[.box 123 6 (.t w.t),.box e n (.t x)]|some r=>[.box 123 6 (.t w.t),.box e n (.t x),.box 123 6 (.t r.t)]
def stC (l:List Ru) (b:Bool) (e n:Nat) (x:T) (w:Ru) (u:Option Ru) (i:Nat):St:=match u with|none=>ag9 l b e n x w (i:Nat)|some r=>aha l b e n x w r (i:Nat)
def ato (e n:Nat) (x:T) (w:Ru) (u:Option Ru):St:=⟨slots 39 [(0,pvC u)],hpC e n x w u⟩
end
section
open Go.RowKit Go.Proofs
def JC (c:Cf):Prop:=∀ s∈c.s,s.i.length*48≤big∧s.o.length*48≤big
theorem Nj (s:Sd):s.t.ay 1 1 false=i64 s.r:=rfl
variable [Lv]
def xB (k:Int) (w:Option Ru) (s:Sd):Option Ru:=if s.r=k then nX true w (bP s.i k) else w
def stL (c:Cf) (k:Int) (w:Option Ru) (i:Nat):St:=match w with|none=>Nb c k (i:Nat)|some w=>Jb c w k (i:Nat)
def aoF:Option Ru→St|none=>⟨slots 32 [(6,.t .dS)],[]⟩|some w=>⟨slots 32 [(6,.ptr 0 5)],[.box 123 6 (.t w.t)]⟩
end
section
open Go.RowKit Go.Proofs
def ql (c:Cf) (k:Nat) (s:Sd):Cf:={c with s:=c.s.set k s}
def wO:Ru:=⟨0,⟨0,0⟩,0,2,1⟩
end
section
open Go.RowKit Go.Proofs
variable [Lv]
end
section
open Go.RowKit Go.Proofs
variable [Lv]
def ag0 (l:List Cf) (f:T) (i:Int):St:=⟨slots 19 [(0,.t (.sl 6 (l.map Cf.t))),(1,.t f),(7,.t (i64 (l.map Cf.t).length)),(8,.t (i64 i))],[]⟩
theorem q85 (N:Nat) (l:List Cf) (f:T):ak env (N+1) 85 [.sl 6 (l.map Cf.t),f]=W [.sl 6 (l.map Cf.t),f] (bC env N 85 2 (ag0 l f 0)):=by kernel_rfl
theorem aoQ (N:Nat) (l:List Cf) (f:T) (i:Int):aF env N 85 0 2 (ag0 l f i)=bif decide (i < (↑(List.map Cf.t l).length:Int)) then bK (List.map Cf.t l) i fun e=>oJ env (aJ env N) f [e] fun r=>bT r fun v=>bif v then ah.ok (Ex.ret,{tmps:=slots 19 [(4,.t (i64 i))],heap:=[]}) else ah.ok (Ex.norm,ag0 l f (IntKind.i64.wrap (i+1))) else ah.ok (Ex.exit 0,{tmps:=slots 19 [],heap:=[]}):=by kernel_rfl
theorem adg (N:Nat) (i:Int):aP env N 85 0 2 (aW env 85) (.ret) (⟨slots 19 [(4,.t (i64 i))],[]⟩)=rI i:=by kernel_rfl
theorem Xf (N:Nat):aP env N 85 0 2 (aW env 85) (.exit 0) (⟨slots 19 [],[]⟩)=rI (-1):=by kernel_rfl
theorem q50 (N:Nat) (t:List Cf) (a:Int):ak env (N+1) 50 [.sl 6 (t.map Cf.t),i64 a]=W [.sl 6 (t.map Cf.t),i64 a] (cl N 85 [T.sl 6 (List.map Cf.t t),T.fn 86 [] [(i64 a).ref]] fun x=>iT IntKind.i64 x fun n=>iT IntKind.i64 x fun a=>ah.ok (T.au [i64 (dh true [0] n),T.bool (decide (a≥0))])):=by kernel_rfl
theorem q86 (N:Nat) (c:Cf) (a:Int):ak env (N+1) 86 [c.t,.ref (i64 a)]=W [c.t,.ref (i64 a)] (rB (c.a==a)):=by kernel_rfl
theorem q23 (N:Nat) (t:List Cf) (i k:Int):ak env (N+1) 23 [.sl 6 (t.map Cf.t),i64 i,i64 k]=W [.sl 6 (t.map Cf.t),i64 i,i64 k] (bif decide (i < 0) then ah.ok (T.au [i64 0,i64 0,T.bool false]) else bif decide (i≥(↑(List.map Cf.t t).length:Int)) then ah.ok (T.au [i64 0,i64 0,T.bool false]) else bif decide (k < 0) then ah.ok (T.au [i64 0,i64 0,T.bool false]) else bK (List.map Cf.t t) i fun e=>iO (e.ay 5 1 false) fun n=>bif decide (k≥n) then ah.ok (T.au [i64 0,i64 0,T.bool false]) else bK (List.map Cf.t t) i fun e=>qW 4 (e.ay 5 1 false) fun xs=>bK xs k fun e=>cl N 50 [T.sl 6 (List.map Cf.t t),e.ay 0 1 false] fun x=>aG x 0 fun y=>aG x 1 fun y_1=>bT y_1 fun b=>bif !b then ah.ok (T.au [i64 0,i64 0,T.bool false]) else o9 y fun jH=>bK (List.map Cf.t t) jH fun e=>bK (List.map Cf.t t) i fun e_1=>cl N 51 [e,e_1.ay 0 1 false] fun x=>aG x 0 fun nO=>aG x 1 fun xu=>bT xu fun b=>bif !b then ah.ok (T.au [i64 0,i64 0,T.bool false]) else ah.ok (T.au [y,nO,T.bool true])):=by kernel_rfl
def sPv (t:List Cf) (l:List Sd) (r:List T) (i:Int):St:=⟨slots 39 [(0,.t (.sl 6 (t.map Cf.t))),(5,.own 0),(14,.t (.sl 4 (l.map Sd.t))),(15,.t (i64 (l.map Sd.t).length)),(16,.t (i64 i))],[.row 3 1 r]⟩
theorem q95 (N:Nat) (t:List Cf) (i:Int):ak env (N+1) 95 [.sl 6 (t.map Cf.t),i64 i]=W [.sl 6 (t.map Cf.t),i64 i] (bK (List.map Cf.t t) i fun e=>iO (e.ay 5 1 false) fun n=>bC env N 95 3 {tmps:=slots 39 [(0,.t (.sl 6 (List.map Cf.t t))),(5,.own 0),(14,.t (e.ay 5 1 false)),(15,.t (i64 n)),(16,.t (i64 0))],heap:=[aj.row 3 1 []]}):=by kernel_rfl
theorem ajZ (N:Nat) (t:List Cf) (l:List Sd) (r:List T) (i:Int):aF env N 95 0 3 (sPv t l r i)=bif decide (i < (↑(List.map Sd.t l).length:Int)) then bK (List.map Sd.t l) i fun e=>chk (e.cells.length==4&& !e.aY) (cl N 50 [T.sl 6 (List.map Cf.t t),e.ay 0 1 false] fun x=>aG x 0 fun y=>aG x 1 fun y_1=>bT y_1 fun b=>bif b then iT IntKind.i64 (e.ay 1 1 false) fun a=>bif a==3 then bW (T.mF 1) [y] (chk (decide ((r.length+1)*8≤140737488355328)) (ah.ok (Ex.norm,sPv t l (r++ [y]) (IntKind.i64.wrap (i+1))))) else ah.ok (Ex.norm,sPv t l r (IntKind.i64.wrap (i+1))) else ah.ok (Ex.norm,sPv t l r (IntKind.i64.wrap (i+1)))) else ah.ok (Ex.exit 0,{tmps:=slots 39 [(5,.own 0)],heap:=[aj.row 3 1 r]}):=by kernel_rfl
theorem Xi (N:Nat) (r:List T):aP env N 95 0 3 (aW env 95) (.exit 0) (⟨slots 39 [(5,.own 0)],[.row 3 1 r]⟩)=ah.ok (T.sl 1 r):=by kernel_rfl
def sEa (t:List Cf) (f:T) (i:Int):St:=⟨slots 43 [(0,.t (.sl 6 (t.map Cf.t))),(1,.t f),(12,.t (i64 (t.map Cf.t).length)),(13,.t (i64 i))],[]⟩
def sEb (t:List Cf) (f:T) (i n k:Int):St:=⟨slots 43 [(0,.t (.sl 6 (t.map Cf.t))),(1,.t f),(6,.t (i64 i)),(12,.t (i64 (t.map Cf.t).length)),(13,.t (i64 i)),(21,.t (i64 n)),(22,.t (i64 k))],[]⟩
def sCa (t:List Cf) (i:Int):St:=⟨slots 80 [(1,.ptr 0 0),(24,.t (.sl 6 (t.map Cf.t))),(25,.t (i64 (t.map Cf.t).length)),(26,.t (i64 i))],[.box 22 1 (.t (.sl 6 (t.map Cf.t)))]⟩
def sCb (t:List Cf) (i:Int):St:=⟨slots 80 [(1,.ptr 0 0),(36,.t (.sl 6 (t.map Cf.t))),(37,.t (i64 (t.map Cf.t).length)),(38,.t (i64 i))],[.box 22 1 (.t (.sl 6 (t.map Cf.t)))]⟩
end
section
open Go.RowKit Go.Proofs
variable [Lv]
def ak1 (t:List Cf) (i:Int):St:=⟨slots 80 [(1,.ptr 0 0),(36,.t (.sl 6 (t.map Cf.t))),(37,.t (i64 (t.map Cf.t).length)),(38,.t (i64 i)),(39,.t (.bool true))],[.box 22 1 (.t (.sl 6 (t.map Cf.t)))]⟩
def ak2 (t:List Cf) (i:Int) (c:Cf):St:=⟨slots 80 [(1,.ptr 0 0),(6,.t (i64 i)),(7,.ptr 1 0),(36,.t (.sl 6 (t.map Cf.t))),(37,.t (i64 (t.map Cf.t).length)),(38,.t (i64 i)),(39,.t (.bool true)),(40,.t (i64 i)),(41,.rp 6 c.t 0),(42,.t c.t)],[.box 22 1 (.t (.sl 6 (t.map Cf.t))),.box 56 6 (.t c.t)]⟩
end
section
def nU (t:List Cf) (a:Int):Option Nat:=t.findIdx? fun c=>c.a==a
theorem Eb {t:List Cf} {a:Int} {j:Nat} (h:nU t a=some j):j < t.length:=(List.findIdx?_eq_some_iff_getElem.1 h).1
def jL (t:List Cf) (i:Nat):List Nat:=match t[i]? with
 |some c=>c.s.filterMap fun s=>if s.r=3 then nU t s.a else none
 |none=>[]
theorem aaU {t:List Cf} {i j:Nat} (h:j∈jL t i):j < t.length:=by
 unfold jL at h
 split at h
 · obtain⟨s,_,h2⟩:=List.mem_filterMap.1 h
   split at h2
   · exact Eb h2
   · cases h2
 · cases h
inductive Up (t:List Cf) (i:Nat):Nat→Prop
 |one {j:Nat}:j∈jL t i→Up t i j
 |more {j m:Nat}:Up t i j→m∈jL t j→Up t i m
theorem Up.lt {t:List Cf} {i j:Nat} (h:Up t i j):j < t.length:=by cases h<;>exact aaU ‹_›
structure Work (t:List Cf) (i:Nat) (wait gone:Nat→Prop):Prop where
 up:∀ j,wait j∨gone j→Up t i j
 own:∀ j∈jL t i,wait j∨gone j
 next:∀ j,gone j→∀ m∈jL t j,wait m∨gone m
theorem Work.done {t:List Cf} {i:Nat} {wait gone:Nat→Prop} (h:Work t i wait gone) (hw:∀ j,¬ wait j) (j:Nat):gone j↔Up t i j:=by
 constructor
 · exact fun hg=>h.up j (.inr hg)
 · intro hu
   induction hu with
   |one hj=>exact(h.own _ hj).resolve_left (hw _)
   |more _ hm ih=>exact(h.next _ ih _ hm).resolve_left (hw _)
theorem Work.step {t:List Cf} {i j:Nat} {wait gone:Nat→Prop} (h:Work t i wait gone) (hj:wait j):Work t i (fun m=>(wait m∧m≠j)∨(m∈jL t j∧ ¬ (gone m∨m=j))) (fun m=>gone m∨m=j) where
 up m hm:=by
  rcases hm with (⟨hm,_⟩|⟨hm,_⟩)|(hm|rfl)
  · exact h.up m (.inl hm)
  · exact .more (h.up j (.inl hj)) hm
  · exact h.up m (.inr hm)
  · exact h.up m (.inl hj)
 own m hm:=by
  rcases h.own m hm with hm|hm
  · by_cases e:m=j
    · exact .inr (.inr e)
    · exact .inl (.inl ⟨hm,e⟩)
  · exact .inr (.inl hm)
 next k hk m hm:=by
  rcases hk with hk|rfl
  · rcases h.next k hk m hm with hm'|hm'
    · by_cases e:m=j
      · exact .inr (.inr e)
      · exact .inl (.inl ⟨hm',e⟩)
    · exact .inr (.inl hm')
  · by_cases e:gone m∨m=k
    · exact .inr e
    · exact .inl (.inr ⟨hm,e⟩)
def RV (t:List Cf) (i:Nat) (p:Nat→Bool):Nat→Bool:=fun b=>p b||(List.range t.length).any fun a=>(a==i||p a)&&(jL t a).contains b
def kD (t:List Cf) (i:Nat):Nat→Nat→Bool
 |0=>fun _=>false
 |n+1=>RV t i (kD t i n)
theorem qp {t:List Cf} {i b:Nat} {p:Nat→Bool}:RV t i p b=true↔p b=true∨∃ a,a < t.length∧(a=i∨p a=true)∧b∈jL t a:=by
 unfold RV
 simp[List.any_eq_true,and_assoc]
theorem Ez {t:List Cf} {i:Nat}:∀ (n b:Nat),kD t i n b=true→Up t i b
 |0,b,h=>by cases h
 |n+1,b,h=>by
  rcases qp.1 h with h|⟨a,_,rfl|h,hb⟩
  · exact Ez n b h
  · exact .one hb
  · exact .more (Ez n a h) hb
theorem EI {p q:Nat→Bool} (hpq:∀ x,p x=true→q x=true):∀ (l:List Nat),(l.filter p).length≤(l.filter q).length∧((∃ x∈l,q x=true∧p x=false)→(l.filter p).length < (l.filter q).length)
 | []=>⟨Nat.le_refl _,fun⟨_,h,_⟩=>by cases h⟩
 |a::l=>by
  obtain⟨h1,h2⟩:=EI hpq l
  have e:∀ r:Nat→Bool,((a::l).filter r).length=(if r a=true then 1 else 0)+(l.filter r).length:=fun r=>by
   rw[List.filter_cons]
   split<;>simp<;>omega
  rw[e,e]
  refine⟨?_,?_⟩
  · by_cases ha:p a=true
    · rw[if_pos ha,if_pos (hpq a ha)]; omega
    · rw[if_neg ha]; split<;>omega
  · rintro⟨x,hx,hq,hp⟩
    rcases List.mem_cons.1 hx with rfl|hx
    · rw[if_neg (by rw[hp]; simp),if_pos hq]; omega
    · have:=h2 ⟨x,hx,hq,hp⟩
      by_cases ha:p a=true
      · rw[if_pos ha,if_pos (hpq a ha)]; omega
      · rw[if_neg ha]; split<;>omega
def Shut (t:List Cf) (i:Nat) (p:Nat→Bool):Prop:=∀ b,RV t i p b=true→p b=true
theorem aa2 {t:List Cf} {i:Nat}:∀ n,Shut t i (kD t i n)∨n≤((List.range t.length).filter (kD t i n)).length
 |0=> .inr (Nat.zero_le _)
 |n+1=>by
  by_cases h:Shut t i (kD t i n)
  · refine .inl fun b hb=>?_
    have hle:∀ x,kD t i (n+1) x=true→kD t i n x=true:=h
    refine qp.2 (.inl ?_)
    rcases qp.1 hb with hb|⟨a,ha,hp,hb⟩
    · exact hle b hb
    · exact h b (qp.2 (.inr ⟨a,ha,hp.imp id (hle a),hb⟩))
  · have h0:=(aa2 n).resolve_left h
    obtain⟨b,hb1,hb2⟩:∃ b,RV t i (kD t i n) b=true∧kD t i n b=false:=by
     unfold Shut at h
     simp only[Classical.not_forall] at h
     obtain⟨b,h1,h2⟩:=h
     exact⟨b,h1,by simpa using h2⟩
    refine .inr ?_
    have hlt:b < t.length:=by
     rcases qp.1 hb1 with h1|⟨a,_,_,h1⟩
     · rw[hb2] at h1; cases h1
     · exact aaU h1
    have:=(EI (p:=kD t i n) (q:=kD t i (n+1)) (fun x hx=>qp.2 (.inl hx)) (List.range t.length)).2 ⟨b,List.mem_range.2 hlt,hb1,hb2⟩
    omega
theorem LY {t:List Cf} {i:Nat}:Shut t i (kD t i t.length):=by
 rcases aa2 (t:=t) (i:=i) t.length with h|h
 · exact h
 · intro b hb
   have hlt:b < t.length:=(Ez (t.length+1) b hb).lt
   have hall:(List.range t.length).filter (kD t i t.length)=List.range t.length:=by
    refine List.filter_sublist.eq_of_length_le ?_
    rw[List.length_range]; exact h
   have:=List.filter_eq_self.1 hall b (List.mem_range.2 hlt)
   exact this
theorem steps_iff {t:List Cf} {i:Nat} (hi:i < t.length) {b:Nat}:kD t i t.length b=true↔Up t i b:=by
 constructor
 · exact Ez _ _
 · intro hu
   induction hu with
   |one h=>exact LY _ (qp.2 (.inr ⟨i,hi,.inl rfl,h⟩))
   |more hu h ih=>exact LY _ (qp.2 (.inr ⟨_,hu.lt,.inr ih,h⟩))
noncomputable def uX (t:List Cf):Option Nat:=(List.range t.length).find? fun i=>kD t i t.length i
end
section
open Go.RowKit Go.Proofs
variable [Lv]
def auI (t:List Cf):Prop:=cO Cf.ok t
theorem jo {t:List Cf} (h:cO Cf.ok t):(T.sl 6 (t.map Cf.t)).wf=true:=dD (fun _ h=>Cf.ok.wf h) h
theorem aeP {M:Nat} {l:List Cf} {g:FuncId} {cs:List T} {q:Cf→Bool} (hM:big+1≤M) (hl:cO Cf.ok l) (hw:T.wfs cs=true) (hm:env.mode g=0) (hq:∀ r∈l,ak env M g (r.t::cs)= .ok (.bool (q r))):
 ak env (M+1) 85 [.sl 6 (l.map Cf.t),.fn g [] cs]= .ok (i64 (rH (l.findIdx? q))):=by
 rw[q85,aX (dM (jo hl) (wV hw))]
 exact DR Cf.t (S:=ag0 l _) q (by have:=hl.1; omega) hl.1 (aoQ M l _) (adg M) (Xf M) fun x hx K=>(lN hm).trans (aH (hq x hx))
theorem amh {M:Nat} {c:Cf} {a:Int} (h:c.ok) (ha:aV a=true):ak env (M+1) 86 [c.t,.ref (i64 a)]= .ok (.bool (c.a==a)):=by
 rw[q86,aX (dM h.wf (lC (aZ ha)))]
theorem aeM {M:Nat} {t:List Cf} {a:Int} (hM:big+2≤M) (ht:cO Cf.ok t) (ha:aV a=true):ak env (M+1) 50 [.sl 6 (t.map Cf.t),i64 a]= .ok (.au [i64 (((nU t a).getD 0:Nat):Int),.bool (nU t a).isSome]):=by
 obtain⟨m,rfl⟩:=dJ (show 1≤M by omega)
 rw[q50,aX (dM (jo ht) (aZ ha)),aH (aeP (q:=fun c=>c.a==a) (by omega) ht (gJ (lC (aZ ha))) rfl fun c hc=>by
  obtain⟨m,rfl⟩:=dJ (show 1≤m by omega); exact amh (ht.2 c hc) ha)]
 simp only[dI,UH,wJ]
 rfl
def gB (t:List Cf) (i k:Int):Option (Nat×Nat):=if 0≤i∧0≤k then(match t[i.toNat]? with
 |some c=>(match c.s[k.toNat]? with
  |some s=>(match nU t s.a with
   |some j=>(match t[j]? with|some d=>(idxOf d c.a).map fun m=>(j,m)|none=>none)
   |none=>none)
  |none=>none)
 |none=>none) else none
def BU (r:Option (Nat×Nat)):Int:=((r.map (·.1)).getD 0:Nat)
def BX (r:Option (Nat×Nat)):Int:=((r.map (·.2)).getD 0:Nat)
def MG (r:Option (Nat×Nat)):T:= .au [i64 (BU r),i64 (BX r),.bool r.isSome]
theorem IL (c:Cf):c.t.ay 5 1 false= .sl 4 (c.s.map Sd.t):=rfl
theorem akH (c:Cf):c.t.ay 0 1 false=i64 c.a:=rfl
theorem ahb (s:Sd):s.t.ay 0 1 false=i64 s.a:=rfl
theorem Ea {t:List Cf} {i k:Nat} {c:Cf} {s:Sd} (hc:t[i]? =some c) (hs:c.s[k]? =some s):gB t i k=(match nU t s.a with
 |some j=>(match t[j]? with|some d=>(idxOf d c.a).map fun m=>(j,m)|none=>none)
 |none=>none):=by
 unfold gB
 rw[if_pos ⟨by omega,by omega⟩,Int.toNat_natCast,Int.toNat_natCast,hc]
 simp only[hs]
theorem XB {M:Nat} {t:List Cf} {i k:Int} (hM:big+6≤M) (ht:cO Cf.ok t) (hi:aV i=true) (hk:aV k=true):ak env (M+1) 23 [.sl 6 (t.map Cf.t),i64 i,i64 k]= .ok (MG (gB t i k)):=by
 obtain⟨m,rfl⟩:=dJ (show 1≤M by omega)
 rw[q23,aX (yG (jo ht) (aZ hi) (aZ hk))]
 have hnone:gB t i k=none→ah.ok (T.au [i64 0,i64 0,T.bool false])=ah.ok (MG (gB t i k)):=fun h=>by rw[h]; rfl
 by_cases h0:i < 0
 · rw[decide_eq_true h0]; exact hnone (by unfold gB; rw[if_neg (by omega)])
 rw[decide_eq_false h0]
 by_cases h1:i≥t.length
 · rw[decide_eq_true (by rw[List.length_map]; omega)]
   refine hnone ?_
   unfold gB
   rw[List.getElem?_eq_none (by omega)]
   split<;>rfl
 rw[decide_eq_false (by rw[List.length_map]; omega)]
 by_cases h2:k < 0
 · rw[decide_eq_true h2]; exact hnone (by unfold gB; rw[if_neg (by omega)])
 rw[decide_eq_false h2]
 obtain⟨i,rfl⟩:∃ n:Nat,i=n:=⟨i.toNat,by omega⟩
 obtain⟨k,rfl⟩:∃ n:Nat,k=n:=⟨k.toNat,by omega⟩
 have hc:t[i]? =some t[i]:=List.getElem?_eq_getElem (by omega)
 have hco:=ht.2 _ (List.mem_of_getElem? hc)
 generalize t[i]=c at hc hco
 simp only[cond_false,aA (aC hc),IL,iO]
 by_cases h3:(k:Int)≥c.s.length
 · rw[decide_eq_true (by rw[List.length_map]; omega)]
   refine hnone ?_
   unfold gB
   rw[if_pos ⟨by omega,by omega⟩,Int.toNat_natCast,Int.toNat_natCast,hc]
   simp only[]
   rw[List.getElem?_eq_none (by omega)]
 rw[decide_eq_false (by rw[List.length_map]; omega)]
 have hs:c.s[k]? =some c.s[k]:=List.getElem?_eq_getElem (by omega)
 have hso:=hco.s.2 _ (List.mem_of_getElem? hs)
 generalize c.s[k]=s at hs hso
 simp only[cond_false,qW,if_true]
 rw[aA (aC hs),ahb,aH (aeM (by omega) ht hso.a),Ea hc hs]
 cases hf:nU t s.a with
 |none=>rfl
 |some j=>
  have hj:=Eb hf
  have hd:t[j]? =some t[j]:=List.getElem?_eq_getElem hj
  have hdo:=ht.2 _ (List.mem_of_getElem? hd)
  generalize t[j]=d at hd hdo
  simp only[aG,List.getElem?_cons_zero,List.getElem?_cons_succ,Option.getD_some,Option.isSome_some,bT,Bool.not_true,cond_false,o9,aA (aC hd),akH,hd]
  rw[aH (OQ (by omega) hdo hco.a)]
  cases hx:idxOf d c.a with
  |none=>rfl
  |some m'=>
   have e:eP d c.a=(m':Int):=by unfold eP; rw[hx]; rfl
   simp only[e,aG,List.getElem?_cons_zero,List.getElem?_cons_succ,Option.isSome_some,bT,Bool.not_true,cond_false]; rfl
def fJ (l:List Nat):List T:=l.map fun(j:Nat)=>i64 (j:Int)
def Ny (t:List Cf) (r:List Nat) (s:Sd):List Nat:=match (if s.r=3 then nU t s.a else none) with|some j=>r++ [j]|none=>r
theorem PO (t:List Cf):∀ (l:List Sd) (r:List Nat),l.foldl (Ny t) r=r++l.filterMap fun s=>if s.r=3 then nU t s.a else none
 | [],r=>by simp
 |s::l,r=>by
  rw[List.foldl_cons,PO t l,List.filterMap_cons]
  unfold Ny
  cases (if s.r=3 then nU t s.a else none)<;>simp
theorem ace {t:List Cf} {s:Sd} {r:List Nat}:(Ny t r s).length≤r.length+1:=by
 unfold Ny
 split<;>simp
theorem aeQ {M i:Nat} {t:List Cf} {c:Cf} (hM:big+4≤M) (ht:cO Cf.ok t) (hc:t[i]? =some c) (hs:(c.s.length+1)*8≤big):ak env (M+1) 95 [.sl 6 (t.map Cf.t),i64 i]= .ok (.sl 1 (fJ (jL t i))):=by
 obtain⟨m,rfl⟩:=dJ (show 1≤M by omega)
 have hb:=ht.1
 have hbg:=aU
 have hi:i < t.length:=(List.getElem?_eq_some_iff.1 hc).1
 have hco:=ht.2 c (List.mem_of_getElem? hc)
 rw[q95,aX (dM (jo ht) (aZ (fZ (by omega)))),aA (aC hc)]
 simp only[IL,iO]
 have it:=(lT (B:=aF env (m+1) 95 0 3) (S:=fun r k=>sPv t c.s (fJ r) (k:Nat)) (X:=fun r=>⟨slots 39 [(5,.own 0)],[.row 3 1 (fJ r)]⟩) (id:=0) (fun r k=>r.length≤k) (Ny t) c.s (n:=m+1) [] (by omega)
  (fun r k s hx hr=>⟨?_,Nat.le_trans ace (by omega)⟩) (fun r hr=>?_) (Nat.le_refl _)).1
 · refine(aQ it).trans ?_
   rw[Xi,PO]
   unfold jL
   rw[hc]; rfl
 · have hk:=(List.getElem?_eq_some_iff.1 hx).1
   have hso:=hco.s.2 s (List.mem_of_getElem? hx)
   have hw:=wrap_succ (show k≤big by omega)
   rw[ajZ,decide_eq_true (by rw[List.length_map]; omega)]
   simp only[cond_true]
   rw[aA (aC hx),show(s.t.cells.length==4&& !s.t.aY)=true from rfl,aN,ahb,aH (aeM (by omega) ht hso.a)]
   unfold Ny
   cases hf:nU t s.a with
   |none=>
    simp only[aG,List.getElem?_cons_zero,List.getElem?_cons_succ,Option.isSome_none,bT,cond_false,hw]
    cases hr3:decide (s.r=3) with
    |true=>rw[if_pos (of_decide_eq_true hr3)]
    |false=>rw[if_neg (of_decide_eq_false hr3)]
   |some j=>
    simp only[aG,List.getElem?_cons_zero,List.getElem?_cons_succ,Option.isSome_some,bT,cond_true,Option.getD_some,Nj,dI,hw]
    by_cases h3:s.r=3
    · rw[if_pos h3,beq_iff_eq.2 h3,cond_true]
      have hl:(fJ r).length=r.length:=by simp[fJ]
      show chk _ (chk _ (ah.ok _))=_
      rw[decide_eq_true (show((fJ r).length+1)*8≤140737488355328 by rw[hl]; omega)]
      show ah.ok (Ex.norm,sPv t c.s (fJ r++ [i64 j]) _)=_
      simp only[fJ,List.map_append,List.map_cons,List.map_nil]
    · rw[if_neg h3,beq_eq_false_iff_ne.2 h3,cond_false]
 · rw[ajZ,decide_eq_false (by rw[List.length_map]; omega)]
   rfl
end
end Go.aT
