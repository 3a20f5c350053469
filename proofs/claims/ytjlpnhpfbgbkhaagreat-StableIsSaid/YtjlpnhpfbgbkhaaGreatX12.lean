/- The texts of a proof, one behind the other: an interpreter and its soundness, what the functions of the program answer, and plain laws on that. -/
import Derived.Test.YtjlpnhpfbgbkhaaGreatX9
import Derived.Test.YtjlpnhpfbgbkhaaGreatX11
import Derived.Test.YtjlpnhpfbgbkhaaGreatX1
import Derived.Test.YtjlpnhpfbgbkhaaGreatX6
import Derived.Test.YtjlpnhpfbgbkhaaGreatK10
set_option linter.unusedVariables false
set_option linter.unusedSimpArgs false
set_option linter.unnecessarySimpa false
set_option linter.unusedSectionVars false
set_option maxRecDepth 100000
namespace Go.aT
section
open Go.RowKit Go.Proofs
def X5 (t:List Cf) (q:Nat→Nat→List En):List (List Ch):=if t.length≤8 then t.zipIdx.map fun p=>iM p.1 ((List.range p.1.s.length).map (q p.2)) else[]
theorem OC (t:List Cf) (L:List (List Ch)):X5 t (lK t L)=nextR t L:=rfl
theorem YQ (t:List Cf):X5 t (fun _ _=>[])=oP t:=by
 rw[←JY,←OC]
 congr 1
 funext i k
 rw[Vs]
def Es (q:Nat→List En) (n k:Nat):List T:=(List.range n).map fun j=>if j < k then .sl 6 ((q j).map En.t) else .sl 6 []
theorem U9 (q:Nat→List En) (n k:Nat):(Es q n k).length=n:=by simp[Es]
theorem agj {q:Nat→List En} {n k:Nat} (hk:k < n):(Es q n k).set k (.sl 6 ((q k).map En.t))=Es q n (k+1):=by
 refine List.ext_getElem? fun j=>?_
 rw[List.getElem?_set]
 simp only[U9]
 unfold Es
 by_cases h:k=j
 · subst h; rw[if_pos rfl,if_pos hk]; simp[hk]
 · rw[if_neg h]
   by_cases hj:j < n
   · simp only[List.getElem?_map,List.getElem?_range hj,Option.map_some]
     by_cases h1:j < k
     · rw[if_pos h1,if_pos (by omega)]
     · rw[if_neg h1,if_neg (by omega)]
   · simp[hj]
theorem aco (q:Nat→List En) (n:Nat):Es q n 0=List.replicate n (.sl 6 []):=by
 refine List.ext_getElem? fun j=>?_
 unfold Es
 rw[List.getElem?_replicate]
 by_cases hj:j < n<;>simp[hj]
theorem agi (q:Nat→List En) (n:Nat):Es q n n=fP ((List.range n).map q):=by
 unfold Es fP
 rw[List.map_map]
 exact List.map_congr_left fun j hj=>by rw[if_pos (List.mem_range.1 hj)]; rfl
theorem Ar (k:Nat) {i:Nat}:dF (fun _=>false) i k=none:=by
 induction k generalizing i with
 |zero=>rfl
 |succ k ih=>unfold dF; exact ih
theorem OD {c:Cf} {q:Nat→List En} (h1:c.s.length≤1000) (h2:c.w.length≤1000) (hq:∀ k,(q k).length≤1000):uY c ((List.range c.s.length).map q):=by
 have hbg:=aU
 unfold uY iJ
 rw[List.length_append]
 have main:∀ m:List (List En),(∀ l∈m,l.length≤1000)→(m.flatMap fun l=>l.map En.x).length≤m.length*1000:=by
  intro m
  induction m with
  |nil=>intro _; simp
  |cons a m ih=>
   intro hm
   rw[List.flatMap_cons,List.length_append,List.length_map,List.length_cons,Nat.succ_mul]
   have:=ih fun l hl=>hm l (List.mem_cons_of_mem _ hl)
   have:=hm a List.mem_cons_self
   omega
 have:=main (((List.range c.s.length).map q).take c.s.length) fun l hl=>by
  obtain⟨k,_,rfl⟩:=List.mem_map.1 (List.mem_of_mem_take hl)
  exact hq k
 have h3:(((List.range c.s.length).map q).take c.s.length).length≤1000:=by rw[List.length_take]; omega
 omega
theorem ahE {m i:Nat} {t:List Cf} {f:FuncId} {cs ys:List T} {q:Nat→List En} {c:Cf} (hM:big+50≤m+1) (hm:env.mode f=0) (hco:c.ok) (h1:c.s.length≤1000) (h2:c.w.length≤1000)
 (hq:∀ k:Nat,k≤1000→ak env (m+1) f ([i64 (i:Int),i64 (k:Int)]++cs)= .ok (.sl 6 ((q k).map En.t))) (ho:∀ k,cO En.ok (q k)∧(q k).length≤1000) (hy:(ys.length+1)*24≤140737488355328) (hi:i≤1000):
 qE env (m+1) 42 5 9 (agN (.fn f [] cs) t ys i c (Es q c.s.length 0) c.s.length (0:Nat))= .ok (.norm,acu (.fn f [] cs) t (ys++ [.sl 8 ((iM c ((List.range c.s.length).map q)).map Ch.t)]) (i+1:Nat)):=by
 have hbg:=aU
 have it:=fB (B:=pq env (m+1) 42 0 5 9) (S:=fun k=>agN (.fn f [] cs) t ys i c (Es q c.s.length k) c.s.length k) (R:=fun _=>⟨[],[]⟩) (X:=⟨slots 45 [(1,.t (.fn f [] cs)),(5,.own 0),(7,.ptr 1 0),(8,.own 2),(13,.t (.sl 6 (t.map Cf.t))),(14,.t (i64 (t.map Cf.t).length)),(15,.t (i64 i))],[.row 40 1 ys,.box 56 6 (.t c.t),.row 75 1 (Es q c.s.length c.s.length)]⟩) (id:=2) (fun _=>false) c.s.length 0 (m+1) (by omega)
  (fun k _ hk hp=>by cases hp)
  (fun k _ hk hp=>by
   rw[Z8,decide_eq_true (by omega),cond_true,(lN hm:oJ env (aJ env (m+1)) (.fn f [] cs) _ _=_)]
   rw[List.nil_append,aH (hq k (by omega)),U9,decide_eq_true (show(0:Int)≤(k:Int) by omega),decide_eq_true (show(k:Int) < (c.s.length:Int) by omega),Int.toNat_natCast,agj (by omega),wrap_succ (show k≤big by omega)]
   rfl)
  (by rw[Nat.zero_add,Z8,decide_eq_false (by omega)]; rfl)
 rw[Ar] at it
 refine(oH it).trans ((Oe (m+1) _ t ys i c _).trans ?_)
 have ht:DY ((List.range c.s.length).map q):=⟨by rw[List.length_map,List.length_range]; omega,fun l hl=>by
  obtain⟨k,_,rfl⟩:=List.mem_map.1 hl
  exact(ho k).1⟩
 rw[agi,aH (amb hco ht (OD h1 h2 fun k=>(ho k).2)),wrap_succ (show i≤big by omega)]
 show chk true (chk _ _)=_
 rw[decide_eq_true hy]
 rfl
theorem aeK {M:Nat} {t:List Cf} {f:FuncId} {cs:List T} {q:Nat→Nat→List En} (hM:big+60≤M) (ht:cO Cf.ok t) (hs:∀ c∈t,c.s.length≤1000∧c.w.length≤1000) (hcs:T.wfs cs=true) (hm:env.mode f=0)
 (hq:∀ i k:Nat,i < t.length→k≤1000→ak env M f ([i64 (i:Int),i64 (k:Int)]++cs)= .ok (.sl 6 ((q i k).map En.t))) (ho:∀ i k,cO En.ok (q i k)∧(q i k).length≤1000):ak env (M+1) 42 [.sl 6 (t.map Cf.t),.fn f [] cs]= .ok (.sl 1 (aK (X5 t q))):=by
 obtain⟨m,rfl⟩:=dJ (show 1≤M by omega)
 have hbg:=aU
 have htb:=ht.1
 rw[q42,aX (dM (jo ht) (wV hcs))]
 unfold X5
 by_cases h8:t.length≤8
 case neg=>rw[if_neg h8,decide_eq_true (by rw[List.length_map]; omega)]; rfl
 rw[if_pos h8,decide_eq_false (by rw[List.length_map]; omega),cond_false]
 have hz:t.zipIdx.length=t.length:=List.length_zipIdx
 have it:=fB (B:=aF env (m+1) 42 0 5) (S:=fun i=>acu (.fn f [] cs) t (aK ((t.zipIdx.take i).map fun p=>iM p.1 ((List.range p.1.s.length).map (q p.2)))) i) (R:=fun _=>⟨[],[]⟩) (X:=⟨slots 45 [(5,.own 0)],[.row 40 1 (aK (t.zipIdx.map fun p=>iM p.1 ((List.range p.1.s.length).map (q p.2))))]⟩) (id:=0) (fun _=>false) t.length 0 (m+1) (by omega)
  (fun k _ hk hp=>by cases hp)
  (fun i _ hi hp=>by
   have hc:t[i]? =some t[i]:=List.getElem?_eq_getElem (by omega)
   have hzi:t.zipIdx[i]? =some (t[i],i):=by rw[List.getElem?_zipIdx,hc]; simp
   have hco:=ht.2 _ (List.mem_of_getElem? hc)
   obtain⟨g1,g2⟩:=hs _ (List.mem_of_getElem? hc)
   have htk:t.zipIdx.take (i+1)=t.zipIdx.take i++ [(t[i],i)]:=by rw[List.take_add_one,hzi]; rfl
   have hlen:(aK ((t.zipIdx.take i).map fun p=>iM p.1 ((List.range p.1.s.length).map (q p.2)))).length≤i:=by
    rw[D9,List.length_map,List.length_take]; omega
   rw[htk,List.map_append]
   rw[show aK ((t.zipIdx.take i).map (fun p=>iM p.1 ((List.range p.1.s.length).map (q p.2)))++ [(t[i],i)].map fun p=>iM p.1 ((List.range p.1.s.length).map (q p.2)))=aK ((t.zipIdx.take i).map fun p=>iM p.1 ((List.range p.1.s.length).map (q p.2)))++ [.sl 8 ((iM t[i] ((List.range t[i].s.length).map (q i))).map Ch.t)] from List.map_append]
   generalize aK ((t.zipIdx.take i).map fun p=>iM p.1 ((List.range p.1.s.length).map (q p.2)))=ys at hlen
   generalize t[i]=c at hc hco g1 g2
   rw[ajI,decide_eq_true (by rw[List.length_map]; omega),cond_true,aA (aC hc)]
   rw[show(c.t.cells.length==6&& !c.t.aY)=true from rfl,aN,IL]
   simp only[iO]
   rw[decide_eq_true (show(0:Int)≤((c.s.map Sd.t).length:Int) by omega),decide_eq_true (Int.le_refl _),Int.toNat_natCast,decide_eq_true (show(c.s.map Sd.t).length*24≤140737488355328 by rw[List.length_map]; omega)]
   simp only[Bool.and_self,aN]
   have e1:=ahE (m:=m) (i:=i) (t:=t) (f:=f) (cs:=cs) (ys:=ys) (q:=q i) (c:=c) (by omega) hm hco g1 g2 (fun k hk=>hq i k (by omega) hk) (ho i) (by omega) (by omega)
   rw[aco] at e1
   rw[List.length_replicate,show(c.s.map Sd.t).length=c.s.length from List.length_map _]
   exact e1)
  (by rw[Nat.zero_add,ajI,decide_eq_false (by rw[List.length_map]; omega),←hz,List.take_length]; rfl)
 rw[Ar] at it
 exact(aQ it).trans (WM (m+1) _)
theorem aeB {M:Nat} {t:List Cf} {L:List (List Ch)} (hM:big+65≤M) (h:nZ t L):ak env (M+1) 19 [.sl 6 (t.map Cf.t),.sl 1 (aK L)]= .ok (.sl 1 (aK (nextR t L))):=by
 obtain⟨m,rfl⟩:=dJ (show 1≤M by omega)
 obtain⟨m,rfl⟩:=dJ (show 1≤m by omega)
 rw[q19,aX (dM (jo h.ft) (nD h.fL)),←OC]
 rw[aH (aeK (q:=lK t L) (by omega) h.ft h.sides (by
  have h3:=lC (jo h.ft); have h4:=lC (nD h.fL)
  simp only[T.wfs,h3,h4,Bool.and_self]) rfl (fun i k hi hk=>alZ (by omega) h hi hk) fun i k=>h.side i k)]
theorem XA {M:Nat} {t:List Cf} (hM:big+65≤M) (ht:cO Cf.ok t) (hs:∀ c∈t,c.s.length≤1000∧c.w.length≤1000):ak env (M+1) 17 [.sl 6 (t.map Cf.t)]= .ok (.sl 1 (aK (oP t))):=by
 obtain⟨m,rfl⟩:=dJ (show 1≤M by omega)
 obtain⟨m,rfl⟩:=dJ (show 1≤m by omega)
 have hbg:=aU
 have htb:=ht.1
 rw[q17,aX (gJ (jo ht)),←YQ]
 rw[aH (aeK (q:=fun _ _=>[]) (by omega) ht hs rfl rfl (fun i k hi hk=>alY (fZ (by omega)) (fZ (by omega))) fun i k=>⟨⟨Nat.zero_le _,by simp⟩,Nat.zero_le _⟩)]
theorem al2 {M:Nat} {L K:List (List Ch)} (hM:big+15≤M) (hL:cO (cO Ch.ok) L) (hK:cO (cO Ch.ok) K):ak env (M+1) 48 [.sl 1 (aK L),.sl 1 (aK K),.fn 49 [] []]= .ok (.bool (decide (L=K))):=by
 obtain⟨m,rfl⟩:=dJ (show 1≤M by omega)
 have hb:=hL.1
 rw[q48,aX (yG (nD hL) (nD hK) (II _)),←Ac (q:=fun a b=>decide (a=b)) (by simp) L K,List.length_map,List.length_map]
 by_cases h:L.length=K.length
 · rw[if_pos h,show((L.length:Int) !=(K.length:Int))=false by rw[h]; simp]
   simp only[cond_false]
   refine zZ (S:=fun i=>agO L K (.fn 49 [] []) (i:Int)) (R:=⟨slots 32 [(6,.t (.bool false))],[]⟩) (X:=⟨slots 32 [],[]⟩) (id:=0) _ (by omega) h (fun j x y hx hy=>?_) ?_ (ac6 (m+1) false) (WT (m+1))
   · have hj:j < L.length:=(List.getElem?_eq_some_iff.1 hx).1
     rw[ajN,decide_eq_true (by rw[List.length_map]; omega)]
     simp only[cond_true]
     rw[aA (vC hx),aA (vC hy),Ae rfl (al3 (by omega) (hL.2 x (List.mem_of_getElem? hx)) (hK.2 y (List.mem_of_getElem? hy))),jW,wrap_succ (show j≤big by omega)]
   · rw[ajN,decide_eq_false (by rw[List.length_map]; omega)]; rfl
 · rw[if_neg h,show((L.length:Int) !=(K.length:Int))=true by simp; omega]; rfl
theorem alP {M:Nat} {t:List Cf} {L:List (List Ch)} (hM:big+67≤M) (h:nZ t L) (h':cO (cO Ch.ok) (nextR t L)):ak env (M+1) 21 [.sl 6 (t.map Cf.t),.sl 1 (aK L)]= .ok (.bool (nP t L)):=by
 obtain⟨m,rfl⟩:=dJ (show 1≤M by omega)
 rw[q21,aX (dM (jo h.ft) (nD h.fL))]
 unfold nP
 by_cases h8:t.length≤8
 · rw[decide_eq_true (show((t.map Cf.t).length:Int)≤8 by rw[List.length_map]; omega),decide_eq_true h8,cond_true,aH (aeB (by omega) h),aH (al2 (by omega) h' h.fL),Bool.true_and]
 · rw[decide_eq_false (show ¬ ((t.map Cf.t).length:Int)≤8 by rw[List.length_map]; omega),decide_eq_false h8]; rfl
end
section
open Go.RowKit Go.Proofs
structure Home (t:List Cf) (U:List Px):Prop where
 ft:cO Cf.ok t
 sides:∀ c∈t,c.s.length≤1000∧c.w.length≤1000
 small:U.length≤1000
 okU:∀ x∈U,x.ok
 own:∀ c∈t,∀ x∈c.w,x∈U
def o8 (U:List Px) (L:List (List Ch)):Prop:=BF U L∧L.length≤big
theorem Home.room {t:List Cf} {U:List Px} (h:Home t U) {L:List (List Ch)} (hL:o8 U L):nZ t L where
 ft:=h.ft
 fL:=⟨hL.2,fun l hl=>⟨by have:=hL.1.len l hl; have:=h.small; have:=aU; omega,hL.1.ok l hl⟩⟩
 sides:=h.sides
 chs l hl:=Nat.le_trans (hL.1.len l hl) h.small
theorem Home.next {t:List Cf} {U:List Px} (h:Home t U) {L:List (List Ch)} (hL:o8 U L):o8 U (nextR t L):=by
 refine⟨abW h.ft.2 h.okU h.own hL.1,?_⟩
 by_cases h8:t.length≤8
 · rw[sV h8]; have:=aU; omega
 · unfold nextR; rw[if_neg h8]; exact Nat.zero_le _
theorem Home.first {t:List Cf} {U:List Px} (h:Home t U):o8 U (oP t):=by
 rw[←JY]
 exact h.next ⟨⟨by simp,by simp,by simp⟩,Nat.zero_le _⟩
theorem Home.it {t:List Cf} {U:List Px} (h:Home t U) {L:List (List Ch)} (hL:o8 U L):∀ s,o8 U (yN (nextR t) s L)
 |0=>hL
 |s+1=>h.next (h.it hL s)
theorem Home.from_ {t:List Cf} {U:List Px} (h:Home t U) {L:List (List Ch)} (hL:o8 U L) (n:Nat):o8 U (lI t n L).1:=by
 obtain⟨s,_,e⟩:=aav t n L
 rw[e]; exact h.it hL s
theorem Home.fixed {t:List Cf} {U:List Px} (h:Home t U) {L:List (List Ch)} (hL:o8 U L) {M:Nat} (hM:big+67≤M):ak env (M+1) 21 [.sl 6 (t.map Cf.t),.sl 1 (aK L)]= .ok (.bool (nP t L)):=
 alP hM (h.room hL) (h.room (h.next hL)).fL
theorem Home.nexts {t:List Cf} {U:List Px} (h:Home t U) {L:List (List Ch)} (hL:o8 U L) {M:Nat} (hM:big+67≤M):ak env (M+1) 19 [.sl 6 (t.map Cf.t),.sl 1 (aK L)]= .ok (.sl 1 (aK (nextR t L))):=
 aeB (by omega) (h.room hL)
theorem Ie {t:List Cf} {U:List Px} (h:Home t U):∀ (n:Nat) (L:List (List Ch)) (M:Nat),n≤1000→o8 U L→big+80+n≤M→jc env (M+1) (acd t L n (.sl 1 (aK (lI t n L).1)) (lI t n L).2)
 |0,L,M,_,hL,hM=>by
  obtain⟨m,rfl⟩:=dJ (show 1≤M by omega)
  refine kC (ps:=[]) trivial ?_
  refine(ae3 (m+1) t L ((0:Nat):Int) _).trans ?_
  rw[aH (h.fixed hL (by omega))]
  simp only[bT]
  unfold lI
  cases nP t L<;>rfl
 |n+1,L,M,hn,hL,hM=>by
  have hbg:=aU
  obtain⟨m,rfl⟩:=dJ (show 1≤M by omega)
  by_cases hf:nP t L=true
  · refine kC (ps:=[]) trivial ?_
    refine(ae3 (m+1) t L ((n+1:Nat):Int) _).trans ?_
    rw[aH (h.fixed hL (by omega)),hf]
    unfold lI
    rw[if_pos hf]; rfl
  · have hw:IntKind.i64.wrap (((n+1:Nat):Int) - 1)=(n:Int):=by rw[wrap64 (by omega)]; omega
    have ih:=Ie h n (nextR t L) m (by omega) (h.next hL) (by omega)
    have e:lI t (n+1) L=lI t n (nextR t L):=by
     show(if nP t L=true then(L,true) else lI t n (nextR t L))=_
     rw[if_neg hf]
    rw[e]
    generalize lI t n (nextR t L)=r at ih
    refine kC (ps:=[acd t (nextR t L) (IntKind.i64.wrap (((n+1:Nat):Int) - 1)) (.sl 1 (aK r.1)) r.2]) ⟨by rw[hw]; exact ih,trivial⟩ ?_
    refine(arl (m+1) t L (nextR t L) ((n+1:Nat):Int) (.sl 1 (aK r.1)) r.2 _).trans ?_
    rw[aH (h.fixed hL (by omega))]
    rw[show nP t L=false by simpa using hf]
    simp only[bT,cond_false]
    rw[beq_eq_false_iff_ne.2 (show((n+1:Nat):Int)≠0 by omega),cond_false,aH (h.nexts hL (by omega))]
    exact l7 ⟨rfl,trivial⟩
theorem JF (n:Nat):jQ n≤170:=by
 unfold jQ
 have:min n 8≤8:=Nat.min_le_right _ _
 generalize min n 8=q at this
 have h9:∀ q:Nat,q≤8→2*q*q+4*q+10≤170:=by decide
 exact h9 q this
theorem Home.stable {t:List Cf} {U:List Px} (h:Home t U) {M:Nat} (hM:big+260≤M):ak env (M+1) 11 [.sl 6 (t.map Cf.t)]= .ok (.au [.sl 1 (aK (uZ t).1),.bool (uZ t).2]):=by
 obtain⟨m,rfl⟩:=dJ (show 1≤M by omega)
 have hbg:=aU
 have hbl:=JF t.length
 have htb:=h.ft.1
 refine lQ (ps:=[acd t (oP t) (jQ t.length) (.sl 1 (aK (uZ t).1)) (uZ t).2]) ⟨Ie h _ _ m (by omega) h.first (by omega),trivial⟩ (gJ (jo h.ft)) rfl ?_
 refine(arn (m+1) t (oP t) (jQ t.length) _ _).trans ?_
 rw[aH (XA (by omega) h.ft h.sides),show(((t.map Cf.t).length:Nat):Int)=(t.length:Int) by rw[List.length_map],aH (alR htb)]
 exact l7 ⟨rfl,rfl⟩
def nR (ys:List Nat):List Int:=ys.map fun(n:Nat)=>(n:Int)
def zl (t:List Cf) (L:List (List Ch)) (x:Px):Nat→List Nat→Nat→List Nat×Bool
 |0,ys,_=>(ys,false)
 |d+1,ys,i=>match pz (L.getD i []) x with
  |none=>(ys,false)
  |some r=>if r.f < 0 then(ys,true) else match gB t i r.f with
   |none=>(ys,false)
   |some (j,_)=>if ys.length=8 then(ys,false) else zl t L x d (ys++ [j]) j
def rZ (t:List Cf) (L:List (List Ch)) (i:Int) (x:Px):List Nat×Bool:=if 0≤i∧i < t.length∧t.length≤8 then zl t L x 9 [i.toNat] i.toNat else([],false)
theorem XE {t:List Cf} {i:Nat} {k:Int} {p:Nat×Nat} (h:gB t i k=some p):p.1 < t.length:=by
 unfold gB at h
 split at h
 · split at h
   · split at h
     · split at h
       · split at h
         · rename_i d hd
           obtain⟨m',h1,h2⟩:=Option.map_eq_some_iff.1 h
           rw[←h2]
           exact(List.getElem?_eq_some_iff.1 hd).1
         · cases h
       · cases h
     · cases h
   · cases h
 · cases h
theorem KQ {l:List Ch} {x:Px} {r:Rt} (h:pz l x=some r):∃ e∈l,e.r=r∧e.x=x:=by
 unfold pz at h
 obtain⟨e,h1,h2⟩:=Option.map_eq_some_iff.1 h
 exact⟨e,List.mem_of_find?_eq_some h1,h2,by simpa using List.find?_some h1⟩
theorem O9 {m:Nat} {t:List Cf} {L:List (List Ch)} {x:Px} (hM:big+40≤m) (h:nZ t L) (hx:x.ok):∀ (d i:Nat) (ys:List Nat) (n:Nat),9≤ys.length+d→ys.length≤8→i < t.length→d < n→
 bF (aF env (m+1) 13 0 4) n (Yq t L i x (nR ys))= .ok (.ret,⟨slots 69 [(8,.own 0),(9,.t (.bool (zl t L x d ys i).2))],[.row 3 1 (ints (nR (zl t L x d ys i).1))]⟩)
 |0,i,ys,n,h9,h8,_,_=>by omega
 |d+1,i,ys,n+1,h9,h8,hi,hn=>by
  have hbg:=aU
  have htb:=h.ft.1
  obtain⟨g1,g2⟩:=h.at i
  have hb:aF env (m+1) 13 0 4 (Yq t L i x (nR ys))=_:=aoM (m+1) t L i x (nR ys)
  rw[aH (aeH h.fL (by omega)),aH (aeD (by omega) g1 hx)] at hb
  unfold zl
  cases hg:pz (L.getD i []) x with
  |none=>
   rw[hg] at hb
   exact dR hb
  |some r=>
   rw[hg] at hb
   have hro:r.ok:=by
    obtain⟨e,he,h1,_⟩:=KQ hg
    rw[←h1]; exact(g1.2 e he).r
   simp only[I5,aG,List.getElem?_cons_zero,List.getElem?_cons_succ,bT,Bool.not_true,cond_false] at hb
   rw[tq,aN,show r.t.ay 5 1 false=i64 r.f from rfl] at hb
   simp only[dI] at hb
   by_cases hf:r.f < 0
   · rw[decide_eq_true hf,cond_true] at hb
     simp only[]
     rw[if_pos hf]
     exact dR hb
   · rw[decide_eq_false hf,cond_false,aH (XB (by omega) h.ft (fZ (by omega)) hro.f)] at hb
     simp only[]
     rw[if_neg hf]
     cases hfr:gB t i r.f with
     |none=>
      rw[hfr] at hb
      exact dR hb
     |some p=>
      rw[hfr] at hb
      obtain⟨j,k⟩:=p
      have hj:=XE hfr
      simp only[MG,BU,BX,Option.map_some,Option.getD_some,aG,List.getElem?_cons_zero,List.getElem?_cons_succ,Option.isSome_some,bT,Bool.not_true,cond_false] at hb
      simp only[]
      have hyl:((ints (nR ys)).length:Int)=(ys.length:Int):=by simp[ints,nR]
      rw[hyl] at hb
      by_cases h88:ys.length=8
      · rw[if_pos h88]
        rw[beq_iff_eq.2 (show(ys.length:Int)=8 by omega),cond_true] at hb
        exact dR hb
      · rw[if_neg h88]
        rw[beq_eq_false_iff_ne.2 (show(ys.length:Int)≠8 by omega),cond_false] at hb
        have hby:decide (((ints (nR ys)).length+1)*8≤140737488355328)=true:=decide_eq_true (by simp only[ints,nR,List.length_map]; omega)
        rw[hby] at hb
        have hb2:aF env (m+1) 13 0 4 (Yq t L i x (nR ys))= .ok (.norm,Yq t L j x (nR (ys++ [j]))):=by
         rw[hb]
         unfold Yq ints nR
         rw[List.map_append,List.map_append]
         rfl
        rw[bf hb2]
        exact O9 hM h hx d j (ys++ [j]) n (by simp; omega) (by simp; omega) hj (by omega)
theorem aez {M:Nat} {t:List Cf} {L:List (List Ch)} {i:Int} {x:Px} (hM:big+45≤M) (h:nZ t L) (hi:aV i=true) (hx:x.ok):ak env (M+1) 13 [.sl 6 (t.map Cf.t),.sl 1 (aK L),i64 i,x.t]= .ok (.au [.sl 1 (ints (nR (rZ t L i x).1)),.bool (rZ t L i x).2]):=by
 obtain⟨m,rfl⟩:=dJ (show 1≤M by omega)
 have hbg:=aU
 rw[q13,aX (by
  have h1:=jo h.ft; have h2:=nD h.fL; have h3:=aZ hi; have h4:=hx.wf
  simp only[T.wfs,h1,h2,h3,h4,Bool.and_self])]
 unfold rZ
 by_cases h0:i < 0
 · rw[decide_eq_true h0,if_neg (by omega)]; rfl
 rw[decide_eq_false h0]
 by_cases h1:i≥t.length
 · rw[decide_eq_true (by rw[List.length_map]; omega),if_neg (by omega)]; rfl
 rw[decide_eq_false (by rw[List.length_map]; omega)]
 by_cases h8:t.length≤8
 case neg=>rw[decide_eq_true (by rw[List.length_map]; omega),if_neg (by omega)]; rfl
 rw[decide_eq_false (by rw[List.length_map]; omega),if_pos ⟨by omega,by omega,h8⟩]
 obtain⟨i,rfl⟩:∃ n:Nat,i=n:=⟨i.toNat,by omega⟩
 rw[Int.toNat_natCast]
 simp only[cond_false]
 have it:=O9 (m:=m) (by omega) h hx 9 i [i] (m+1) (by simp) (by simp) (by omega) (by omega)
 exact(aQ it).trans (acU (m+1) _ _)
end
section
open Go.RowKit Go.Proofs
theorem ad2 {a b:Bool} {N:Nat} {r:ah T} (h:r=bif a then rB false else rB b):r=rB (!a&&b):=by rw[h]; cases a<;>rfl
def Jh (t:List Cf):Bool:= !(t.any fun c=> !Nu c)&&decide (t.length≤10)
theorem aoU {M:Nat} {t:List Cf} (hM:big+10≤M) (ht:cO Cf.ok t):ak env (M+1) 9 [.sl 6 (t.map Cf.t)]= .ok (.bool (Jh t)):=by
 have hb:=ht.1
 obtain⟨m,rfl⟩:=dJ (show 1≤M by omega)
 rw[q9,aX (gJ (jo ht))]
 refine ad2 (N:=m) (DF (S:=fun i=>agQ t (i:Nat)) (R:=⟨slots 19 [(2,.t (.bool false))],[]⟩) (X:=⟨slots 19 [(0,.t (.sl 6 (t.map Cf.t)))],[]⟩) (id:=0) (fun c=> !Nu c) t (by omega) (fun j c hx=>?_) ?_ (agA (m+1) false) ((ZR (m+1) t).trans ?_))
 · have hj:=(List.getElem?_eq_some_iff.1 hx).1
   rw[anK,decide_eq_true (by rw[List.length_map]; omega),cond_true,aA (aC hx),bJ (alT (by omega) (ht.2 _ (List.mem_of_getElem? hx))),wrap_succ (show j≤big by omega)]
 · rw[anK,decide_eq_false (by rw[List.length_map]; omega)]; rfl
 · show rB _=rB _
   congr 1
   exact decide_eq_decide.2 (by rw[List.length_map]; omega)
def OV (L:List (List Ch)):Bool:= !(L.any fun l=> !X7 l)&&decide (L.length≤10)
theorem alK {M:Nat} {L:List (List Ch)} (hM:big+10≤M) (hL:cO (cO Ch.ok) L):ak env (M+1) 10 [.sl 1 (aK L)]= .ok (.bool (OV L)):=by
 have hb:=hL.1
 obtain⟨m,rfl⟩:=dJ (show 1≤M by omega)
 rw[q10,aX (gJ (nD hL))]
 refine ad2 (N:=m) (DF (S:=fun i=>agP L (i:Nat)) (R:=⟨slots 19 [(2,.t (.bool false))],[]⟩) (X:=⟨slots 19 [(0,.t (.sl 1 (aK L)))],[]⟩) (id:=0) (fun l=> !X7 l) L (by omega) (fun j l hx=>?_) ?_ (acT (m+1) false) ((Wx (m+1) L).trans ?_))
 · have hj:=(List.getElem?_eq_some_iff.1 hx).1
   rw[ajA,decide_eq_true (by rw[List.length_map]; omega),cond_true,aA (vC hx),bJ (alU (by omega) (hL.2 _ (List.mem_of_getElem? hx))),wrap_succ (show j≤big by omega)]
 · rw[ajA,decide_eq_false (by rw[List.length_map]; omega)]; rfl
 · show rB _=rB _
   congr 1
   exact decide_eq_decide.2 (by rw[List.length_map]; omega)
theorem OO {M:Nat} {L K:List (List Ch)} (hM:big+15≤M) (hL:cO (cO Ch.ok) L) (hK:cO (cO Ch.ok) K):ak env (M+1) 15 [.sl 1 (aK L),.sl 1 (aK K)]= .ok (.bool (decide (L=K))):=by
 obtain⟨m,rfl⟩:=dJ (show 1≤M by omega)
 have hb:=hL.1
 rw[q15,aX (dM (nD hL) (nD hK)),←Ac (q:=fun a b=>decide (a=b)) (by simp) L K,List.length_map,List.length_map]
 by_cases h:L.length=K.length
 · rw[if_pos h,show((L.length:Int) !=(K.length:Int))=false by rw[h]; simp]
   simp only[cond_false]
   refine zZ (S:=fun i=>agS L K (i:Int)) (R:=⟨slots 27 [(4,.t (.bool false))],[]⟩) (X:=⟨slots 27 [],[]⟩) (id:=0) _ (by omega) h (fun j x y hx hy=>?_) ?_ (acW (m+1) false) (WA (m+1))
   · have hj:j < L.length:=(List.getElem?_eq_some_iff.1 hx).1
     rw[ajB,decide_eq_true (by rw[List.length_map]; omega)]
     simp only[cond_true]
     rw[aA (vC hx),aA (vC hy),bJ (alX (by omega) (hL.2 x (List.mem_of_getElem? hx)) (hK.2 y (List.mem_of_getElem? hy))),wrap_succ (show j≤big by omega)]
   · rw[ajB,decide_eq_false (by rw[List.length_map]; omega)]; rfl
 · rw[if_neg h,show((L.length:Int) !=(K.length:Int))=true by simp; omega]; rfl
theorem Uu {t:List Cf} {L:List (List Ch)} (ht:cO Cf.ok t) (hL:cO (cO Ch.ok) L) (h1:Jh t=true) (h2:OV L=true):Home t (TB t L)∧o8 (TB t L) L:=by
 have hbg:=aU
 unfold Jh at h1
 unfold OV at h2
 simp only[Bool.and_eq_true,Bool.not_eq_true',List.any_eq_false,decide_eq_true_eq] at h1 h2
 have a1:∀ c∈t,Nu c=true:=fun c hc=>by have:=h1.1 c hc; simpa using this
 have a2:∀ l∈L,X7 l=true:=fun l hl=>by have:=h2.1 l hl; simpa using this
 have b1:∀ c∈t,c.s.length≤20∧c.w.length≤20:=fun c hc=>by
  have:=a1 c hc
  unfold Nu at this
  simp only[Bool.and_eq_true,decide_eq_true_eq] at this
  omega
 have b2:∀ l∈L,l.length≤60:=fun l hl=>by
  have:=a2 l hl
  unfold X7 at this
  simp only[Bool.and_eq_true,decide_eq_true_eq] at this
  exact this.2
 have flat:∀ {α β:Type} (f:α→List β) (k:Nat) (m:List α),(∀ a∈m,(f a).length≤k)→(m.flatMap f).length≤m.length*k:=by
  intro α β f k m
  induction m with
  |nil=>intro _; simp
  |cons a m ih=>
   intro hm
   rw[List.flatMap_cons,List.length_append,List.length_cons,Nat.succ_mul]
   have:=ih fun l hl=>hm l (List.mem_cons_of_mem _ hl)
   have:=hm a List.mem_cons_self
   omega
 have c1:=flat Cf.w 20 t fun c hc=>(b1 c hc).2
 have c2:=flat (fun l=>l.map Ch.x) 60 L fun l hl=>by rw[List.length_map]; exact b2 l hl
 refine⟨⟨ht,fun c hc=>by have:=b1 c hc; omega,?_,fun x hx=>?_,fun c hc x hx=>List.mem_append_left _ (List.mem_flatMap.2 ⟨c,hc,hx⟩)⟩,fits_all t fun l hl=>(hL.2 l hl).2,hL.1⟩
 · unfold TB
   rw[List.length_append]; omega
 · rcases List.mem_append.1 hx with hx|hx
   · obtain⟨c,hc,h⟩:=List.mem_flatMap.1 hx
     exact(ht.2 c hc).w.2 x h
   · obtain⟨l,hl,h⟩:=List.mem_flatMap.1 hx
     obtain⟨e,he,rfl⟩:=List.mem_map.1 h
     exact((hL.2 l hl).2 e he).x
end
section
open Go.RowKit Go.Proofs
variable [Lv]
def adT (d:Nat→PV):St:=⟨[d 0,.ptr 0 0,.t (.sl 6 (tN.map Cf.t)),.t (.sl 1 (aK Fv)),.t (.bool true),.t (.sl 1 (ints [2,1,0])),.t (.bool true),d 7,d 8,d 9,d 10,d 11,d 12,d 13,d 14,d 15,d 16,d 17,d 18,d 19,d 20,d 21,d 22,d 23,d 24,d 25,d 26,d 27,d 28,d 29,d 30,d 31,d 32,d 33,d 34,d 35,d 36,d 37,d 38,d 39,d 40,d 41,d 42,d 43,d 44,d 45,d 46,d 47,d 48,d 49,d 50,d 51,d 52,d 53,d 54,d 55,d 56,d 57,d 58,d 59,d 60,d 61,d 62,d 63,d 64,d 65,d 66,d 67,d 68,d 69,d 70,d 71,d 72,d 73,d 74,d 75,d 76,d 77,d 78,d 79,d 80,d 81,d 82,d 83,d 84,d 85,d 86,d 87,d 88,d 89,d 90,d 91,d 92,d 93,d 94],[.box 25 2 (.t x3.t),.jT 25 2 [x3.t],.jT 67 3 [T.agg [i64 0,i64 1,i64 3],T.agg [i64 2,i64 1,i64 3]]]⟩
theorem aqI (N:Nat) (d:Nat→PV):y9 env N 8 5 (adT d)=iw N 21 [.sl 6 (tN.map Cf.t),.sl 1 (aK Fv)] fun b=>bif b then cl N 17 [.sl 6 (tN.map Cf.t)] fun x=>iw N 21 [.sl 6 (tN.map Cf.t),x] fun b=>bif !b then cl N 19 [.sl 6 (tN.map Cf.t),T.sl 1 (aK [])] fun x=>iO x fun n=>rB (n==3) else rB false else rB false:=by kernel_rfl
def aps (t:List Cf) (L K:List (List Ch)) (n:Int):St:=⟨slots 56 [(0,.t (.sl 6 (t.map Cf.t))),(1,.t (.sl 1 (aK L))),(5,.t (.bool true)),(8,.t (.sl 1 (aK K))),(10,.t (i64 n))],[]⟩
theorem q6 (N:Nat) (t:List Cf) (L:List (List Ch)):ak env (N+1) 6 [.sl 6 (t.map Cf.t),.sl 1 (aK L)]=W [.sl 6 (t.map Cf.t),.sl 1 (aK L)] (cl N 8 [] fun x=>iw N 9 [T.sl 6 (List.map Cf.t t)] fun b=>bif !b then ah.ok x else iw N 10 [T.sl 1 (aK L)] fun b=>bif !b then ah.ok x else cl N 25 [T.sl 6 (List.map Cf.t t)] fun x_1=>aG x_1 0 fun y=>aG x_1 1 fun y=>iT IntKind.i64 y fun a=>bif a !=0 then ah.ok x else cl N 11 [T.sl 6 (List.map Cf.t t)] fun x_2=>aG x_2 0 fun y=>aG x_2 1 fun y_1=>bC env N 6 9 {tmps:=slots 56 [(0,.t (.sl 6 (List.map Cf.t t))),(1,.t (.sl 1 (aK L))),(5,.t x),(8,.t y),(10,.t (i64 0))],heap:=[]}):=by kernel_rfl
def Yw (t:List Cf) (L:List (List Ch)) (i:Int):St:=⟨slots 98 [(0,.t (.sl 6 (t.map Cf.t))),(3,.t (.bool true)),(6,.t (.sl 1 (aK L))),(8,.t (i64 i))],[]⟩
def adW (t:List Cf) (L:List (List Ch)) (i k:Int):St:=⟨slots 98 [(0,.t (.sl 6 (t.map Cf.t))),(3,.t (.bool true)),(6,.t (.sl 1 (aK L))),(8,.t (i64 i)),(9,.t (i64 k))],[]⟩
theorem q5 (N:Nat) (t:List Cf):ak env (N+1) 5 [.sl 6 (t.map Cf.t)]=W [.sl 6 (t.map Cf.t)] (cl N 8 [] fun x=>iw N 9 [T.sl 6 (List.map Cf.t t)] fun b=>bif !b then ah.ok x else cl N 25 [T.sl 6 (List.map Cf.t t)] fun x_1=>aG x_1 0 fun y=>aG x_1 1 fun y=>cl N 11 [T.sl 6 (List.map Cf.t t)] fun x_2=>aG x_2 0 fun y_1=>aG x_2 1 fun nO=>iT IntKind.i64 y fun a=>bif a !=0 then bT x fun b=>bif b then cl N 21 [T.sl 6 (List.map Cf.t t),y_1] fun x=>match T.eX [1] [nO] [x] with|some b=>rB b|none=>ah.stuck else rB false else bT nO fun b=>bif !b then rB false else iw N 21 [T.sl 6 (List.map Cf.t t),y_1] fun b=>bif !b then rB false else iO y_1 fun n=>bif n !=(↑(List.map Cf.t t).length:Int) then rB false else bC env N 5 11 {tmps:=slots 98 [(0,.t (.sl 6 (List.map Cf.t t))),(3,.t x),(6,.t y_1),(8,.t (i64 0))],heap:=[]}):=by kernel_rfl
def RJ (t:List Cf) (L:List (List Ch)) (x:Px) (h:List Int) (k:Int):St:=⟨slots 196 [(0,.t (.sl 6 (t.map Cf.t))),(5,.ptr 0 0),(7,.t (.bool true)),(10,.t (.sl 1 (aK L))),(12,.t (.sl 1 (ints h))),(16,.t (i64 k))],[.box 25 2 (.t x.t)]⟩
def adU (t:List Cf) (L:List (List Ch)) (x:Px) (h:List Int) (k j:Int):St:=⟨slots 196 [(0,.t (.sl 6 (t.map Cf.t))),(5,.ptr 0 0),(7,.t (.bool true)),(10,.t (.sl 1 (aK L))),(12,.t (.sl 1 (ints h))),(16,.t (i64 k)),(17,.t (i64 j))],[.box 25 2 (.t x.t)]⟩
def Yt (t:List Cf) (L K:List (List Ch)) (i:Int):St:=⟨slots 126 [(0,.t (.sl 6 (t.map Cf.t))),(1,.t (.sl 1 (aK L))),(5,.t (.bool true)),(6,.t (.sl 1 (aK K))),(7,.t (i64 i))],[]⟩
def Yu (t:List Cf) (L K:List (List Ch)) (i k:Int):St:=⟨slots 126 [(0,.t (.sl 6 (t.map Cf.t))),(1,.t (.sl 1 (aK L))),(5,.t (.bool true)),(6,.t (.sl 1 (aK K))),(7,.t (i64 i)),(8,.t (i64 k))],[]⟩
theorem q4 (N:Nat) (t:List Cf) (L:List (List Ch)):ak env (N+1) 4 [.sl 6 (t.map Cf.t),.sl 1 (aK L)]=W [.sl 6 (t.map Cf.t),.sl 1 (aK L)] (cl N 8 [] fun x=>iw N 9 [T.sl 6 (List.map Cf.t t)] fun b=>bif !b then ah.ok x else iw N 10 [T.sl 1 (aK L)] fun b=>bif !b then ah.ok x else cl N 19 [T.sl 6 (List.map Cf.t t),T.sl 1 (aK L)] fun x_1=>bif decide ((↑(List.map Cf.t t).length:Int) > 8) then bT x fun b=>bif b then iO x_1 fun n=>bif n==0 then cl N 17 [T.sl 6 (List.map Cf.t t)] fun x=>iO x fun n=>rB (n==0) else rB false else rB false else iO x_1 fun n=>bif n !=(↑(List.map Cf.t t).length:Int) then rB false else iw N 21 [T.sl 6 (List.map Cf.t t),T.sl 1 (aK L)] fun b=>bif b then iw N 15 [x_1,T.sl 1 (aK L)] fun b=>bif !b then rB false else bC env N 4 10 {tmps:=slots 126 [(0,.t (.sl 6 (List.map Cf.t t))),(1,.t (.sl 1 (aK L))),(5,.t x),(6,.t x_1),(7,.t (i64 0))],heap:=[]} else bC env N 4 10 {tmps:=slots 126 [(0,.t (.sl 6 (List.map Cf.t t))),(1,.t (.sl 1 (aK L))),(5,.t x),(6,.t x_1),(7,.t (i64 0))],heap:=[]}):=by kernel_rfl
theorem aqz (N:Nat) (t:List Cf) (L:List (List Ch)) (i:Int) (x:Px) (Kc:St→ah T):Nk env N 3 0 8 (oq env 3 [.t (.sl 6 (t.map Cf.t)),.t (.sl 1 (aK L)),.t (i64 i),.t (x.t)]) Kc=cl N 8 [] fun x_1=>cl N 9 [T.sl 6 (List.map Cf.t t)] fun x_2=>bT x_2 fun b=>bif !b then ah.ok x_1 else cl N 10 [T.sl 1 (aK L)] fun x_3=>bT x_3 fun b_1=>bif !b_1 then ah.ok x_1 else cl N 11 [T.sl 6 (List.map Cf.t t)] fun VA=>aG VA 0 fun y=>aG VA 1 fun y_1=>cl N 12 [T.sl 6 (List.map Cf.t t)] fun NK=>aG NK 0 fun nO=>aG NK 1 fun xu=>cl N 13 [T.sl 6 (List.map Cf.t t),T.sl 1 (aK L),i64 i,x.t] fun x_6=>aG x_6 0 fun y_4=>aG x_6 1 fun y_5=>cl N 14 [T.sl 6 (List.map Cf.t t),T.sl 1 (aK L),i64 i,x.t] fun x_7=>aG x_7 0 fun y_6=>aG x_7 1 fun y_7=>Kc {tmps:=[PV.t (.sl 6 (List.map Cf.t t)),.t (.sl 1 (aK L)),.t (i64 i),.t x.t,.au [],.au [],.au [],.ptr 0 0,.t (.bool false),.t x_1,.t y,.t y_1,.t nO,.t xu,.t y_4,.t y_5,.t y_6,.t y_7,.t x_1,.t (.sl 6 (List.map Cf.t t)),.t x_2,.t (.bool !b),.t (.bool false),.t (.sl 1 (aK L)),.t x_3,.t (.bool !b_1),.t (.bool !b_1),.au [],.t VA,.t (.sl 6 (List.map Cf.t t)),.t VA,.t y,.t y_1,.t NK,.t (.sl 6 (List.map Cf.t t)),.t NK,.t nO,.t xu,.t x_6,.t (.sl 6 (List.map Cf.t t)),.t (.sl 1 (aK L)),.t (i64 i),.t x.t,.t x_6,.t y_4,.t y_5,.t x_7,.t (.sl 6 (List.map Cf.t t)),.t (.sl 1 (aK L)),.t (i64 i),.t x.t,.t x_7,.t y_6,.t y_7,.au [],.au [],.au [],.au [],.au [],.au [],.au [],.au [],.au [],.au [],.au [],.au [],.au [],.au [],.au [],.au [],.au [],.au [],.au [],.au [],.au [],.au [],.au [],.au [],.au [],.au [],.au [],.au [],.au [],.au [],.au [],.au [],.au [],.au [],.au [],.au [],.au [],.au [],.au [],.au [],.au [],.au [],.au [],.au [],.au [],.au []],heap:=[aj.box 25 2 (.t x.t)]}:=by kernel_rfl
end
section
open Go.RowKit Go.Proofs
theorem aaz:TG 3 [x3] EN=tN:=by kernel_rfl
theorem Vt:uZ tN=(Fv,true):=by kernel_rfl
theorem afB:rZ tN Fv 2 x3=([2,1,0],true):=by kernel_rfl
theorem aiG:nP tN Fv=true:=by kernel_rfl
theorem aiH:nP tN (oP tN)=false:=by kernel_rfl
theorem aiF:Jh tN=true:=by kernel_rfl
theorem akD:cO Px.ok [x3]:=⟨by show 1≤big; decide,fun y hy=>by rw[List.mem_singleton.1 hy]; exact⟨rfl,rfl⟩⟩
theorem afH:cO Lk.ok EN:=⟨by show 2≤big; decide,fun y hy=>by
 simp only[EN,List.mem_cons,List.not_mem_nil,or_false] at hy
 rcases hy with rfl|rfl<;>exact⟨rfl,rfl,rfl⟩⟩
theorem aiQ:cO Cf.ok tN:=by
 have hb:=aU
 obtain⟨h1,h8⟩:=VX 3
 have h:=JR (m:=yZ 3) EN (UY akD h8) (show 0+EN.length≤big by show 2≤big; decide)
 rw[←aaz]
 exact⟨by rw[show TG 3 [x3] EN=EN.foldl uh ((List.range (yZ 3)).map (sF [x3])) from rfl,h.1]; omega,fun c hc=>(h.2 c hc).1⟩
theorem Ah:Home tN (TB tN []):=(Uu (L:=[]) aiQ ⟨Nat.zero_le _,fun l hl=>(by cases hl)⟩ aiF rfl).1
theorem aj6:o8 (TB tN []) Fv:=by
 have:=Ah.from_ Ah.first (jQ tN.length)
 have e:(lI tN (jQ tN.length) (oP tN)).1=Fv:=congrArg Prod.fst Vt
 rw[e] at this
 exact this
theorem VE {m:Nat} {d:Nat→PV} (hM:big+300≤m):y9 env m 8 5 (adT d)= .ok (.bool true):=by
 obtain⟨m,rfl⟩:=dJ (show 1≤m by omega)
 refine(aqI (m+1) d).trans ?_
 rw[bJ (Ah.fixed aj6 (by omega)),aiG,cond_true,aH (XA (by omega) Ah.ft Ah.sides),bJ (Ah.fixed Ah.first (by omega)),aiH,Bool.not_false,cond_true,aH (Ah.nexts ⟨⟨by simp,by simp,by simp⟩,Nat.zero_le _⟩ (by omega))]
 simp only[iO]
 have:(aK (nextR tN [])).length=3:=by rw[D9,sV (by decide)]; rfl
 rw[this]; rfl
theorem aoT {M:Nat} (hM:big+310≤M):ak env (M+1) 8 []= .ok (.bool true):=by
 obtain⟨m,rfl⟩:=dJ (show 1≤M by omega)
 refine(Dc rfl rfl).trans ?_
 refine(FT 5).trans ?_
 have key:∀ Kc:St→ah T,(∀ st:St,st=adT (fun i=>st.tmps.getD i .junk)→Kc st= .ok (.bool true))→Nk env (m+1) 8 0 5 (oq env 8 []) Kc= .ok (.bool true):=fun Kc hKc=>?_
 · exact key _ fun st hst=>by rw[hst]; exact VE (by omega)
 refine(aqA (m+1) Kc).trans ?_
 refine Eq.trans (show _=cl (m+1) 32 [i64 3,.sl 2 ([x3].map Px.t),.sl 3 (EN.map Lk.t)] _ from rfl) ?_
 rw[aH (alS rfl akD afH (show(2+1)*64≤big by decide) rfl),aaz,aH (Ah.stable (by omega)),Vt]
 simp only[aG,List.getElem?_cons_zero,List.getElem?_cons_succ]
 refine Eq.trans (show _=cl (m+1) 13 [.sl 6 (tN.map Cf.t),.sl 1 (aK Fv),i64 2,x3.t] _ from rfl) ?_
 rw[aH (aez (by omega) (Ah.room aj6) rfl ⟨rfl,rfl⟩),afB]
 simp only[aG,List.getElem?_cons_zero,List.getElem?_cons_succ]
 exact hKc _ rfl
end
end Go.aT
