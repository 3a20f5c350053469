/- The texts of a proof, one behind the other: an interpreter and its soundness, what the functions of the program answer, and plain laws on that. -/
import Derived.Test.YtjlpnhpfbgbkhaaGreatX9
import Derived.Test.YtjlpnhpfbgbkhaaGreatX11
import Derived.Test.YtjlpnhpfbgbkhaaGreatX1
import Derived.Test.YtjlpnhpfbgbkhaaGreatX7
import Derived.Test.YtjlpnhpfbgbkhaaGreatK10
set_option linter.unusedVariables false
set_option linter.unusedSimpArgs false
set_option linter.unnecessarySimpa false
set_option linter.unusedSectionVars false
set_option maxRecDepth 100000
namespace Go.aP
section
open Go.RowKit Go.Proofs
def Yg (t:List Cf) (q:Nat→Nat→List En):List (List Ch):=if t.length≤8 then t.zipIdx.map fun p=>kH p.1 ((List.range p.1.s.length).map (q p.2)) else[]
theorem O4 (t:List Cf) (L:List (List Ch)):Yg t (pO t L)=nextR t L:=rfl
theorem YZ (t:List Cf):Yg t (fun _ _=>[])=oh t:=by
 rw[←EH,←O4]
 congr 1
 funext i k
 rw[VI]
def EN (q:Nat→List En) (n k:Nat):List T:=(List.range n).map fun j=>if j < k then .sl 6 ((q j).map En.t) else .sl 6 []
theorem Vs (q:Nat→List En) (n k:Nat):(EN q n k).length=n:=by simp[EN]
theorem af4 {q:Nat→List En} {n k:Nat} (hk:k < n):(EN q n k).set k (.sl 6 ((q k).map En.t))=EN q n (k+1):=by
 refine List.ext_getElem? fun j=>?_
 rw[List.getElem?_set]
 simp only[Vs]
 unfold EN
 by_cases h:k=j
 · subst h; rw[if_pos rfl,if_pos hk]; simp[hk]
 · rw[if_neg h]
   by_cases hj:j < n
   · simp only[List.getElem?_map,List.getElem?_range hj,Option.map_some]
     by_cases h1:j < k
     · rw[if_pos h1,if_pos (by omega)]
     · rw[if_neg h1,if_neg (by omega)]
   · simp[hj]
theorem acz (q:Nat→List En) (n:Nat):EN q n 0=List.replicate n (.sl 6 []):=by
 refine List.ext_getElem? fun j=>?_
 unfold EN
 rw[List.getElem?_replicate]
 by_cases hj:j < n<;>simp[hj]
theorem af2 (q:Nat→List En) (n:Nat):EN q n n=gZ ((List.range n).map q):=by
 unfold EN gZ
 rw[List.map_map]
 exact List.map_congr_left fun j hj=>by rw[if_pos (List.mem_range.1 hj)]; rfl
theorem wY (k:Nat) {i:Nat}:dI (fun _=>false) i k=none:=by
 induction k generalizing i with
 |zero=>rfl
 |succ k ih=>unfold dI; exact ih
theorem abA {c:Cf} {q:Nat→List En} (h1:c.s.length≤1000) (h2:c.w.length≤1000) (hq:∀ k,(q k).length≤1000):zH c ((List.range c.s.length).map q):=by
 have hbg:=aQ
 unfold zH iZ
 rw[List.length_append]
 have main:∀ m:List (List En),(∀ l∈m,l.length≤1000)→(m.flatMap fun l=>l.map En.x).length≤m.length*1000:=by
  intro m
  induction m with
  |nil=>intro _; simp
  |cons a m ih=>
   intro hm
   rw[List.flatMap_cons,List.length_append,List.length_map,List.length_cons,Nat.succ_mul]
   have:=ih fun l hl=>hm l (List.mem_cons_of_mem _ hl)
   have:=hm a List.mem_cons_self
   omega
 have:=main (((List.range c.s.length).map q).take c.s.length) fun l hl=>by
  obtain⟨k,_,rfl⟩:=List.mem_map.1 (List.mem_of_mem_take hl)
  exact hq k
 have h3:(((List.range c.s.length).map q).take c.s.length).length≤1000:=by rw[List.length_take]; omega
 omega
theorem ahp {m i:Nat} {t:List Cf} {f:FuncId} {cs ys:List T} {q:Nat→List En} {c:Cf} (hM:big+50≤m+1) (hm:env.mode f=0) (hco:c.ok) (h1:c.s.length≤1000) (h2:c.w.length≤1000)
 (hq:∀ k:Nat,k≤1000→ak env (m+1) f ([i64 (i:Int),i64 (k:Int)]++cs)= .ok (.sl 6 ((q k).map En.t))) (ho:∀ k,bZ En.ok (q k)∧(q k).length≤1000) (hy:(ys.length+1)*24≤140737488355328) (hi:i≤1000):
 nY env (m+1) 42 5 9 (agC (.fn f [] cs) t ys i c (EN q c.s.length 0) c.s.length (0:Nat))= .ok (.norm,acD (.fn f [] cs) t (ys++ [.sl 8 ((kH c ((List.range c.s.length).map q)).map Ch.t)]) (i+1:Nat)):=by
 have hbg:=aQ
 have it:=fH (B:=nR env (m+1) 42 0 5 9) (S:=fun k=>agC (.fn f [] cs) t ys i c (EN q c.s.length k) c.s.length k) (R:=fun _=>⟨[],[]⟩) (X:=⟨slots 45 [(1,.t (.fn f [] cs)),(5,.own 0),(7,.ptr 1 0),(8,.own 2),(13,.t (.sl 6 (t.map Cf.t))),(14,.t (i64 (t.map Cf.t).length)),(15,.t (i64 i))],[.row 40 1 ys,.box 56 6 (.t c.t),.row 75 1 (EN q c.s.length c.s.length)]⟩) (id:=2) (fun _=>false) c.s.length 0 (m+1) (by omega)
  (fun k _ hk hp=>by cases hp)
  (fun k _ hk hp=>by
   rw[aak,decide_eq_true (by omega),cond_true,(lS hm:oN env (aK env (m+1)) (.fn f [] cs) _ _=_)]
   rw[List.nil_append,aF (hq k (by omega)),Vs,decide_eq_true (show(0:Int)≤(k:Int) by omega),decide_eq_true (show(k:Int) < (c.s.length:Int) by omega),Int.toNat_natCast,af4 (by omega),wrap_succ (show k≤big by omega)]
   rfl)
  (by rw[Nat.zero_add,aak,decide_eq_false (by omega)]; rfl)
 rw[wY] at it
 refine(kU it).trans ((OG (m+1) _ t ys i c _).trans ?_)
 have ht:FH ((List.range c.s.length).map q):=⟨by rw[List.length_map,List.length_range]; omega,fun l hl=>by
  obtain⟨k,_,rfl⟩:=List.mem_map.1 hl
  exact(ho k).1⟩
 rw[af2,aF (alB hco ht (abA h1 h2 fun k=>(ho k).2)),wrap_succ (show i≤big by omega)]
 show chk true (chk _ _)=_
 rw[decide_eq_true hy]
 rfl
theorem aeB {M:Nat} {t:List Cf} {f:FuncId} {cs:List T} {q:Nat→Nat→List En} (hM:big+60≤M) (ht:bZ Cf.ok t) (hs:∀ c∈t,c.s.length≤1000∧c.w.length≤1000) (hcs:T.wfs cs=true) (hm:env.mode f=0)
 (hq:∀ i k:Nat,i < t.length→k≤1000→ak env M f ([i64 (i:Int),i64 (k:Int)]++cs)= .ok (.sl 6 ((q i k).map En.t))) (ho:∀ i k,bZ En.ok (q i k)∧(q i k).length≤1000):ak env (M+1) 42 [.sl 6 (t.map Cf.t),.fn f [] cs]= .ok (.sl 1 (dH (Yg t q))):=by
 obtain⟨m,rfl⟩:=dL (show 1≤M by omega)
 have hbg:=aQ
 have htb:=ht.1
 rw[q42,aZ (dN (ku ht) (xu hcs))]
 unfold Yg
 by_cases h8:t.length≤8
 case neg=>rw[if_neg h8,decide_eq_true (by rw[List.length_map]; omega)]; rfl
 rw[if_pos h8,decide_eq_false (by rw[List.length_map]; omega),cond_false]
 have hz:t.zipIdx.length=t.length:=List.length_zipIdx
 have it:=fH (B:=aH env (m+1) 42 0 5) (S:=fun i=>acD (.fn f [] cs) t (dH ((t.zipIdx.take i).map fun p=>kH p.1 ((List.range p.1.s.length).map (q p.2)))) i) (R:=fun _=>⟨[],[]⟩) (X:=⟨slots 45 [(5,.own 0)],[.row 40 1 (dH (t.zipIdx.map fun p=>kH p.1 ((List.range p.1.s.length).map (q p.2))))]⟩) (id:=0) (fun _=>false) t.length 0 (m+1) (by omega)
  (fun k _ hk hp=>by cases hp)
  (fun i _ hi hp=>by
   have hc:t[i]? =some t[i]:=List.getElem?_eq_getElem (by omega)
   have hzi:t.zipIdx[i]? =some (t[i],i):=by rw[List.getElem?_zipIdx,hc]; simp
   have hco:=ht.2 _ (List.mem_of_getElem? hc)
   obtain⟨g1,g2⟩:=hs _ (List.mem_of_getElem? hc)
   have htk:t.zipIdx.take (i+1)=t.zipIdx.take i++ [(t[i],i)]:=by rw[List.take_add_one,hzi]; rfl
   have hlen:(dH ((t.zipIdx.take i).map fun p=>kH p.1 ((List.range p.1.s.length).map (q p.2)))).length≤i:=by
    rw[xW,List.length_map,List.length_take]; omega
   rw[htk,List.map_append]
   rw[show dH ((t.zipIdx.take i).map (fun p=>kH p.1 ((List.range p.1.s.length).map (q p.2)))++ [(t[i],i)].map fun p=>kH p.1 ((List.range p.1.s.length).map (q p.2)))=dH ((t.zipIdx.take i).map fun p=>kH p.1 ((List.range p.1.s.length).map (q p.2)))++ [.sl 8 ((kH t[i] ((List.range t[i].s.length).map (q i))).map Ch.t)] from List.map_append]
   generalize dH ((t.zipIdx.take i).map fun p=>kH p.1 ((List.range p.1.s.length).map (q p.2)))=ys at hlen
   generalize t[i]=c at hc hco g1 g2
   rw[ajo,decide_eq_true (by rw[List.length_map]; omega),cond_true,aA (aC hc)]
   rw[show(c.t.cells.length==6&& !c.t.aV)=true from rfl,aI,Uc]
   simp only[gY]
   rw[decide_eq_true (show(0:Int)≤((c.s.map Sd.t).length:Int) by omega),decide_eq_true (Int.le_refl _),Int.toNat_natCast,decide_eq_true (show(c.s.map Sd.t).length*24≤140737488355328 by rw[List.length_map]; omega)]
   simp only[Bool.and_self,aI]
   have e1:=ahp (m:=m) (i:=i) (t:=t) (f:=f) (cs:=cs) (ys:=ys) (q:=q i) (c:=c) (by omega) hm hco g1 g2 (fun k hk=>hq i k (by omega) hk) (ho i) (by omega) (by omega)
   rw[acz] at e1
   rw[List.length_replicate,show(c.s.map Sd.t).length=c.s.length from List.length_map _]
   exact e1)
  (by rw[Nat.zero_add,ajo,decide_eq_false (by rw[List.length_map]; omega),←hz,List.take_length]; rfl)
 rw[wY] at it
 exact(aU it).trans (Xa (m+1) _)
theorem aey {M:Nat} {t:List Cf} {L:List (List Ch)} (hM:big+65≤M) (h:wJ t L):ak env (M+1) 19 [.sl 6 (t.map Cf.t),.sl 1 (dH L)]= .ok (.sl 1 (dH (nextR t L))):=by
 obtain⟨m,rfl⟩:=dL (show 1≤M by omega)
 obtain⟨m,rfl⟩:=dL (show 1≤m by omega)
 rw[q19,aZ (dN (ku h.ft) (qh h.fL)),←O4]
 rw[aF (aeB (q:=pO t L) (by omega) h.ft h.sides (by
  have h3:=lG (ku h.ft); have h4:=lG (qh h.fL)
  simp only[T.wfs,h3,h4,Bool.and_self]) rfl (fun i k hi hk=>alp (by omega) h hi hk) fun i k=>h.side i k)]
theorem Pm {M:Nat} {t:List Cf} (hM:big+65≤M) (ht:bZ Cf.ok t) (hs:∀ c∈t,c.s.length≤1000∧c.w.length≤1000):ak env (M+1) 17 [.sl 6 (t.map Cf.t)]= .ok (.sl 1 (dH (oh t))):=by
 obtain⟨m,rfl⟩:=dL (show 1≤M by omega)
 obtain⟨m,rfl⟩:=dL (show 1≤m by omega)
 have hbg:=aQ
 have htb:=ht.1
 rw[q17,aZ (gQ (ku ht)),←YZ]
 rw[aF (aeB (q:=fun _ _=>[]) (by omega) ht hs rfl rfl (fun i k hi hk=>alo (iR (by omega)) (iR (by omega))) fun i k=>⟨⟨Nat.zero_le _,by simp⟩,Nat.zero_le _⟩)]
theorem alr {M:Nat} {L K:List (List Ch)} (hM:big+15≤M) (hL:bZ (bZ Ch.ok) L) (hK:bZ (bZ Ch.ok) K):ak env (M+1) 48 [.sl 1 (dH L),.sl 1 (dH K),.fn 49 [] []]= .ok (.bool (decide (L=K))):=by
 obtain⟨m,rfl⟩:=dL (show 1≤M by omega)
 have hb:=hL.1
 rw[q48,aZ (BP (qh hL) (qh hK) (Jb _)),←EO (q:=fun a b=>decide (a=b)) (by simp) L K,List.length_map,List.length_map]
 by_cases h:L.length=K.length
 · rw[if_pos h,show((L.length:Int) !=(K.length:Int))=false by rw[h]; simp]
   simp only[cond_false]
   refine EK (S:=fun i=>agD L K (.fn 49 [] []) (i:Int)) (R:=⟨slots 32 [(6,.t (.bool false))],[]⟩) (X:=⟨slots 32 [],[]⟩) (id:=0) _ (by omega) h (fun j x y hx hy=>?_) ?_ (adb (m+1) false) (Xe (m+1))
   · have hj:j < L.length:=(List.getElem?_eq_some_iff.1 hx).1
     rw[ajs,decide_eq_true (by rw[List.length_map]; omega)]
     simp only[cond_true]
     rw[aA (jL hx),aA (jL hy),Au rfl (als (by omega) (hL.2 x (List.mem_of_getElem? hx)) (hK.2 y (List.mem_of_getElem? hy))),jV,wrap_succ (show j≤big by omega)]
   · rw[ajs,decide_eq_false (by rw[List.length_map]; omega)]; rfl
 · rw[if_neg h,show((L.length:Int) !=(K.length:Int))=true by simp; omega]; rfl
theorem alf {M:Nat} {t:List Cf} {L:List (List Ch)} (hM:big+67≤M) (h:wJ t L) (h':bZ (bZ Ch.ok) (nextR t L)):ak env (M+1) 21 [.sl 6 (t.map Cf.t),.sl 1 (dH L)]= .ok (.bool (lV t L)):=by
 obtain⟨m,rfl⟩:=dL (show 1≤M by omega)
 rw[q21,aZ (dN (ku h.ft) (qh h.fL))]
 unfold lV
 by_cases h8:t.length≤8
 · rw[decide_eq_true (show((t.map Cf.t).length:Int)≤8 by rw[List.length_map]; omega),decide_eq_true h8,cond_true,aF (aey (by omega) h),aF (alr (by omega) h' h.fL),Bool.true_and]
 · rw[decide_eq_false (show ¬ ((t.map Cf.t).length:Int)≤8 by rw[List.length_map]; omega),decide_eq_false h8]; rfl
end
section
open Go.RowKit Go.Proofs
structure Home (t:List Cf) (U:List Px):Prop where
 ft:bZ Cf.ok t
 sides:∀ c∈t,c.s.length≤1000∧c.w.length≤1000
 small:U.length≤1000
 okU:∀ x∈U,x.ok
 own:∀ c∈t,∀ x∈c.w,x∈U
def nX (U:List Px) (L:List (List Ch)):Prop:=BQ U L∧L.length≤big
theorem Home.room {t:List Cf} {U:List Px} (h:Home t U) {L:List (List Ch)} (hL:nX U L):wJ t L where
 ft:=h.ft
 fL:=⟨hL.2,fun l hl=>⟨by have:=hL.1.len l hl; have:=h.small; have:=aQ; omega,hL.1.ok l hl⟩⟩
 sides:=h.sides
 chs l hl:=Nat.le_trans (hL.1.len l hl) h.small
theorem Home.next {t:List Cf} {U:List Px} (h:Home t U) {L:List (List Ch)} (hL:nX U L):nX U (nextR t L):=by
 refine⟨ab7 h.ft.2 h.okU h.own hL.1,?_⟩
 by_cases h8:t.length≤8
 · rw[pz h8]; have:=aQ; omega
 · unfold nextR; rw[if_neg h8]; exact Nat.zero_le _
theorem Home.first {t:List Cf} {U:List Px} (h:Home t U):nX U (oh t):=by
 rw[←EH]
 exact h.next ⟨⟨by simp,by simp,by simp⟩,Nat.zero_le _⟩
theorem Home.it {t:List Cf} {U:List Px} (h:Home t U) {L:List (List Ch)} (hL:nX U L):∀ s,nX U (yY (nextR t) s L)
 |0=>hL
 |s+1=>h.next (h.it hL s)
theorem Home.from_ {t:List Cf} {U:List Px} (h:Home t U) {L:List (List Ch)} (hL:nX U L) (n:Nat):nX U (lM t n L).1:=by
 obtain⟨s,_,e⟩:=aaG t n L
 rw[e]; exact h.it hL s
theorem Home.fixed {t:List Cf} {U:List Px} (h:Home t U) {L:List (List Ch)} (hL:nX U L) {M:Nat} (hM:big+67≤M):ak env (M+1) 21 [.sl 6 (t.map Cf.t),.sl 1 (dH L)]= .ok (.bool (lV t L)):=
 alf hM (h.room hL) (h.room (h.next hL)).fL
theorem Home.nexts {t:List Cf} {U:List Px} (h:Home t U) {L:List (List Ch)} (hL:nX U L) {M:Nat} (hM:big+67≤M):ak env (M+1) 19 [.sl 6 (t.map Cf.t),.sl 1 (dH L)]= .ok (.sl 1 (dH (nextR t L))):=
 aey (by omega) (h.room hL)
theorem IJ {t:List Cf} {U:List Px} (h:Home t U):∀ (n:Nat) (L:List (List Ch)) (M:Nat),n≤1000→nX U L→big+80+n≤M→iY env (M+1) (acp t L n (.sl 1 (dH (lM t n L).1)) (lM t n L).2)
 |0,L,M,_,hL,hM=>by
  obtain⟨m,rfl⟩:=dL (show 1≤M by omega)
  refine jZ (ps:=[]) trivial ?_
  refine(aeS (m+1) t L ((0:Nat):Int) _).trans ?_
  rw[aF (h.fixed hL (by omega))]
  simp only[bT]
  unfold lM
  cases lV t L<;>rfl
 |n+1,L,M,hn,hL,hM=>by
  have hbg:=aQ
  obtain⟨m,rfl⟩:=dL (show 1≤M by omega)
  by_cases hf:lV t L=true
  · refine jZ (ps:=[]) trivial ?_
    refine(aeS (m+1) t L ((n+1:Nat):Int) _).trans ?_
    rw[aF (h.fixed hL (by omega)),hf]
    unfold lM
    rw[if_pos hf]; rfl
  · have hw:IntKind.i64.wrap (((n+1:Nat):Int) - 1)=(n:Int):=by rw[wrap64 (by omega)]; omega
    have ih:=IJ h n (nextR t L) m (by omega) (h.next hL) (by omega)
    have e:lM t (n+1) L=lM t n (nextR t L):=by
     show(if lV t L=true then(L,true) else lM t n (nextR t L))=_
     rw[if_neg hf]
    rw[e]
    generalize lM t n (nextR t L)=r at ih
    refine jZ (ps:=[acp t (nextR t L) (IntKind.i64.wrap (((n+1:Nat):Int) - 1)) (.sl 1 (dH r.1)) r.2]) ⟨by rw[hw]; exact ih,trivial⟩ ?_
    refine(aqz (m+1) t L (nextR t L) ((n+1:Nat):Int) (.sl 1 (dH r.1)) r.2 _).trans ?_
    rw[aF (h.fixed hL (by omega))]
    rw[show lV t L=false by simpa using hf]
    simp only[bT,cond_false]
    rw[beq_eq_false_iff_ne.2 (show((n+1:Nat):Int)≠0 by omega),cond_false,aF (h.nexts hL (by omega))]
    exact mD ⟨rfl,trivial⟩
theorem JY (n:Nat):jD n≤170:=by
 unfold jD
 have:min n 8≤8:=Nat.min_le_right _ _
 generalize min n 8=q at this
 have h9:∀ q:Nat,q≤8→2*q*q+4*q+10≤170:=by decide
 exact h9 q this
theorem Home.stable {t:List Cf} {U:List Px} (h:Home t U) {M:Nat} (hM:big+260≤M):ak env (M+1) 11 [.sl 6 (t.map Cf.t)]= .ok (.au [.sl 1 (dH (iL t).1),.bool (iL t).2]):=by
 obtain⟨m,rfl⟩:=dL (show 1≤M by omega)
 have hbg:=aQ
 have hbl:=JY t.length
 have htb:=h.ft.1
 refine lT (ps:=[acp t (oh t) (jD t.length) (.sl 1 (dH (iL t).1)) (iL t).2]) ⟨IJ h _ _ m (by omega) h.first (by omega),trivial⟩ (gQ (ku h.ft)) rfl ?_
 refine(aqA (m+1) t (oh t) (jD t.length) _ _).trans ?_
 rw[aF (Pm (by omega) h.ft h.sides),show(((t.map Cf.t).length:Nat):Int)=(t.length:Int) by rw[List.length_map],aF (aez htb)]
 exact mD ⟨rfl,rfl⟩
def oL (ys:List Nat):List Int:=ys.map fun(n:Nat)=>(n:Int)
def CQ (t:List Cf) (L:List (List Ch)) (x:Px):Nat→List Nat→Nat→List Nat×Bool
 |0,ys,_=>(ys,false)
 |d+1,ys,i=>match mW (L.getD i []) x with
  |none=>(ys,false)
  |some r=>if r.f < 0 then(ys,true) else match iI t i r.f with
   |none=>(ys,false)
   |some (j,_)=>if ys.length=8 then(ys,false) else CQ t L x d (ys++ [j]) j
def yc (t:List Cf) (L:List (List Ch)) (i:Int) (x:Px):List Nat×Bool:=if 0≤i∧i < t.length∧t.length≤8 then CQ t L x 9 [i.toNat] i.toNat else([],false)
theorem alR {t:List Cf} {i:Nat} {k:Int} {p:Nat×Nat} (h:iI t i k=some p):p.1 < t.length:=by
 unfold iI at h
 split at h
 · split at h
   · split at h
     · split at h
       · split at h
         · rename_i d hd
           obtain⟨m',h1,h2⟩:=Option.map_eq_some_iff.1 h
           rw[←h2]
           exact(List.getElem?_eq_some_iff.1 hd).1
         · cases h
       · cases h
     · cases h
   · cases h
 · cases h
theorem DJ {l:List Ch} {x:Px} {r:Rt} (h:mW l x=some r):∃ e∈l,e.r=r∧e.x=x:=by
 unfold mW at h
 obtain⟨e,h1,h2⟩:=Option.map_eq_some_iff.1 h
 exact⟨e,List.mem_of_find?_eq_some h1,h2,by simpa using List.find?_some h1⟩
theorem PU {m:Nat} {t:List Cf} {L:List (List Ch)} {x:Px} (hM:big+40≤m) (h:wJ t L) (hx:x.ok):∀ (d i:Nat) (ys:List Nat) (n:Nat),9≤ys.length+d→ys.length≤8→i < t.length→d < n→
 bH (aH env (m+1) 13 0 4) n (YD t L i x (oL ys))= .ok (.ret,⟨slots 69 [(8,.own 0),(9,.t (.bool (CQ t L x d ys i).2))],[.row 3 1 (ints (oL (CQ t L x d ys i).1))]⟩)
 |0,i,ys,n,h9,h8,_,_=>by omega
 |d+1,i,ys,n+1,h9,h8,hi,hn=>by
  have hbg:=aQ
  have htb:=h.ft.1
  obtain⟨g1,g2⟩:=h.at i
  have hb:aH env (m+1) 13 0 4 (YD t L i x (oL ys))=_:=an8 (m+1) t L i x (oL ys)
  rw[aF (aeA h.fL (by omega)),aF (Fg (by omega) g1 hx)] at hb
  unfold CQ
  cases hg:mW (L.getD i []) x with
  |none=>
   rw[hg] at hb
   exact eF hb
  |some r=>
   rw[hg] at hb
   have hro:r.ok:=by
    obtain⟨e,he,h1,_⟩:=DJ hg
    rw[←h1]; exact(g1.2 e he).r
   simp only[BJ,aG,List.getElem?_cons_zero,List.getElem?_cons_succ,bT,Bool.not_true,cond_false] at hb
   rw[oz,aI,show r.t.ay 5 1 false=i64 r.f from rfl] at hb
   simp only[bW] at hb
   by_cases hf:r.f < 0
   · rw[decide_eq_true hf,cond_true] at hb
     simp only[]
     rw[if_pos hf]
     exact eF hb
   · rw[decide_eq_false hf,cond_false,aF (Pn (by omega) h.ft (iR (by omega)) hro.f)] at hb
     simp only[]
     rw[if_neg hf]
     cases hfr:iI t i r.f with
     |none=>
      rw[hfr] at hb
      exact eF hb
     |some p=>
      rw[hfr] at hb
      obtain⟨j,k⟩:=p
      have hj:=alR hfr
      simp only[Yk,Et,Eu,Option.map_some,Option.getD_some,aG,List.getElem?_cons_zero,List.getElem?_cons_succ,Option.isSome_some,bT,Bool.not_true,cond_false] at hb
      simp only[]
      have hyl:((ints (oL ys)).length:Int)=(ys.length:Int):=by simp[ints,oL]
      rw[hyl] at hb
      by_cases h88:ys.length=8
      · rw[if_pos h88]
        rw[beq_iff_eq.2 (show(ys.length:Int)=8 by omega),cond_true] at hb
        exact eF hb
      · rw[if_neg h88]
        rw[beq_eq_false_iff_ne.2 (show(ys.length:Int)≠8 by omega),cond_false] at hb
        have hby:decide (((ints (oL ys)).length+1)*8≤140737488355328)=true:=decide_eq_true (by simp only[ints,oL,List.length_map]; omega)
        rw[hby] at hb
        have hb2:aH env (m+1) 13 0 4 (YD t L i x (oL ys))= .ok (.norm,YD t L j x (oL (ys++ [j]))):=by
         rw[hb]
         unfold YD ints oL
         rw[List.map_append,List.map_append]
         rfl
        rw[aW hb2]
        exact PU hM h hx d j (ys++ [j]) n (by simp; omega) (by simp; omega) hj (by omega)
theorem aex {M:Nat} {t:List Cf} {L:List (List Ch)} {i:Int} {x:Px} (hM:big+45≤M) (h:wJ t L) (hi:aT i=true) (hx:x.ok):ak env (M+1) 13 [.sl 6 (t.map Cf.t),.sl 1 (dH L),i64 i,x.t]= .ok (.au [.sl 1 (ints (oL (yc t L i x).1)),.bool (yc t L i x).2]):=by
 obtain⟨m,rfl⟩:=dL (show 1≤M by omega)
 have hbg:=aQ
 rw[q13,aZ (by
  have h1:=ku h.ft; have h2:=qh h.fL; have h3:=bg hi; have h4:=hx.wf
  simp only[T.wfs,h1,h2,h3,h4,Bool.and_self])]
 unfold yc
 by_cases h0:i < 0
 · rw[decide_eq_true h0,if_neg (by omega)]; rfl
 rw[decide_eq_false h0]
 by_cases h1:i≥t.length
 · rw[decide_eq_true (by rw[List.length_map]; omega),if_neg (by omega)]; rfl
 rw[decide_eq_false (by rw[List.length_map]; omega)]
 by_cases h8:t.length≤8
 case neg=>rw[decide_eq_true (by rw[List.length_map]; omega),if_neg (by omega)]; rfl
 rw[decide_eq_false (by rw[List.length_map]; omega),if_pos ⟨by omega,by omega,h8⟩]
 obtain⟨i,rfl⟩:∃ n:Nat,i=n:=⟨i.toNat,by omega⟩
 rw[Int.toNat_natCast]
 simp only[cond_false]
 have it:=PU (m:=m) (by omega) h hx 9 i [i] (m+1) (by simp) (by simp) (by omega) (by omega)
 exact(aU it).trans (ac1 (m+1) _ _)
end
section
open Go.RowKit Go.Proofs
theorem ad1 {a b:Bool} {N:Nat} {r:aj T} (h:r=bif a then rB false else rB b):r=rB (!a&&b):=by rw[h]; cases a<;>rfl
def zN (t:List Cf):Bool:= !(t.any fun c=> !NW c)&&decide (t.length≤10)
theorem Yj {M:Nat} {t:List Cf} (hM:big+10≤M) (ht:bZ Cf.ok t):ak env (M+1) 9 [.sl 6 (t.map Cf.t)]= .ok (.bool (zN t)):=by
 have hb:=ht.1
 obtain⟨m,rfl⟩:=dL (show 1≤M by omega)
 rw[q9,aZ (gQ (ku ht))]
 refine ad1 (N:=m) (D7 (S:=fun i=>agF t (i:Nat)) (R:=⟨slots 19 [(2,.t (.bool false))],[]⟩) (X:=⟨slots 19 [(0,.t (.sl 6 (t.map Cf.t)))],[]⟩) (id:=0) (fun c=> !NW c) t (by omega) (fun j c hx=>?_) ?_ (agn (m+1) false) ((Z8 (m+1) t).trans ?_))
 · have hj:=(List.getElem?_eq_some_iff.1 hx).1
   rw[am2,decide_eq_true (by rw[List.length_map]; omega),cond_true,aA (aC hx),bD (alk (by omega) (ht.2 _ (List.mem_of_getElem? hx))),wrap_succ (show j≤big by omega)]
 · rw[am2,decide_eq_false (by rw[List.length_map]; omega)]; rfl
 · show rB _=rB _
   congr 1
   exact decide_eq_decide.2 (by rw[List.length_map]; omega)
def Jw (L:List (List Ch)):Bool:= !(L.any fun l=> !Yl l)&&decide (L.length≤10)
theorem aew {M:Nat} {L:List (List Ch)} (hM:big+10≤M) (hL:bZ (bZ Ch.ok) L):ak env (M+1) 10 [.sl 1 (dH L)]= .ok (.bool (Jw L)):=by
 have hb:=hL.1
 obtain⟨m,rfl⟩:=dL (show 1≤M by omega)
 rw[q10,aZ (gQ (qh hL))]
 refine ad1 (N:=m) (D7 (S:=fun i=>agE L (i:Nat)) (R:=⟨slots 19 [(2,.t (.bool false))],[]⟩) (X:=⟨slots 19 [(0,.t (.sl 1 (dH L)))],[]⟩) (id:=0) (fun l=> !Yl l) L (by omega) (fun j l hx=>?_) ?_ (ac0 (m+1) false) ((WS (m+1) L).trans ?_))
 · have hj:=(List.getElem?_eq_some_iff.1 hx).1
   rw[ajh,decide_eq_true (by rw[List.length_map]; omega),cond_true,aA (jL hx),bD (alm (by omega) (hL.2 _ (List.mem_of_getElem? hx))),wrap_succ (show j≤big by omega)]
 · rw[ajh,decide_eq_false (by rw[List.length_map]; omega)]; rfl
 · show rB _=rB _
   congr 1
   exact decide_eq_decide.2 (by rw[List.length_map]; omega)
theorem XL {M:Nat} {L K:List (List Ch)} (hM:big+15≤M) (hL:bZ (bZ Ch.ok) L) (hK:bZ (bZ Ch.ok) K):ak env (M+1) 15 [.sl 1 (dH L),.sl 1 (dH K)]= .ok (.bool (decide (L=K))):=by
 obtain⟨m,rfl⟩:=dL (show 1≤M by omega)
 have hb:=hL.1
 rw[q15,aZ (dN (qh hL) (qh hK)),←EO (q:=fun a b=>decide (a=b)) (by simp) L K,List.length_map,List.length_map]
 by_cases h:L.length=K.length
 · rw[if_pos h,show((L.length:Int) !=(K.length:Int))=false by rw[h]; simp]
   simp only[cond_false]
   refine EK (S:=fun i=>agH L K (i:Int)) (R:=⟨slots 27 [(4,.t (.bool false))],[]⟩) (X:=⟨slots 27 [],[]⟩) (id:=0) _ (by omega) h (fun j x y hx hy=>?_) ?_ (ac2 (m+1) false) (WT (m+1))
   · have hj:j < L.length:=(List.getElem?_eq_some_iff.1 hx).1
     rw[aji,decide_eq_true (by rw[List.length_map]; omega)]
     simp only[cond_true]
     rw[aA (jL hx),aA (jL hy),bD (aln (by omega) (hL.2 x (List.mem_of_getElem? hx)) (hK.2 y (List.mem_of_getElem? hy))),wrap_succ (show j≤big by omega)]
   · rw[aji,decide_eq_false (by rw[List.length_map]; omega)]; rfl
 · rw[if_neg h,show((L.length:Int) !=(K.length:Int))=true by simp; omega]; rfl
theorem afN (o:Option Rt):∃ y:T,BJ o= .au [y,.bool o.isSome]∧(y.cells.length==6&& !y.aV)=true∧∀ r,o=some r→y=r.t:=by
 cases o with
 |none=>exact⟨_,rfl,rfl,fun r h=>by cases h⟩
 |some r=>exact⟨_,rfl,rfl,fun q h=>by cases h; rfl⟩
theorem alg {M:Nat} {l:List Ch} {x:Px} (hM:big+6≤M) (hl:bZ Ch.ok l) (hx:x.ok):ak env (M+1) 24 [.sl 8 (l.map Ch.t),x.t]= .ok (.bool (mW l x).isSome):=by
 obtain⟨m,rfl⟩:=dL (show 1≤M by omega)
 rw[q24,aZ (dN (dG (fun _ h=>Ch.ok.wf h) hl) hx.wf),aF (Fg (by omega) hl hx)]
 obtain⟨y,h1,h2,_⟩:=afN (mW l x)
 rw[h1]
 simp only[aG,List.getElem?_cons_zero,List.getElem?_cons_succ]
 rw[h2,aI]
theorem ali {M:Nat} {l:List Px} {x:Px} (hM:big+6≤M) (hl:bZ Px.ok l) (hx:x.ok):ak env (M+1) 31 [.sl 2 (l.map Px.t),x.t]= .ok (.bool (l.contains x)):=by
 have hb:=hl.1
 rw[q31,aZ (dN (dG (fun _ h=>Px.ok.wf h) hl) hx.wf)]
 have e:l.contains x=l.any fun y=>y==x:=by
  rw[Bool.eq_iff_iff,List.any_eq_true,List.contains_iff_mem]
  exact⟨fun h=>⟨x,h,beq_self_eq_true x⟩,fun⟨y,h,e⟩=>(beq_iff_eq.1 e) ▸ h⟩
 rw[e]
 refine(D7 (S:=fun i=>agG l x (i:Nat)) (R:=⟨slots 18 [(4,.t (.bool true))],[]⟩) (X:=⟨slots 18 [],[]⟩) (id:=0) (fun y=>y==x) l (by omega) (fun j y hy=>?_) ?_ (ac5 M true) (WW M)).trans ?_
 · have hj:=(List.getElem?_eq_some_iff.1 hy).1
   rw[ajj,decide_eq_true (by rw[List.length_map]; omega),cond_true,aA (aC hy)]
   have e1:T.dZ [0,0] y.t.cells [i64 x.a,i64 x.n]=some (y.a==x.a&&(y.n==x.n&&true)):=rfl
   have e2:(y.a==x.a&&(y.n==x.n&&true))=(y==x):=by
    rw[Bool.eq_iff_iff]; obtain⟨a,n⟩:=y; obtain⟨a',n'⟩:=x; simp
   rw[e1,e2,wrap_succ (show j≤big by omega)]
 · rw[ajj,decide_eq_false (by rw[List.length_map]; omega)]; rfl
 · cases l.any fun y=>y==x<;>rfl
theorem Ah {t:List Cf} {L:List (List Ch)} (ht:bZ Cf.ok t) (hL:bZ (bZ Ch.ok) L) (h1:zN t=true) (h2:Jw L=true):Home t (OJ t L)∧nX (OJ t L) L:=by
 have hbg:=aQ
 unfold zN at h1
 unfold Jw at h2
 simp only[Bool.and_eq_true,Bool.not_eq_true',List.any_eq_false,decide_eq_true_eq] at h1 h2
 have a1:∀ c∈t,NW c=true:=fun c hc=>by have:=h1.1 c hc; simpa using this
 have a2:∀ l∈L,Yl l=true:=fun l hl=>by have:=h2.1 l hl; simpa using this
 have b1:∀ c∈t,c.s.length≤20∧c.w.length≤20:=fun c hc=>by
  have:=a1 c hc
  unfold NW at this
  simp only[Bool.and_eq_true,decide_eq_true_eq] at this
  omega
 have b2:∀ l∈L,l.length≤60:=fun l hl=>by
  have:=a2 l hl
  unfold Yl at this
  simp only[Bool.and_eq_true,decide_eq_true_eq] at this
  exact this.2
 have flat:∀ {α β:Type} (f:α→List β) (k:Nat) (m:List α),(∀ a∈m,(f a).length≤k)→(m.flatMap f).length≤m.length*k:=by
  intro α β f k m
  induction m with
  |nil=>intro _; simp
  |cons a m ih=>
   intro hm
   rw[List.flatMap_cons,List.length_append,List.length_cons,Nat.succ_mul]
   have:=ih fun l hl=>hm l (List.mem_cons_of_mem _ hl)
   have:=hm a List.mem_cons_self
   omega
 have c1:=flat Cf.w 20 t fun c hc=>(b1 c hc).2
 have c2:=flat (fun l=>l.map Ch.x) 60 L fun l hl=>by rw[List.length_map]; exact b2 l hl
 refine⟨⟨ht,fun c hc=>by have:=b1 c hc; omega,?_,fun x hx=>?_,fun c hc x hx=>List.mem_append_left _ (List.mem_flatMap.2 ⟨c,hc,hx⟩)⟩,fits_all t fun l hl=>(hL.2 l hl).2,hL.1⟩
 · unfold OJ
   rw[List.length_append]; omega
 · rcases List.mem_append.1 hx with hx|hx
   · obtain⟨c,hc,h⟩:=List.mem_flatMap.1 hx
     exact(ht.2 c hc).w.2 x h
   · obtain⟨l,hl,h⟩:=List.mem_flatMap.1 hx
     obtain⟨e,he,rfl⟩:=List.mem_map.1 h
     exact((hL.2 l hl).2 e he).x
end
section
open Go.RowKit Go.Proofs
variable [Lv]
def adU (d:Nat→PV):St:=⟨[d 0,.ptr 0 0,.t (.sl 6 (uf.map Cf.t)),.t (.sl 1 (dH F8)),.t (.bool true),.t (.sl 1 (ints [2,1,0])),.t (.bool true),d 7,d 8,d 9,d 10,d 11,d 12,d 13,d 14,d 15,d 16,d 17,d 18,d 19,d 20,d 21,d 22,d 23,d 24,d 25,d 26,d 27,d 28,d 29,d 30,d 31,d 32,d 33,d 34,d 35,d 36,d 37,d 38,d 39,d 40,d 41,d 42,d 43,d 44,d 45,d 46,d 47,d 48,d 49,d 50,d 51,d 52,d 53,d 54,d 55,d 56,d 57,d 58,d 59,d 60,d 61,d 62,d 63,d 64,d 65,d 66,d 67,d 68,d 69,d 70,d 71,d 72,d 73,d 74,d 75,d 76,d 77,d 78,d 79,d 80,d 81,d 82,d 83,d 84,d 85,d 86,d 87,d 88,d 89,d 90,d 91,d 92,d 93,d 94],[.box 25 2 (.t x3.t),.jR 25 2 [x3.t],.jR 67 3 [T.agg [i64 0,i64 1,i64 3],T.agg [i64 2,i64 1,i64 3]]]⟩
theorem apX (N:Nat) (d:Nat→PV):zo env N 8 5 (adU d)=iO N 21 [.sl 6 (uf.map Cf.t),.sl 1 (dH F8)] fun b=>bif b then cl N 17 [.sl 6 (uf.map Cf.t)] fun x=>iO N 21 [.sl 6 (uf.map Cf.t),x] fun b=>bif !b then cl N 19 [.sl 6 (uf.map Cf.t),T.sl 1 (dH [])] fun x=>gY x fun n=>rB (n==3) else rB false else rB false:=by kernel_rfl
def YE (t:List Cf) (L K:List (List Ch)) (n:Int):St:=⟨slots 56 [(0,.t (.sl 6 (t.map Cf.t))),(1,.t (.sl 1 (dH L))),(5,.t (.bool true)),(8,.t (.sl 1 (dH K))),(10,.t (i64 n))],[]⟩
theorem q6 (N:Nat) (t:List Cf) (L:List (List Ch)):ak env (N+1) 6 [.sl 6 (t.map Cf.t),.sl 1 (dH L)]=W [.sl 6 (t.map Cf.t),.sl 1 (dH L)] (cl N 8 [] fun x=>iO N 9 [T.sl 6 (List.map Cf.t t)] fun b=>bif !b then aj.ok x else iO N 10 [T.sl 1 (List.map (fun l=>T.sl 8 (List.map Ch.t l)) L)] fun b=>bif !b then aj.ok x else cl N 25 [T.sl 6 (List.map Cf.t t)] fun x_1=>aG x_1 0 fun y=>aG x_1 1 fun y=>iT IntKind.i64 y fun a=>bif a !=0 then aj.ok x else cl N 11 [T.sl 6 (List.map Cf.t t)] fun x_2=>aG x_2 0 fun y=>aG x_2 1 fun y_1=>bC env N 6 9 {tmps:=slots 56 [(0,PV.t (T.sl 6 (List.map Cf.t t))),(1,PV.t (T.sl 1 (List.map (fun l=>T.sl 8 (List.map Ch.t l)) L))),(5,PV.t x),(8,PV.t y),(10,PV.t (i64 0))],heap:=[]}):=by kernel_rfl
theorem apJ (N:Nat) (t:List Cf) (L K:List (List Ch)) (n:Int):aH env N 6 0 9 (YE t L K n)=Gy N 29 [i64 (↑(List.map Cf.t t).length:Int)] fun b=>bif decide (n < b) then iO N 21 [T.sl 6 (List.map Cf.t t),T.sl 1 (List.map (fun l=>T.sl 8 (List.map Ch.t l)) L)] fun b=>bif !b then cl N 19 [T.sl 6 (List.map Cf.t t),T.sl 1 (List.map (fun l=>T.sl 8 (List.map Ch.t l)) L)] fun x=>aj.ok (Ex.norm,{tmps:=slots 56 [(0,PV.t (T.sl 6 (List.map Cf.t t))),(1,PV.t x),(5,PV.t (T.bool true)),(8,PV.t (T.sl 1 (List.map (fun l=>T.sl 8 (List.map Ch.t l)) K))),(10,PV.t (i64 (IntKind.i64.wrap (n+1))))],heap:=[]}) else aj.ok (Ex.exit 0,{tmps:=slots 56 [(1,PV.t (T.sl 1 (List.map (fun l=>T.sl 8 (List.map Ch.t l)) L))),(5,PV.t (T.bool true)),(8,PV.t (T.sl 1 (List.map (fun l=>T.sl 8 (List.map Ch.t l)) K)))],heap:=[]}) else aj.ok (Ex.exit 0,{tmps:=slots 56 [(1,PV.t (T.sl 1 (List.map (fun l=>T.sl 8 (List.map Ch.t l)) L))),(5,PV.t (T.bool true)),(8,PV.t (T.sl 1 (List.map (fun l=>T.sl 8 (List.map Ch.t l)) K)))],heap:=[]}):=by kernel_rfl
theorem Z7 (N:Nat) (L K:List (List Ch)):aS env N 6 0 9 (aY env 6) (.exit 0) (⟨slots 56 [(1,.t (.sl 1 (dH L))),(5,.t (.bool true)),(8,.t (.sl 1 (dH K)))],[]⟩)=cl N 15 [T.sl 1 (List.map (fun l=>T.sl 8 (List.map Ch.t l)) L),T.sl 1 (List.map (fun l=>T.sl 8 (List.map Ch.t l)) K)] fun x=>aj.ok x:=by kernel_rfl
def I8 (t:List Cf) (L:List (List Ch)) (i:Int):St:=⟨slots 98 [(0,.t (.sl 6 (t.map Cf.t))),(3,.t (.bool true)),(6,.t (.sl 1 (dH L))),(8,.t (i64 i))],[]⟩
def SG (t:List Cf) (L:List (List Ch)) (i k:Int):St:=⟨slots 98 [(0,.t (.sl 6 (t.map Cf.t))),(3,.t (.bool true)),(6,.t (.sl 1 (dH L))),(8,.t (i64 i)),(9,.t (i64 k))],[]⟩
theorem q5 (N:Nat) (t:List Cf):ak env (N+1) 5 [.sl 6 (t.map Cf.t)]=W [.sl 6 (t.map Cf.t)] (cl N 8 [] fun x=>iO N 9 [T.sl 6 (List.map Cf.t t)] fun b=>bif !b then aj.ok x else cl N 25 [T.sl 6 (List.map Cf.t t)] fun x_1=>aG x_1 0 fun y=>aG x_1 1 fun y=>cl N 11 [T.sl 6 (List.map Cf.t t)] fun x_2=>aG x_2 0 fun y_1=>aG x_2 1 fun pI=>iT IntKind.i64 y fun a=>bif a !=0 then bT x fun b=>bif b then cl N 21 [T.sl 6 (List.map Cf.t t),y_1] fun x=>match T.dZ [1] [pI] [x] with|some b=>rB b|none=>aj.stuck else rB false else bT pI fun b=>bif !b then rB false else iO N 21 [T.sl 6 (List.map Cf.t t),y_1] fun b=>bif !b then rB false else gY y_1 fun n=>bif n !=(↑(List.map Cf.t t).length:Int) then rB false else bC env N 5 11 {tmps:=slots 98 [(0,PV.t (T.sl 6 (List.map Cf.t t))),(3,PV.t x),(6,PV.t y_1),(8,PV.t (i64 0))],heap:=[]}):=by kernel_rfl
theorem ajw (N:Nat) (t:List Cf) (L:List (List Ch)) (i:Int):aH env N 5 0 11 (I8 t L i)=bif decide (i < (↑(List.map Cf.t t).length:Int)) then nY env N 5 11 14 (SG t L i 0) else aj.ok (Ex.exit 0,{tmps:=slots 98 [(3,PV.t (T.bool true))],heap:=[]}):=by kernel_rfl
theorem Uz (N:Nat) (t:List Cf) (L:List (List Ch)) (i k:Int):nR env N 5 0 11 14 (SG t L i k)=bV (List.map Cf.t t) i fun e=>gY (e.ay 4 1 false) fun n=>bif decide (k < n) then bV (List.map (fun l=>T.sl 8 (List.map Ch.t l)) L) i fun e=>bV (List.map Cf.t t) i fun e_1=>qW 2 (e_1.ay 4 1 false) fun xs=>bV xs k fun e_2=>cl N 26 [e,e_2] fun x=>aG x 0 fun y=>aG x 1 fun y_1=>chk (y.cells.length==6&& !y.aV) (bT y_1 fun b=>bif !b then aj.ok (Ex.ret,{tmps:=slots 98 [(2,PV.t (T.bool false))],heap:=[]}) else bV (List.map Cf.t t) i fun e=>cl N 28 [e.ay 1 1 false] fun x=>iO N 27 [y,x] fun b=>bif !b then aj.ok (Ex.ret,{tmps:=slots 98 [(2,PV.t (T.bool false))],heap:=[]}) else aj.ok (Ex.norm,SG t L i (IntKind.i64.wrap (k+1)))) else aj.ok (Ex.exit 2,I8 t L i):=by kernel_rfl
theorem NS (N:Nat) (t:List Cf) (L:List (List Ch)) (i:Int):pR env N 5 0 11 14 (.exit 2) (I8 t L i)=aj.ok (Ex.norm,I8 t L (IntKind.i64.wrap (i+1))):=by kernel_rfl
theorem Xk (N:Nat):aS env N 5 0 11 (aY env 5) (.exit 0) (⟨slots 98 [(3,.t (.bool true))],[]⟩)=rB true:=by kernel_rfl
def Dh (t:List Cf) (L:List (List Ch)) (x:Px) (h:List Int) (k:Int):St:=⟨slots 196 [(0,.t (.sl 6 (t.map Cf.t))),(5,.ptr 0 0),(7,.t (.bool true)),(10,.t (.sl 1 (dH L))),(12,.t (.sl 1 (ints h))),(16,.t (i64 k))],[.box 25 2 (.t x.t)]⟩
def SE (t:List Cf) (L:List (List Ch)) (x:Px) (h:List Int) (k j:Int):St:=⟨slots 196 [(0,.t (.sl 6 (t.map Cf.t))),(5,.ptr 0 0),(7,.t (.bool true)),(10,.t (.sl 1 (dH L))),(12,.t (.sl 1 (ints h))),(16,.t (i64 k)),(17,.t (i64 j))],[.box 25 2 (.t x.t)]⟩
theorem apO (N:Nat) (t:List Cf) (i:Int) (x:Px) (Kc:St→aj T):NK env N 7 0 9 (oC env 7 [.t (.sl 6 (t.map Cf.t)),.t (i64 i),.t (x.t)]) Kc=cl N 8 [] fun x_1=>cl N 9 [T.sl 6 (List.map Cf.t t)] fun x_2=>bT x_2 fun b=>bif !b then aj.ok x_1 else bif decide (i < 0) then aj.ok x_1 else bif decide (i≥(↑(List.map Cf.t t).length:Int)) then aj.ok x_1 else cl N 25 [T.sl 6 (List.map Cf.t t)] fun x_3=>aG x_3 0 fun y=>aG x_3 1 fun y_1=>cl N 11 [T.sl 6 (List.map Cf.t t)] fun VP=>aG VP 0 fun pI=>aG VP 1 fun zJ=>iT IntKind.i64 y_1 fun a=>bif a !=0 then bT x_1 fun b=>bif b then iT IntKind.i64 y_1 fun a=>rB (a !=0) else rB false else bT zJ fun b_1=>bif !b_1 then bT x_1 fun b=>bif b then iT IntKind.i64 y_1 fun a=>rB (a !=0) else rB false else gY pI fun n=>bif n !=(↑(List.map Cf.t t).length:Int) then bT x_1 fun b=>bif b then iT IntKind.i64 y_1 fun a=>rB (a !=0) else rB false else cl N 13 [T.sl 6 (List.map Cf.t t),pI,i64 i,x.t] fun Oh=>aG Oh 0 fun y_4=>aG Oh 1 fun y_5=>Kc {tmps:=[PV.t (T.sl 6 (List.map Cf.t t)),PV.t (i64 i),PV.t x.t,PV.au [],PV.au [],PV.ptr 0 0,PV.t (T.bool false),PV.t x_1,PV.t y,PV.t y_1,PV.t pI,PV.t zJ,PV.t y_4,PV.t y_5,PV.au [],PV.au [],PV.au [],PV.au [],PV.au [],PV.au [],PV.au [],PV.au [],PV.t x_1,PV.t (T.sl 6 (List.map Cf.t t)),PV.t x_2,PV.t (T.bool !b),PV.t (T.bool false),PV.t (i64 i),PV.t (T.bool (decide (i < 0))),PV.t (T.bool (decide (i < 0))),PV.t (T.bool false),PV.t (i64 i),PV.t (T.sl 6 (List.map Cf.t t)),PV.t (i64 (↑(List.map Cf.t t).length:Int)),PV.t (T.bool (decide (i≥(↑(List.map Cf.t t).length:Int)))),PV.t (T.bool (decide (i≥(↑(List.map Cf.t t).length:Int)))),PV.au [],PV.t x_3,PV.t (T.sl 6 (List.map Cf.t t)),PV.t x_3,PV.t y,PV.t y_1,PV.t VP,PV.t (T.sl 6 (List.map Cf.t t)),PV.t VP,PV.t pI,PV.t zJ,PV.t y_1,PV.t (T.bool (a !=0)),PV.t (T.bool false),PV.t zJ,PV.t (T.bool !b_1),PV.t (T.bool !b_1),PV.t (T.bool false),PV.t pI,PV.t (i64 n),PV.t (T.sl 6 (List.map Cf.t t)),PV.t (i64 (↑(List.map Cf.t t).length:Int)),PV.t (T.bool (n !=(↑(List.map Cf.t t).length:Int))),PV.t (T.bool (n !=(↑(List.map Cf.t t).length:Int))),PV.au [],PV.au [],PV.au [],PV.au [],PV.au [],PV.t Oh,PV.t (T.sl 6 (List.map Cf.t t)),PV.t pI,PV.t (i64 i),PV.t x.t,PV.t Oh,PV.t y_4,PV.t y_5,PV.au [],PV.au [],PV.au [],PV.au [],PV.au [],PV.au [],PV.au [],PV.au [],PV.au [],PV.au [],PV.au [],PV.au [],PV.au [],PV.au [],PV.au [],PV.au [],PV.au [],PV.au [],PV.au [],PV.au [],PV.au [],PV.au [],PV.au [],PV.au [],PV.au [],PV.au [],PV.au [],PV.au [],PV.au [],PV.au [],PV.au [],PV.au [],PV.au [],PV.au [],PV.au [],PV.au [],PV.au [],PV.au [],PV.au [],PV.au [],PV.au [],PV.au [],PV.au [],PV.au [],PV.au [],PV.au [],PV.au [],PV.au [],PV.au [],PV.au [],PV.au [],PV.au [],PV.au [],PV.au [],PV.au [],PV.au [],PV.au [],PV.au [],PV.au [],PV.au [],PV.au [],PV.au [],PV.au [],PV.au [],PV.au [],PV.au [],PV.au [],PV.au [],PV.au [],PV.au [],PV.au [],PV.au [],PV.au [],PV.au [],PV.au [],PV.au [],PV.au [],PV.au [],PV.au [],PV.au [],PV.au [],PV.au [],PV.au [],PV.au [],PV.au [],PV.au [],PV.au [],PV.au [],PV.au [],PV.au [],PV.au [],PV.au [],PV.au [],PV.au [],PV.au [],PV.au [],PV.au [],PV.au [],PV.au [],PV.au [],PV.au [],PV.au [],PV.au [],PV.au [],PV.au [],PV.au [],PV.au [],PV.au [],PV.au [],PV.au [],PV.au [],PV.au [],PV.au [],PV.au [],PV.au [],PV.au [],PV.au [],PV.au [],PV.au [],PV.au [],PV.au [],PV.au [],PV.au []],heap:=[ah.box 25 2 (PV.t x.t)]}:=by kernel_rfl
theorem ajC (N:Nat) (t:List Cf) (L:List (List Ch)) (x:Px) (h:List Int) (k:Int):aH env N 7 0 15 (Dh t L x h k)=bif decide (k < (↑(ints h).length:Int)) then nY env N 7 15 18 (SE t L x h k 0) else aj.ok (Ex.exit 0,{tmps:=slots 196 [(0,PV.t (T.sl 6 (List.map Cf.t t))),(5,PV.ptr 0 0),(7,PV.t (T.bool true)),(12,PV.t (T.sl 1 (ints h)))],heap:=[ah.box 25 2 (PV.t x.t)]}):=by kernel_rfl
theorem UC (N:Nat) (t:List Cf) (L:List (List Ch)) (x:Px) (h:List Int) (k j:Int):nR env N 7 0 15 18 (SE t L x h k j)=bif decide (j < k) then bV (ints h) j fun e=>bV (ints h) k fun e_1=>iT IntKind.i64 e fun a=>iT IntKind.i64 e_1 fun b=>bif a==b then aj.ok (Ex.ret,{tmps:=slots 196 [(6,PV.t (T.bool false))],heap:=[]}) else aj.ok (Ex.norm,SE t L x h k (IntKind.i64.wrap (j+1))) else aj.ok (Ex.exit 2,Dh t L x h k):=by kernel_rfl
theorem NU (N:Nat) (t:List Cf) (L:List (List Ch)) (x:Px) (h:List Int) (k:Int):pR env N 7 0 15 18 (.exit 2) (Dh t L x h k)=bV (ints h) k fun e=>iT IntKind.i64 e fun a=>bif decide (a < 0) then aj.ok (Ex.ret,{tmps:=slots 196 [(6,PV.t (T.bool false))],heap:=[]}) else bV (ints h) k fun e=>iT IntKind.i64 e fun a=>bif decide (a≥(↑(List.map Cf.t t).length:Int)) then aj.ok (Ex.ret,{tmps:=slots 196 [(6,PV.t (T.bool false))],heap:=[]}) else bif decide (k > 0) then bV (ints h) (IntKind.i64.wrap (k - 1)) fun e=>pJ e fun i=>bV (List.map (fun l=>T.sl 8 (List.map Ch.t l)) L) i fun e=>cl N 26 [e,x.t] fun x_1=>aG x_1 0 fun y=>aG x_1 1 fun y_1=>chk (y.cells.length==6&& !y.aV) (bV (ints h) k fun e=>pJ e fun i=>bV (List.map (fun l=>T.sl 8 (List.map Ch.t l)) L) i fun e=>cl N 26 [e,x.t] fun x_2=>aG x_2 0 fun pI=>aG x_2 1 fun zJ=>chk (pI.cells.length==6&& !pI.aV) (bT zJ fun b=>bif !b then aj.ok (Ex.ret,{tmps:=slots 196 [(6,PV.t (T.bool false))],heap:=[]}) else Gy N 30 [pI,y] fun a=>bif decide (a≥0) then aj.ok (Ex.ret,{tmps:=slots 196 [(6,PV.t (T.bool false))],heap:=[]}) else aj.ok (Ex.norm,Dh t L x h (IntKind.i64.wrap (k+1))))) else aj.ok (Ex.norm,Dh t L x h (IntKind.i64.wrap (k+1))):=by kernel_rfl
theorem Xp (N:Nat) (t:List Cf) (x:Px) (h:List Int):aS env N 7 0 15 (aY env 7) (.exit 0) (⟨slots 196 [(0,.t (.sl 6 (t.map Cf.t))),(5,.ptr 0 0),(7,.t (.bool true)),(12,.t (.sl 1 (ints h)))],[.box 25 2 (.t x.t)]⟩)=bV (ints h) (IntKind.i64.wrap ((↑(ints h).length:Int) - 1)) fun e=>pJ e fun i=>bV (List.map Cf.t t) i fun e=>cl N 31 [e.ay 4 1 false,x.t] fun x=>aj.ok x:=by kernel_rfl
def F6 (t:List Cf) (L K:List (List Ch)) (i:Int):St:=⟨slots 126 [(0,.t (.sl 6 (t.map Cf.t))),(1,.t (.sl 1 (dH L))),(5,.t (.bool true)),(6,.t (.sl 1 (dH K))),(7,.t (i64 i))],[]⟩
def Oa (t:List Cf) (L K:List (List Ch)) (i k:Int):St:=⟨slots 126 [(0,.t (.sl 6 (t.map Cf.t))),(1,.t (.sl 1 (dH L))),(5,.t (.bool true)),(6,.t (.sl 1 (dH K))),(7,.t (i64 i)),(8,.t (i64 k))],[]⟩
theorem q4 (N:Nat) (t:List Cf) (L:List (List Ch)):ak env (N+1) 4 [.sl 6 (t.map Cf.t),.sl 1 (dH L)]=W [.sl 6 (t.map Cf.t),.sl 1 (dH L)] (cl N 8 [] fun x=>iO N 9 [T.sl 6 (List.map Cf.t t)] fun b=>bif !b then aj.ok x else iO N 10 [T.sl 1 (List.map (fun l=>T.sl 8 (List.map Ch.t l)) L)] fun b=>bif !b then aj.ok x else cl N 19 [T.sl 6 (List.map Cf.t t),T.sl 1 (List.map (fun l=>T.sl 8 (List.map Ch.t l)) L)] fun x_1=>bif decide ((↑(List.map Cf.t t).length:Int) > 8) then bT x fun b=>bif b then gY x_1 fun n=>bif n==0 then cl N 17 [T.sl 6 (List.map Cf.t t)] fun x=>gY x fun n=>rB (n==0) else rB false else rB false else gY x_1 fun n=>bif n !=(↑(List.map Cf.t t).length:Int) then rB false else iO N 21 [T.sl 6 (List.map Cf.t t),T.sl 1 (List.map (fun l=>T.sl 8 (List.map Ch.t l)) L)] fun b=>bif b then iO N 15 [x_1,T.sl 1 (List.map (fun l=>T.sl 8 (List.map Ch.t l)) L)] fun b=>bif !b then rB false else bC env N 4 10 {tmps:=slots 126 [(0,PV.t (T.sl 6 (List.map Cf.t t))),(1,PV.t (T.sl 1 (List.map (fun l=>T.sl 8 (List.map Ch.t l)) L))),(5,PV.t x),(6,PV.t x_1),(7,PV.t (i64 0))],heap:=[]} else bC env N 4 10 {tmps:=slots 126 [(0,PV.t (T.sl 6 (List.map Cf.t t))),(1,PV.t (T.sl 1 (List.map (fun l=>T.sl 8 (List.map Ch.t l)) L))),(5,PV.t x),(6,PV.t x_1),(7,PV.t (i64 0))],heap:=[]}):=by kernel_rfl
theorem ajt (N:Nat) (t:List Cf) (L K:List (List Ch)) (i:Int):aH env N 4 0 10 (F6 t L K i)=bif decide (i < (↑(List.map (fun l=>T.sl 8 (List.map Ch.t l)) K).length:Int)) then nY env N 4 10 13 (Oa t L K i 0) else aj.ok (Ex.exit 0,{tmps:=slots 126 [(0,PV.t (T.sl 6 (List.map Cf.t t))),(5,PV.t (T.bool true))],heap:=[]}):=by kernel_rfl
theorem Uy (N:Nat) (t:List Cf) (L K:List (List Ch)) (i k:Int):nR env N 4 0 10 13 (Oa t L K i k)=bV (List.map (fun l=>T.sl 8 (List.map Ch.t l)) K) i fun e=>gY e fun n=>bif decide (k < n) then bV (List.map (fun l=>T.sl 8 (List.map Ch.t l)) K) i fun e=>qW 8 e fun xs=>bV xs k fun e=>chk ((e.ay 2 6 true).cells.length==6&& !(e.ay 2 6 true).aV) (cl N 23 [T.sl 6 (List.map Cf.t t),i64 i,(e.ay 2 6 true).ay 5 1 false] fun x=>aG x 0 fun y=>aG x 1 fun y_1=>aG x 2 fun pI=>iT IntKind.i64 ((e.ay 2 6 true).ay 5 1 false) fun a=>bif decide (a≥0) then bT pI fun b=>bif !b then aj.ok (Ex.ret,{tmps:=slots 126 [(4,PV.t (T.bool false))],heap:=[]}) else iT IntKind.i64 y fun a=>bif decide (a≥(↑(List.map (fun l=>T.sl 8 (List.map Ch.t l)) L).length:Int)) then aj.ok (Ex.ret,{tmps:=slots 126 [(4,PV.t (T.bool false))],heap:=[]}) else pJ y fun jO=>bV (List.map (fun l=>T.sl 8 (List.map Ch.t l)) L) jO fun e=>bV (List.map (fun l=>T.sl 8 (List.map Ch.t l)) K) i fun e_1=>qW 8 e_1 fun xs=>bV xs k fun e_2=>iO N 24 [e,e_2.ay 0 2 true] fun b=>bif !b then aj.ok (Ex.ret,{tmps:=slots 126 [(4,PV.t (T.bool false))],heap:=[]}) else aj.ok (Ex.norm,Oa t L K i (IntKind.i64.wrap (k+1))) else aj.ok (Ex.norm,Oa t L K i (IntKind.i64.wrap (k+1)))) else aj.ok (Ex.exit 2,F6 t L K i):=by kernel_rfl
theorem NR (N:Nat) (t:List Cf) (L K:List (List Ch)) (i:Int):pR env N 4 0 10 13 (.exit 2) (F6 t L K i)=aj.ok (Ex.norm,F6 t L K (IntKind.i64.wrap (i+1))):=by kernel_rfl
theorem Xf (N:Nat) (t:List Cf):aS env N 4 0 10 (aY env 4) (.exit 0) (⟨slots 126 [(0,.t (.sl 6 (t.map Cf.t))),(5,.t (.bool true))],[]⟩)=cl N 19 [T.sl 6 (List.map Cf.t t),T.sl 1 []] fun x=>cl N 17 [T.sl 6 (List.map Cf.t t)] fun x_1=>cl N 15 [x,x_1] fun x=>aj.ok x:=by kernel_rfl
end
section
open Go.RowKit Go.Proofs
theorem aaK:Ue 3 [x3] Fz=uf:=by kernel_rfl
theorem VJ:iL uf=(F8,true):=by kernel_rfl
theorem afq:yc uf F8 2 x3=([2,1,0],true):=by kernel_rfl
theorem aip:lV uf F8=true:=by kernel_rfl
theorem aiq:lV uf (oh uf)=false:=by kernel_rfl
theorem aio:zN uf=true:=by kernel_rfl
theorem akg:bZ Px.ok [x3]:=⟨by show 1≤big; decide,fun y hy=>by rw[List.mem_singleton.1 hy]; exact⟨rfl,rfl⟩⟩
theorem afv:bZ Lk.ok Fz:=⟨by show 2≤big; decide,fun y hy=>by
 simp only[Fz,List.mem_cons,List.not_mem_nil,or_false] at hy
 rcases hy with rfl|rfl<;>exact⟨rfl,rfl,rfl⟩⟩
theorem aiz:bZ Cf.ok uf:=by
 have hb:=aQ
 obtain⟨h1,h8⟩:=Wp 3
 have h:=Ku (m:=zk 3) Fz (Ve akg h8) (show 0+Fz.length≤big by show 2≤big; decide)
 rw[←aaK]
 exact⟨by rw[show Ue 3 [x3] Fz=Fz.foldl uy ((List.range (zk 3)).map (sQ [x3])) from rfl,h.1]; omega,fun c hc=>(h.2 c hc).1⟩
theorem AA:Home uf (OJ uf []):=(Ah (L:=[]) aiz ⟨Nat.zero_le _,fun l hl=>(by cases hl)⟩ aio rfl).1
theorem ajJ:nX (OJ uf []) F8:=by
 have:=AA.from_ AA.first (jD uf.length)
 have e:(lM uf (jD uf.length) (oh uf)).1=F8:=congrArg Prod.fst VJ
 rw[e] at this
 exact this
theorem VT {m:Nat} {d:Nat→PV} (hM:big+300≤m):zo env m 8 5 (adU d)= .ok (.bool true):=by
 obtain⟨m,rfl⟩:=dL (show 1≤m by omega)
 refine(apX (m+1) d).trans ?_
 rw[bD (AA.fixed ajJ (by omega)),aip,cond_true,aF (Pm (by omega) AA.ft AA.sides),bD (AA.fixed AA.first (by omega)),aiq,Bool.not_false,cond_true,aF (AA.nexts ⟨⟨by simp,by simp,by simp⟩,Nat.zero_le _⟩ (by omega))]
 simp only[gY]
 have:(dH (nextR uf [])).length=3:=by rw[xW,pz (by decide)]; rfl
 rw[this]; rfl
theorem Yi {M:Nat} (hM:big+310≤M):ak env (M+1) 8 []= .ok (.bool true):=by
 obtain⟨m,rfl⟩:=dL (show 1≤M by omega)
 refine(Dy rfl rfl).trans ?_
 refine(Gq 5).trans ?_
 have key:∀ Kc:St→aj T,(∀ st:St,st=adU (fun i=>st.tmps.getD i .junk)→Kc st= .ok (.bool true))→NK env (m+1) 8 0 5 (oC env 8 []) Kc= .ok (.bool true):=fun Kc hKc=>?_
 · exact key _ fun st hst=>by rw[hst]; exact VT (by omega)
 refine(apP (m+1) Kc).trans ?_
 refine Eq.trans (show _=cl (m+1) 32 [i64 3,.sl 2 ([x3].map Px.t),.sl 3 (Fz.map Lk.t)] _ from rfl) ?_
 rw[aF (alj rfl akg afv (show(2+1)*64≤big by decide) rfl),aaK,aF (AA.stable (by omega)),VJ]
 simp only[aG,List.getElem?_cons_zero,List.getElem?_cons_succ]
 refine Eq.trans (show _=cl (m+1) 13 [.sl 6 (uf.map Cf.t),.sl 1 (dH F8),i64 2,x3.t] _ from rfl) ?_
 rw[aF (aex (by omega) (AA.room ajJ) rfl ⟨rfl,rfl⟩),afq]
 simp only[aG,List.getElem?_cons_zero,List.getElem?_cons_succ]
 exact hKc _ rfl
end
end Go.aP
