/- The texts of a proof, one behind the other: an interpreter and its soundness, what the functions of the program answer, and plain laws on that. -/
import Derived.Test.YtckfafoabnfbpaaX4
import Derived.Test.YtckfafoabnfbpaaK10
import Derived.Test.YtckfafoabnfbpaaX1
import Derived.Test.YtckfafoabnfbpaaX2
import Derived.Test.YtckfafoabnfbpaaK9
set_option linter.unusedVariables false
set_option linter.unusedSimpArgs false
set_option linter.unnecessarySimpa false
set_option linter.unusedSectionVars false
set_option maxRecDepth 100000
namespace Go.aO
section
open Go.RowKit Go.Proofs
theorem sV {A C:Prop} {B:Nat→Prop} {j:Nat} (h:B j):Ex.kP (.exit j) A B C:=h
theorem nU {A C:Prop} {B:Nat→Prop} (h:A):Ex.kP .norm A B C:=h
theorem Nq {A C:Prop} {B:Nat→Prop} (h:C):Ex.kP .ret A B C:=h
theorem KU {E:Env} {n:Nat} {f:FuncId} {p:List Nat} {i:Nat} (a b:Nat) {st s:St} {r:aj (Ex×St)} (h1:bF E n f p i a st= .ok (.norm,s)) (h2:bF E n f p (i+a) b s=r):bF E n f p i (a+b) st=r:=by
 unfold bF at h1 h2 ⊢
 rw[List.take_add,List.drop_drop,lq]
 have:=oG (E:=E) (f:=f) (fn:=dG E f) (n:=n) (base:=0) (dY E n) (Strict.bind fun q:Ex×St=>q.1.k (jy E (aJ E n) f (dG E f) n 0 (((aG E f p).drop (i+a)).take b) q.2 fun e s=>(.ok (e,s):aj (Ex×St))) (fun j=> .ok (.exit j,q.2)) (.ok (.ret,q.2))) (((aG E f p).drop i).take a) st fun e s=> .ok (e,s)
 rw[h1] at this
 exact this.symm.trans h2
def ac5:Oper:={dst:=some 37,op:= .next (.tmp 36) false,type:=0,pos:= "topo.go:64",after:= #[],guard:=none}
def ac3:Oper:={dst:=some 39,op:= .entry (.tmp 36),type:=0,pos:= "topo.go:64",after:= #[],guard:=none}
theorem AQ {B:St→aj (Ex×St)} {S:List dL→Nat→Nat→St} {X:List dL→Nat→St} {id:Nat} (F:List Nat→Nat→List Nat) (xs:List Nat)
 (hs:∀ we wc ks k x,iG we wc ks→xs[k]? =some x→∃ DU wc',iG DU wc' (F ks x)∧B (S we wc k)= .ok (.norm,S DU wc' (k+1)))
 (he:∀ we wc,B (S we wc xs.length)= .ok (.exit id,X we wc)):
 ∀ (m k:Nat) (we:List dL) (wc:Nat) (ks:List Nat) (n:Nat),k+m=xs.length→iG we wc ks→m < n→∃ DU wc',iG DU wc' ((xs.drop k).foldl F ks)∧eF B n (S we wc k)= .ok (.exit id,X DU wc')
 |0,k,we,wc,ks,n,hk,h,hn=>by
  obtain⟨n,rfl⟩:∃ m,n=m+1:=⟨n - 1,by omega⟩
  obtain rfl:k=xs.length:=by omega
  refine⟨we,wc,?_,iH (he we wc)⟩
  rw[List.drop_length]; exact h
 |m+1,k,we,wc,ks,n,hk,h,hn=>by
  obtain⟨n,rfl⟩:∃ m,n=m+1:=⟨n - 1,by omega⟩
  have hx:xs[k]? =some xs[k]:=List.getElem?_eq_getElem (by omega)
  obtain⟨we1,wc1,h1,h2⟩:=hs we wc ks k _ h hx
  obtain⟨we2,Iy,h3,h4⟩:=AQ F xs hs he m (k+1) we1 wc1 (F ks xs[k]) n (by omega) h1 (by omega)
  refine⟨we2,Iy,?_,by rw[bJ h2]; exact h4⟩
  rw[List.drop_eq_getElem_cons (by omega),List.foldl_cons]
  exact h3
variable [Lv]
attribute [local irreducible] ah DF stepD aG gI
theorem ac9 {N:Nat} (hN:big+40≤N) {t:List Cf} {i:Int} (xs:List Nat) (hx:xs.length≤big):∃ we wc,iG we wc (xs.foldl addN [])∧eF (lS env N 18 [2,2] 4) N (RI t i [] 0 [] 0 (dW xs) ((dW xs).length:Nat) 0)= .ok (.exit 2,qI t i we wc [] 0):=by
 have hbg:=bH
 have hl:(dW xs).length=xs.length:=by simp[dW]
 obtain⟨we,wc,h1,h2⟩:=AQ (B:=lS env N 18 [2,2] 4) (S:=fun we wc (k:Nat)=>RI t i we wc [] 0 (dW xs) ((dW xs).length:Nat) (k:Nat)) (X:=fun we wc=>qI t i we wc [] 0) (id:=2) addN xs
  (fun we wc ks k x h hk=>by
   obtain⟨DU,wc',g1,g2⟩:=JU h x
   have hkl:=(List.getElem?_eq_some_iff.1 hk).1
   refine⟨DU,wc',g1,?_⟩
   rw[IB,hl,decide_eq_true (by omega),cond_true,aF (x:=i64 (x:Int)) (by unfold dW; rw[List.getElem?_map,hk]; rfl)]
   have:=g2 fun e c=>(aj.ok (Ex.norm,RI t i e c [] 0 (dW xs) (xs.length:Nat) (IntKind.i64.wrap ((k:Int)+1))):aj (Ex×St))
   unfold I5 at this
   rw[this,wrap_succ (show k≤big by omega)])
  (fun we wc=>by
   rw[IB,hl,decide_eq_false (by omega)]; rfl) xs.length 0 [] 0 [] N (by omega) (iG.nil 0) (by omega)
 exact⟨we,wc,by simpa using h1,h2⟩
theorem ada {N:Nat} (hN:big+40≤N) {t:List Cf} {i:Int} {we ge:List dL} {wc gc:Nat} {ws gs:List Nat} (xs:List Nat) (hx:xs.length≤big) (hw:iG we wc ws) (hg:iG ge gc gs) (ho:Ones ge):
 ∃ DU wc',iG DU wc' (xs.foldl (Fp gs) ws)∧eF (lS env N 18 [2,2,5,2,1,2] 4) N (UG t i we wc ge gc (dW xs) ((dW xs).length:Nat) 0)= .ok (.exit 8,qI t i DU wc' ge gc):=by
 have hbg:=bH
 have hl:(dW xs).length=xs.length:=by simp[dW]
 obtain⟨DU,wc',h1,h2⟩:=AQ (B:=lS env N 18 [2,2,5,2,1,2] 4) (S:=fun we wc (k:Nat)=>UG t i we wc ge gc (dW xs) ((dW xs).length:Nat) (k:Nat)) (X:=fun we wc=>qI t i we wc ge gc) (id:=8) (Fp gs) xs
  (fun we wc ks k x h hk=>by
   have hkl:=(List.getElem?_eq_some_iff.1 hk).1
   have e0:=oJ N t i we wc ge gc (dW xs) ((dW xs).length:Nat) (k:Nat)
   rw[hl,decide_eq_true (by omega),cond_true] at e0
   have e1:=tq N t i we wc ge gc (dW xs) ((dW xs).length:Nat) (k:Nat) true
   rw[aF (x:=i64 (x:Int)) (by unfold dW; rw[List.getElem?_map,hk]; rfl),hl] at e1
   have e2:=tu N t i we wc ge gc (dW xs) ((dW xs).length:Nat) (k:Nat) (x:Nat) true
   rw[Dv,bD,hl] at e2
   have wr:=wrap_succ (show k≤big by omega)
   have cut:∀ {g:Int} {b:Bool},bF env N 18 [2,2,5,2,1,2,4,2] 1 1 (sRh t i we wc ge gc (dW xs) (xs.length:Nat) (k:Nat) (x:Nat) true)= .ok (.norm,Il t i we wc ge gc (dW xs) (xs.length:Nat) (k:Nat) (x:Nat) g true b)→bF env N 18 [2,2,5,2,1,2,4,2] 0 2 (V3 t i we wc ge gc (dW xs) (xs.length:Nat) (k:Nat) true)= .ok (.norm,Il t i we wc ge gc (dW xs) (xs.length:Nat) (k:Nat) (x:Nat) g true b):=fun h=>by
    exact KU 1 1 e1 h
   have fin:∀ {g:Int} {b:Bool} {DU:List dL} {wc':Nat},bF env N 18 [2,2,5,2,1,2,4,2] 1 1 (sRh t i we wc ge gc (dW xs) (xs.length:Nat) (k:Nat) (x:Nat) true)= .ok (.norm,Il t i we wc ge gc (dW xs) (xs.length:Nat) (k:Nat) (x:Nat) g true b)→(mJ env N 18 [2,2,5,2,1,2,4,2] 2 1 (Il t i we wc ge gc (dW xs) (xs.length:Nat) (k:Nat) (x:Nat) g true b) (AL env N 18 [2,2,5,2,1,2] 4 9 3 1))= .ok (.norm,UG t i DU wc' ge gc (dW xs) (xs.length:Nat) (k+1:Nat))→
    lS env N 18 [2,2,5,2,1,2] 4 (UG t i we wc ge gc (dW xs) ((dW xs).length:Nat) (k:Nat))= .ok (.norm,UG t i DU wc' ge gc (dW xs) ((dW xs).length:Nat) (k+1:Nat)):=fun h1 h2=>by
    rw[hl]
    exact wC (p:=[2,2,5,2,1,2]) (i:=4) (a:=2) (b:=2) (k1:=1) (k2:=1) (id:=9) (c:=gK ((aG env 18 [2,2,5,2,1,2,4]).getD 2 .skip)) (by kernel_rfl) (by kernel_rfl) (by kernel_rfl) (by kernel_rfl) (by kernel_rfl) e0 (cut h1) h2
   unfold Fp
   by_cases hn:x∈gs
   rotate_left
   · rw[if_neg hn]
     obtain⟨DU,wc',g1,g2⟩:=JU h x
     refine⟨DU,wc',g1,fin (g:=0) (b:=true) ?_ ?_⟩
     · exact e2.trans ((y5 hg ho x _ _).resolve_right fun h=>hn h.1).2
     · rw[ah6,wr]
       exact g2 fun e c=>(aj.ok (Ex.norm,UG t i e c ge gc (dW xs) (xs.length:Nat) (k+1:Nat)):aj (Ex×St))
   · rw[if_pos hn]
     refine⟨we,wc,h,fin (g:=1) (b:=false) ?_ ?_⟩
     · obtain⟨_,_,_,h1⟩:=(y5 hg ho x (aj.ok (Ex.norm,Il t i we wc ge gc (dW xs) (xs.length:Nat) (k:Nat) (x:Nat) 0 true true)) _).resolve_left fun h=>h.1 hn
       exact(e2.trans h1).trans rfl
     · rw[ah5,wr]; rfl)
  (fun we wc=>by
   have e0:=oJ N t i we wc ge gc (dW xs) ((dW xs).length:Nat) (xs.length:Nat)
   rw[hl,decide_eq_false (by omega),cond_false] at e0
   rw[hl]
   exact xY (p:=[2,2,5,2,1,2]) (i:=4) (by kernel_rfl) e0 (by kernel_rfl)) xs.length 0 we wc ws N (by omega) hw (by omega)
 exact⟨DU,wc',by simpa using h1,h2⟩
theorem aap {E:Env} {n:Nat} {f:FuncId} {p:List Nat} {i k:Nat} {st s:St} (h:mJ E n f p i k st (fun e s=>e.k (.ok s) (fun _=> .stuck) .stuck)= .ok s):bF E n f p i k st= .ok (.norm,s):=by
 rw[sH] at h
 obtain⟨⟨e,s'⟩,h1,h2⟩:=aY h
 cases e with
 |norm=>simp only[Ex.k,aj.ok.injEq] at h2; subst h2; exact h1
 |exit j=>simp[Ex.k] at h2
 |ret=>simp[Ex.k] at h2
def Tq (t:List Cf) (i:Nat) (m:Nat) (st:St):Prop:=∃ (we:List dL) (wc:Nat) (ws:List Nat) (ge:List dL) (gc:Nat) (gs:List Nat),st=qI t (i:Int) we wc ge gc∧iG we wc ws∧iG ge gc gs∧Ones ge∧(∀ x∈ws,x∉gs)∧Work t i (· ∈ws) (· ∈gs)∧m+gs.length=t.length
theorem KJ {t:List Cf} {i:Nat} {c:Cf} (h:t[i]? =some c):(iF t i).length≤c.s.length:=by
 unfold iF
 rw[h]
 exact List.length_filterMap_le _ _
theorem cR8 (N:Nat) (t:List Cf) (i:Int) (we:List dL) (wc:Nat) (ge:List dL) (gc:Nat):bF env N 18 [2,2,5,2,1,2] 5 1 (qI t i we wc ge gc)= .ok (.exit 6,qI t i we wc ge gc):=by kernel_rfl
theorem cR5 (t:List Cf) (i:Int) (we:List dL) (wc:Nat) (ge:List dL) (gc:Nat) (j v:Int) (n wd:Nat) (xs:List T) (q:Int):canon 0 (eu env 18 [2,2,5,2,1,2] 4).1 (⟨slots 70 [(0,PV.t (T.sl 6 (List.map Cf.t t))),(4,PV.t (i64 i)),(5,PV.mp 0),(6,PV.mp 1),(9,PV.t (i64 j)),(13,PV.t (i64 (↑(List.map Cf.t t).length:Int))),(14,PV.t (i64 i)),(36,PV.ptr 2 0),(37,PV.t (T.ak [T.bool true,i64 j,i64 v])),(38,PV.t (T.bool true)),(39,PV.t (T.ak [i64 j,i64 v])),(40,PV.t (i64 j)),(41,PV.mp 0),(42,PV.t (i64 j)),(43,PV.mp 1),(44,PV.t (i64 j)),(45,PV.t (i64 0)),(46,PV.t (i64 1)),(47,PV.t (T.sl 6 (List.map Cf.t t))),(48,PV.t (i64 j)),(49,PV.t (T.sl 1 xs)),(50,PV.t (i64 q)),(51,PV.t (i64 0))],[au.map we wc,au.map ge gc,au.iter 0 wd [n] wd]⟩)=UG t i we wc ge gc xs q 0:=by kernel_rfl
theorem cR6 (t:List Cf) (i:Int) (we:List dL) (wc:Nat) (ge:List dL) (gc:Nat):canon 0 (eu env 18 [2,2] 5).1 (canon 0 (eu env 18 [2,2,5,2] 1).2 (qI t i we wc ge gc))=qI t i we wc ge gc:=by kernel_rfl
theorem cRx (t:List Cf) (i:Int) (we:List dL) (wc:Nat) (ge:List dL) (gc:Nat) (n:Int) (b:Bool):canon 0 (eu env 18 [2,2] 5).2 (V4 t i we wc ge gc n b)=sRx t i ge gc:=by kernel_rfl
theorem O6 {N:Nat} (hN:big+80≤N) {t:List Cf} {i x n:Nat} {v:Int} {we ge:List dL} {wc gc:Nat} {ws gs:List Nat} (ht:dN Cf.ok t) (hts:∀ c∈t,(c.s.length+1)*8≤big) (hw:iG we wc ws) (hg:iG ge gc gs) (ho:Ones ge) (hx:x∈ws) (hxl:x < t.length) (hxg:x∉gs) {Q:Ex→St→Prop}
 (hQ:∀ we2 Iy NP EC QF,(∀ y,y∈NP↔y∈ws∧y≠x)→iG we2 Iy ((iF t x).foldl (Fp (gs++ [x])) NP)→iG EC QF (gs++ [x])→Ones EC→Q (.exit 6) (qI t (i:Int) we2 Iy EC QF)):
 ah env N 18 [2,2,5,2,1,2] 1 (sRd t (i:Int) we wc ge gc (x:Int) v n) Q:=by
 have hbg:=bH
 have z:=zRD N t (i:Int) we wc ge gc (x:Int) v n
 rcases findD hw x with ⟨hn,_⟩|⟨i1,a,b,hi1,he1,hf1⟩
 · exact absurd hx hn
 have hfg:iK [0] (i64 (x:Int)) ge 0=some none:=by
  rcases findD hg x with ⟨_,h⟩|⟨_,_,_,h,_⟩
  · exact h
  · exact absurd (List.mem_of_getElem? h) hxg
 simp only[Dv,bD,eY,hf1,hfg] at z
 refine eP (e:= .norm) 2 (aap z) ?_
 refine nU ?_
 show ah env N 18 [2,2,5,2,1,2] 3 (aeo t (i:Int) (we.eraseIdx i1) wc (ge++ [(i64 (x:Int),i64 1,gc)]) (gc+1) (x:Int) v n wc) _
 have hw1:=hw.strike i1
 have hg1:=hg.add hxg 1
 have ho1:=ho.add (i64 (x:Int)) gc
 have hst:∀ y,y∈ws.eraseIdx i1↔y∈ws∧y≠x:=fun y=>Fh hw.nd hi1
 generalize we.eraseIdx i1=we1 at hw1
 generalize ge++ [(i64 (x:Int),i64 1,gc)]=EC at hg1 ho1
 generalize ws.eraseIdx i1=NP at hw1 hst
 have hc:t[x]? =some t[x]:=List.getElem?_eq_getElem hxl
 obtain⟨M,rfl⟩:=gV (show 1≤N by omega)
 have z2:=xM (M+1) t (i:Int) we1 wc EC (gc+1) (x:Int) v n wc
 rw[aV (Ud (by omega) ht hc (hts _ (List.mem_of_getElem? hc)))] at z2
 simp only[jF] at z2
 refine eP (e:= .norm) 1 z2 ?_
 refine nU ?_
 have hpl:(iF t x).length≤big:=by
  have h1:=KJ hc
  have h2:=hts _ (List.mem_of_getElem? hc)
  omega
 obtain⟨we2,Iy,hw2,hit⟩:=ada (N:=M+1) (t:=t) (i:=(i:Int)) (by omega) (iF t x) hpl hw1 hg1 ho1
 refine uf (p:=[2,2,5,2,1,2]) (i:=4) (id:=8) (X:=qI t (i:Int) we2 Iy EC (gc+1)) (c:=gK ((aG env 18 [2,2,5,2,1,2]).getD 4 .skip)) (by kernel_rfl) ?_ ?_
 · refine Eq.trans ?_ hit
   exact congrArg _ (cR5 t (i:Int) we1 wc EC (gc+1) (x:Int) v n wc (dW (iF t x)) ((dW (iF t x)).length:Nat))
 refine eP (e:= .exit 6) 1 (cR8 (M+1) t (i:Int) we2 Iy EC (gc+1)) ?_
 exact sV (hQ _ _ _ _ _ hst hw2 hg1 ho1)
theorem O7 {N:Nat} (hN:big+80≤N) {t:List Cf} {i:Nat} {we ge:List dL} {wc gc:Nat} {ws gs:List Nat} (ht:dN Cf.ok t) (hts:∀ c∈t,(c.s.length+1)*8≤big) (hw:iG we wc ws) (hg:iG ge gc gs) (ho:Ones ge) (hne:ws≠ []) (hwx:∀ x∈ws,x < t.length∧x∉gs) {Q:Ex→St→Prop}
 (hQ:∀ x we2 Iy NP EC QF,x∈ws→(∀ y,y∈NP↔y∈ws∧y≠x)→iG we2 Iy ((iF t x).foldl (Fp (gs++ [x])) NP)→iG EC QF (gs++ [x])→Ones EC→Q (.exit 6) (qI t (i:Int) we2 Iy EC QF)):
 ah env N 18 [2,2,5,2,1] 0 (sRr t (i:Int) we wc ge gc wc wc []) Q:=by
 refine Ig (by kernel_rfl) (of_decide_eq_true (by kernel_rfl)) ?_
 refine KF (o:=ac5) (by kernel_rfl) ?_
 refine step_next (x:= .tmp 36) (l:=2) (m:=0) (since:=wc) (last:=wc) (c:=wc) (seen:=[]) (es:=we) rfl rfl (by kernel_rfl) rfl rfl hw.lt (.inl rfl) (fun hf=>?_) fun e he=>?_
 · exfalso
   have:vM [] we=we:=List.filter_eq_self.2 (by simp)
   rw[this] at hf
   have hlen:=hw.len
   rw[hf] at hlen
   exact hne (List.length_eq_zero_iff.1 hlen.symm)
 · have he1:=(List.mem_filter.1 he).1
   obtain⟨x,v,hx,k2,k3⟩:=hw.mem he1
   generalize e.2.2=n at k2 k3
   subst k2
   obtain⟨hxl,hxg⟩:=hwx x hx
   refine agv 1 (zRN N t (i:Int) we wc ge gc (x:Int) v n) ?_
   refine nU ?_
   refine mX (p:=[2,2,5,2,1]) (i:=2) (id:=7) (c:=gK ((aG env 18 [2,2,5,2,1]).getD 2 .skip)) (by kernel_rfl) (by kernel_rfl) ?_
   show ah env N 18 [2,2,5,2,1,2] 0 _ _
   refine Ig (by kernel_rfl) (of_decide_eq_true (by kernel_rfl)) ?_
   refine KF (o:=ac3) (by kernel_rfl) ?_
   refine O9 (x:= .tmp 36) (l:=2) (m:=0) (since:=wc) (c:=wc) (n:=n) (seen:=[]) (es:=we) (e:=(i64 (x:Int),i64 v,n)) rfl rfl (by kernel_rfl) rfl rfl k3 ?_
   show DF env N 18 [2,2,5,2,1,2] 0 1 (sRe t (i:Int) we wc ge gc (x:Int) v n) _
   refine agu (k:=0) (zRE N t (i:Int) we wc ge gc (x:Int) v n) ?_
   refine O6 hN ht hts hw hg ho hx hxl hxg fun we2 Iy NP EC QF h1 h2 h3 h4=>sV ?_
   rw[if_neg (by decide)]
   exact hQ x we2 Iy NP EC QF hx h1 h2 h3 h4
theorem ring_step {N:Nat} (hN:big+80≤N) {t:List Cf} {i:Nat} (ht:dN Cf.ok t) (hts:∀ c∈t,(c.s.length+1)*8≤big) {Q:Ex→St→Prop}
 (hend:∀ ge gc gs,iG ge gc gs→Ones ge→(∀ j,j∈gs↔Up t i j)→ah env N 18 [2,2] 6 (sRx t (i:Int) ge gc) Q) (m:Nat) (st:St) (hI:Tq t i m st):
 ah env N 18 ([2,2]++ [5]) 0 st fun e st=>e.kP (∃ m',m' < m∧Tq t i m' (canon 0 (eu env 18 [2,2] 5).1 st))
  (fun j=>if j=4 then ah env N 18 [2,2] (5+1) (canon 0 (eu env 18 [2,2] 5).2 st) Q else Q (.exit j) (canon 0 (eu env 18 [2,2] 5).2 st)) (Q .ret (canon 0 (jT (dG env 18)) st)):=by
 have hbg:=bH
 have htl:=ht.1
 obtain⟨we,wc,ws,ge,gc,gs,rfl,hw,hg,ho,hd,hk,hm⟩:=hI
 have hwl:ws.length≤t.length:=wK _ _ hw.nd fun x hx=>(hk.up x (.inl hx)).lt
 have hlen:=hw.len
 show ah env N 18 [2,2,5] 0 _ _
 have h1:=GI N t (i:Int) we wc ge gc
 rw[decide_eq_true (show we.length≤140737488355328 by omega),bD] at h1
 by_cases hne:ws= []
 · rw[hne,List.length_nil] at hlen
   rw[hlen,decide_eq_false (by simp),cond_false] at h1
   refine eP (e:= .exit 4) 2 h1 ?_
   refine sV (sV ?_)
   rw[if_pos rfl,cRx]
   exact hend ge gc gs hg ho fun j=>hk.done (fun j hj=>by rw[hne] at hj; cases hj) j
 · rw[decide_eq_true (by have:=List.length_pos_iff.2 hne; omega),cond_true] at h1
   refine eP (e:= .norm) 2 h1 ?_
   refine nU ?_
   refine mX (p:=[2,2,5]) (i:=2) (id:=5) (c:=gK ((aG env 18 [2,2,5]).getD 2 .skip)) (by kernel_rfl) (by kernel_rfl) ?_
   show ah env N 18 [2,2,5,2] 0 _ _
   obtain⟨st1,g1,g2⟩:=yS (zRR N t (i:Int) we wc ge gc (we.length:Int) true)
   refine Qe 1 g1 ?_
   refine nU ?_
   refine wo (p:=[2,2,5,2]) (i:=1) (id:=6) (c:=gK ((aG env 18 [2,2,5,2]).getD 1 .skip)) (by kernel_rfl) (by kernel_rfl) (fun _ st=>st=sRr t (i:Int) we wc ge gc wc wc []) (m:=0) g2 ?_
   rintro _ st rfl
   refine O7 hN ht hts hw hg ho hne (fun x hx=>⟨(hk.up x (.inl hx)).lt,hd x hx⟩) fun x we2 Iy NP EC QF hx hst hw2 hg1 ho1=>sV ?_
   rw[if_pos rfl]
   refine lC (by kernel_rfl) (nU (lC (by kernel_rfl) (nU ?_)))
   rw[cR6]
   have hmem:∀ y,y∈(iF t x).foldl (Fp (gs++ [x])) NP↔(y∈ws∧y≠x)∨(y∈iF t x∧ ¬ (y∈gs∨y=x)):=fun y=>by
    rw[JI,hst]; simp
   have hgl:(gs++ [x]).length≤t.length:=wK _ _ hg1.nd fun y hy=>by
    rcases List.mem_append.1 hy with hy|hy
    · exact(hk.up y (.inr hy)).lt
    · rw[List.mem_singleton.1 hy]; exact(hk.up x (.inl hx)).lt
   rw[List.length_append,List.length_singleton] at hgl
   refine⟨m - 1,by omega,we2,Iy,_,EC,QF,gs++ [x],rfl,hw2,hg1,ho1,fun y hy hy2=>?_,?_,by rw[List.length_append,List.length_singleton]; omega⟩
   · have h3:y∈gs∨y=x:=by simpa using hy2
     rcases(hmem y).1 hy with ⟨h1,h2⟩|⟨_,h2⟩
     · exact h3.elim (hd y h1) h2
     · exact h2 h3
   · have e1:(fun y=>y∈(iF t x).foldl (Fp (gs++ [x])) NP)=fun y=>(y∈ws∧y≠x)∨(y∈iF t x∧ ¬ (y∈gs∨y=x)):=funext fun y=>propext (hmem y)
     have e2:(fun y=>y∈gs++ [x])=fun y=>y∈gs∨y=x:=funext fun y=>propext (by simp)
     rw[e1,e2]
     exact hk.step hx
theorem cR0 (N:Nat) (t:List Cf):Fz env 18 [] 2 (bF env N 18 [] 0 2 (qX env 18 [.t (.sl 6 (t.map Cf.t))]))= .ok (.norm,RH t 0):=by kernel_rfl
theorem cRz (t:List Cf) (i:Int) (b:Bool):canon 0 (eu env 18 [] 2).2 (Og t i b)=⟨slots 70 [],[]⟩:=by kernel_rfl
theorem cR4 (t:List Cf) (i:Int) (b:Bool) (x:List T) (n:Int):canon 0 (eu env 18 [2,2] 4).1 ⟨slots 70 [(0,PV.t (T.sl 6 (List.map Cf.t t))),(4,PV.t (i64 i)),(5,PV.mp 0),(6,PV.mp 1),(13,PV.t (i64 (↑(List.map Cf.t t).length:Int))),(14,PV.t (i64 i)),(15,PV.t (T.bool b)),(16,PV.t (i64 i)),(17,PV.mp 0),(18,PV.mp 1),(19,PV.t (T.sl 6 (List.map Cf.t t))),(20,PV.t (i64 i)),(21,PV.t (.sl 1 x)),(22,PV.t (i64 n)),(23,PV.t (i64 0))],[au.map [] 0,au.map [] 0]⟩=RI t i [] 0 [] 0 x n 0:=by kernel_rfl
theorem ahk (t:List Cf) (i:Int) (we:List dL) (wc:Nat) (ge:List dL) (gc:Nat):canon 0 (eu env 18 [2,2] 5).1 (qI t i we wc ge gc)=qI t i we wc ge gc:=by kernel_rfl
theorem JH {y:Nat}:∀ (l ks:List Nat),y∈l.foldl addN ks↔y∈ks∨y∈l
 | [],ks=>by simp
 |x::l,ks=>by
  rw[List.foldl_cons,JH l,Kz,List.mem_cons]
  constructor
  · rintro((h|h)|h)
    · exact .inl h
    · exact .inr (.inl h)
    · exact .inr (.inr h)
  · rintro(h|h|h)
    · exact .inl (.inl h)
    · exact .inl (.inr h)
    · exact .inr h
theorem Rj {N:Nat} (hN:big+80≤N) {t:List Cf} {i:Nat} (ht:dN Cf.ok t) (hts:∀ c∈t,(c.s.length+1)*8≤big) (hi:i < t.length) {Q:Ex→St→Prop}
 (hend:∀ ge gc gs,iG ge gc gs→Ones ge→(∀ j,j∈gs↔Up t i j)→ah env N 18 [2,2] 6 (sRx t (i:Int) ge gc) Q):ah env N 18 [2,2] 0 (Og t (i:Int) true) Q:=by
 have hbg:=bH
 obtain⟨M,rfl⟩:=gV (show 1≤N by omega)
 have hc:t[i]? =some t[i]:=List.getElem?_eq_getElem hi
 have z:=Nj (M+1) t (i:Int) true
 rw[aV (Ud (by omega) ht hc (hts _ (List.mem_of_getElem? hc)))] at z
 simp only[jF] at z
 refine eP (e:= .norm) 4 z ?_
 refine nU ?_
 have hpl:(iF t i).length≤big:=by
  have h1:=KJ hc
  have h2:=hts _ (List.mem_of_getElem? hc)
  omega
 obtain⟨we,wc,hw,hit⟩:=ac9 (N:=M+1) (t:=t) (i:=(i:Int)) (by omega) (iF t i) hpl
 refine uf (p:=[2,2]) (i:=4) (id:=2) (X:=qI t (i:Int) we wc [] 0) (c:=gK ((aG env 18 [2,2]).getD 4 .skip)) (by kernel_rfl) ?_ ?_
 · refine Eq.trans ?_ hit
   exact congrArg _ (cR4 t (i:Int) true (dW (iF t i)) ((dW (iF t i)).length:Nat))
 have hm:∀ y,y∈(iF t i).foldl addN []↔y∈iF t i:=fun y=>by rw[JH]; simp
 refine wo (p:=[2,2]) (i:=5) (id:=4) (c:=gK ((aG env 18 [2,2]).getD 5 .skip)) (by kernel_rfl) (by kernel_rfl) (Tq t i) (m:=t.length) ?_ (ring_step hN ht hts hend)
 rw[ahk]
 exact⟨we,wc,_,[],0,[],rfl,hw,iG.nil 0,fun e he=>(by cases he),fun x _ h=>(by cases h),⟨fun j hj=>hj.elim (fun h=> .one ((hm j).1 h)) (fun h=>(by cases h)),fun j hj=> .inl ((hm j).2 hj),fun j hj=>(by cases hj)⟩,by simp⟩
theorem Rn {t:List Cf} {i:Nat} (hi:i < t.length) (h:Up t i i) (hb:∀ j < i,¬ Up t j j):nN t=some i:=by
 unfold nN
 rw[List.find?_eq_some_iff_getElem]
 refine⟨(steps_iff hi).2 h,i,by rw[List.length_range]; exact hi,List.getElem_range _,fun j hj=>?_⟩
 rw[List.getElem_range]
 cases hs:fF t j t.length j with
 |true=>exact absurd ((steps_iff (by omega)).1 hs) (hb j hj)
 |false=>rfl
theorem Rk {t:List Cf} (hb:∀ j < t.length,¬ Up t j j):nN t=none:=by
 unfold nN
 rw[List.find?_eq_none]
 intro j hj
 rw[List.mem_range] at hj
 intro h
 exact hb j hj ((steps_iff hj).1 h)
theorem abW (i:Nat) (R:PV→List au→Prop) (h:∀ r H',bU env 18 r H'= .ok (wM (some i))→R r H'):xq env (dG env 18) R ⟨slots 70 [(2,PV.t (i64 (i:Int))),(3,PV.t (T.bool true))],[]⟩:=⟨.ak [.t (i64 (i:Int)),.t (.bool true)],[],by kernel_rfl,h _ _ (by kernel_rfl)⟩
theorem abV (R:PV→List au→Prop) (h:∀ r H',bU env 18 r H'= .ok (wM none)→R r H'):xq env (dG env 18) R ⟨slots 70 [(2,PV.t (i64 0)),(3,PV.t (T.bool false))],[]⟩:=⟨.ak [.t (i64 0),.t (.bool false)],[],by kernel_rfl,h _ _ (by kernel_rfl)⟩
theorem Ri {N:Nat} (hN:big+80≤N) {t:List Cf} (ht:dN Cf.ok t) (hts:∀ c∈t,(c.s.length+1)*8≤big):JD env (aJ env N) 18 ([T.sl 6 (t.map Cf.t)].map .t) [] (fun r H'=>bU env 18 r H'= .ok (wM (nN t))):=by
 have hbg:=bH
 have htl:=ht.1
 refine Ez ⟨dG env 18,by kernel_rfl,by kernel_rfl⟩ ?_
 refine uF (i:=0) 2 (id:=0) (c:=gK ((aG env 18 []).getD 2 .skip)) (cR0 N t) (by kernel_rfl) (by kernel_rfl) (fun k st=>∃ i:Nat,i+k=t.length∧st=RH t (i:Nat)∧∀ j < i,¬ Up t j j) (m:=t.length) ⟨0,by omega,rfl,by simp⟩ ?_
 rintro k st ⟨i,hik,rfl,hb⟩
 show ah env N 18 [2] 0 _ _
 have h1:=Ti N t (i:Nat)
 by_cases hi:i < t.length
 · rw[decide_eq_true (by rw[List.length_map]; omega),cond_true] at h1
   refine eP (e:= .norm) 2 h1 ?_
   refine nU ?_
   refine mX (p:=[2]) (i:=2) (id:=1) (c:=gK ((aG env 18 [2]).getD 2 .skip)) (by kernel_rfl) (by kernel_rfl) ?_
   refine Rj hN ht hts hi fun ge gc gs hg ho hup=>?_
   have z:=zRX N t (i:Nat) ge gc
   rw[Dv,bD,wrap_succ (show i≤big by omega)] at z
   by_cases hr:i∈gs
   · obtain⟨_,_,_,hk⟩:=(y5 hg ho i (aj.ok (Ex.norm,RH t (i+1:Nat))) _).resolve_left fun h=>h.1 hr
     refine ER (p:=[]) (i:=2) (a:=2) (b:=6) (k1:=2) (k2:=1) (id:=1) (by kernel_rfl) (by kernel_rfl) (z.trans hk) fun e' s' he=>?_
     cases e' with
     |norm=>simp[oM,Ex.k] at he
     |exit j=>simp[oM,Ex.k] at he
     |ret=>
      simp only[oM,Ex.k,aj.ok.injEq,Prod.mk.injEq,true_and] at he
      refine Nq ?_
      refine Nq ?_
      rw[he]
      exact abW i _ fun r H' h=>by rw[Rn hi ((hup i).1 hr) hb]; exact h
   · have hk:∀ B,eY [0] (i64 (i:Int)) ge (aj.ok (Ex.norm,RH t (i+1:Nat))) B=aj.ok (Ex.norm,RH t (i+1:Nat)):=fun B=>((y5 hg ho i (aj.ok (Ex.norm,RH t (i+1:Nat))) B).resolve_right fun h=>hr h.1).2
     refine ER (p:=[]) (i:=2) (a:=2) (b:=6) (k1:=2) (k2:=1) (id:=1) (by kernel_rfl) (by kernel_rfl) (z.trans (hk _)) fun e' s' he=>?_
     cases e' with
     |norm=>
      simp only[oM,Ex.k,aj.ok.injEq,Prod.mk.injEq,true_and] at he
      refine nU ⟨k - 1,by omega,i+1,by omega,he,fun j hj=>?_⟩
      rcases Nat.lt_succ_iff_lt_or_eq.1 hj with h|rfl
      · exact hb j h
      · exact fun h=>hr ((hup _).2 h)
     |exit j=>simp[oM,Ex.k] at he
     |ret=>simp[oM,Ex.k] at he
 · rw[decide_eq_false (by rw[List.length_map]; omega),cond_false] at h1
   refine eP (e:= .exit 0) 2 h1 ?_
   refine sV (sV ?_)
   rw[if_pos rfl,cRz]
   refine eP (e:= .ret) 2 (Tf N) ?_
   refine Nq ?_
   refine abV _ fun r H' h=>?_
   rw[Rk fun j hj=>hb j (by omega)]; exact h
end
section
open Go.RowKit Go.Proofs
def dD (a r:Int):Sd:=⟨a,r,[⟨0,⟨0,0⟩,0,2,400 - 100*r⟩],if r=1 then[⟨0,⟨0,0⟩,0,1,0⟩] else[⟨4,⟨0,0⟩,0,1,0⟩,⟨4,⟨0,0⟩,1,1,0⟩]⟩
def Ie (own:List Px) (i:Nat):List Px:=match own[i]? with|some p=>if jo p then[p] else[]|none=>[]
def oW (own:List Px) (i:Nat):Cf:=⟨65001+(i:Int),167772161+(i:Int),90,1000,Ie own i,[]⟩
def JE (n:Int):Nat:=(max 1 (min n 8)).toNat
def pK (m:Nat) (x:Lk):Bool:=decide (0≤x.a)&&decide (x.a < m)&&decide (0≤x.b)&&decide (x.b < m)&& !(x.a==x.b)&&decide (1≤x.r)&&decide (x.r≤3)
def jq (c:Cf) (s:Sd):Cf:={c with s:=c.s++ [s]}
def pR (t:List Cf) (x:Lk):List Cf:=if pK t.length x then(match t[x.a.toNat]?,t[x.b.toNat]? with
 |some c,some d=>if (idxOf c d.a).isSome then t else(t.set x.a.toNat (jq c (dD d.a x.r))).set x.b.toNat (jq d (dD c.a (4 - x.r)))
 |_,_=>t) else t
def NS (n:Int) (own:List Px) (l:List Lk):List Cf:=l.foldl pR ((List.range (JE n)).map (oW own))
def wR:Nat→List Cf→List PV
 |_,[]=>[]
 |b,c::r=> .t (i64 c.a):: .t (i64 c.d):: .t (i64 c.h):: .t (i64 c.k):: .t (.sl 2 (c.w.map Px.t)):: .own b::wR (b+1) r
def uV:Nat→List PV
 |0=>[]
 |n+1=> .t (i64 0):: .t (i64 0):: .t (i64 0):: .t (i64 0):: .nil 66 2:: .nil 48 4::uV n
def CO:List Cf→List au
 | []=>[]
 |c::r=> .row 48 4 (c.s.map Sd.t)::CO r
def aP (m:Nat) (t:List Cf) (H:List au):List au:= .box 22 1 (.own 1):: .vec 45 6 m (wR 2 t++uV (m - t.length))::(CO t++H)
def Rw (own:List Px) (l:List Lk) (m:Nat) (t:List Cf):St:=⟨slots 153 [(1,.t (.sl 2 (own.map Px.t))),(2,.t (.sl 3 (l.map Lk.t))),(7,.ptr 0 0),(19,.t (i64 m)),(20,.t (i64 t.length))],aP m t []⟩
def VR (l:List Lk) (t:List Cf):St:=⟨slots 153 [(2,.t (.sl 3 (l.map Lk.t))),(7,.ptr 0 0)],aP t.length t []⟩
def rC (l:List Lk) (j:Int):List (Nat×PV):=[(7,.ptr 0 0),(9,.fn 42 [] [.ptr 0 0]),(55,.t (.sl 3 (l.map Lk.t))),(56,.t (i64 (l.map Lk.t).length)),(57,.t (i64 j))]
def UE (l:List Lk) (t:List Cf) (j:Int):St:=⟨slots 153 (rC l j),aP t.length t []⟩
def VT (t:List Cf):St:=⟨slots 153 [(7,.ptr 0 0)],aP t.length t []⟩
def jf (l:List Lk) (t:List Cf) (j:Int) (x:Lk) (d:Nat→PV):St:=⟨uQ 153 d ((11,.ptr (t.length+2) 0)::rC l j),aP t.length t [.box 40 3 (.t x.t)]⟩
def sG4 (l:List Lk) (t:List Cf) (j:Int) (x:Lk) (b:Bool) (d:Nat→PV):St:=⟨uQ 153 d ((11,.ptr (t.length+2) 0)::(13,.t (.bool b))::rC l j),aP t.length t [.box 40 3 (.t x.t)]⟩
variable [Lv]
end
section
open Go.RowKit Go.Proofs
variable [Lv]
def FU (own:List Px) (l:List Lk) (m i:Nat) (H:List au):St:=⟨slots 153 [(1,.t (.sl 2 (own.map Px.t))),(2,.t (.sl 3 (l.map Lk.t))),(7,.ptr 0 0),(8,.t (i64 i)),(19,.t (i64 m)),(20,.t (i64 i))],H⟩
theorem ah4 (N:Nat) (own:List Px) (l:List Lk) (m i:Nat) (H:List au):(bF env N 21 [3,2] 2 1 (FU own l m i H))=bif decide ((↑i:Int) < (↑(List.map Px.t own).length:Int)) then dF (List.map Px.t own) (↑i:Int) fun e=>cl N 41 [e] fun x=>aj.ok (Ex.norm,{tmps:=slots 153 [(1,PV.t (T.sl 2 (List.map Px.t own))),(2,PV.t (T.sl 3 (List.map Lk.t l))),(7,PV.ptr 0 0),(8,PV.t (i64 (↑i:Int))),(19,PV.t (i64 (↑m:Int))),(20,PV.t (i64 (↑i:Int))),(31,PV.t (i64 (↑i:Int))),(32,PV.t (T.sl 2 (List.map Px.t own))),(33,PV.t (i64 (↑(List.map Px.t own).length:Int))),(34,PV.t (T.bool (decide ((↑i:Int) < (↑(List.map Px.t own).length:Int))))),(35,PV.t (T.bool true)),(36,PV.t (T.sl 2 (List.map Px.t own))),(37,PV.t (i64 (↑i:Int))),(38,PV.rp 2 e 0),(39,PV.t e),(40,PV.t x),(41,PV.t x)],heap:=H}) else aj.ok (Ex.norm,{tmps:=slots 153 [(1,PV.t (T.sl 2 (List.map Px.t own))),(2,PV.t (T.sl 3 (List.map Lk.t l))),(7,PV.ptr 0 0),(8,PV.t (i64 (↑i:Int))),(19,PV.t (i64 (↑m:Int))),(20,PV.t (i64 (↑i:Int))),(31,PV.t (i64 (↑i:Int))),(32,PV.t (T.sl 2 (List.map Px.t own))),(33,PV.t (i64 (↑(List.map Px.t own).length:Int))),(34,PV.t (T.bool (decide ((↑i:Int) < (↑(List.map Px.t own).length:Int))))),(35,PV.t (T.bool false)),(36,PV.ak []),(37,PV.ak []),(38,PV.ak []),(39,PV.ak []),(40,PV.ak []),(41,PV.t (T.bool false))],heap:=H}):=by kernel_rfl
def aej (own:List Px) (l:List Lk) (m i:Nat) (H:List au):St:=⟨slots 153 [(1,.t (.sl 2 (own.map Px.t))),(2,.t (.sl 3 (l.map Lk.t))),(7,.ptr 0 0),(8,.t (i64 i)),(19,.t (i64 m)),(20,.t (i64 i)),(41,.t (.bool true))],H⟩
end
section
open Go.RowKit Go.Proofs
variable [Lv]
def ou (i:Nat):Cf:=⟨65001+(i:Int),167772161+(i:Int),90,1000,[],[]⟩
def ahz (own:List Px) (l:List Lk) (m i:Nat):List (Nat×PV):=[(1,.t (.sl 2 (own.map Px.t))),(2,.t (.sl 3 (l.map Lk.t))),(7,.ptr 0 0),(19,.t (i64 m)),(20,.t (i64 i))]
def Oe (own:List Px) (l:List Lk) (m i:Nat) (H:List au) (d:Nat→PV):St:=⟨uQ 153 d (ahz own l m i),H⟩
def aaX (m:Nat) (t:List Cf) (W:List T):List au:=(aP m t []).set 1 (.vec 45 6 m ((wR 2 t++uV (m - t.length)).set (6*(t.length - 1)+4) (.full 2 W)))
def abE (own:List Px) (l:List Lk) (m i:Nat) (H:List au):St:=⟨slots 153 [(1,.t (.sl 2 (own.map Px.t))),(2,.t (.sl 3 (l.map Lk.t))),(7,.ptr 0 0),(8,.t (i64 i)),(19,.t (i64 m)),(20,.t (i64 i)),(41,.t (.bool true)),(42,.own 1),(43,.t (i64 i)),(44,.t (.sl 2 (own.map Px.t))),(45,.t (i64 i)),(46,.t (i64 i)),(47,.t (i64 ((i+1:Nat):Int))),(48,.t (i64 i)),(49,.t (i64 ((i+1:Nat):Int))),(50,.full 2 (((own.map Px.t).take (i+1)).drop i)),(51,.fJ 1 6 i 0),(52,.fJ 1 6 i 4)],H⟩
def TF (t:List Cf) (W:List Px):List Cf:=t.take (t.length - 1)++(t.drop (t.length - 1)).map fun c=>{c with w:=W}
noncomputable def op5:Array Oper:=gI env 21 [3,2] 1
noncomputable def op8:Array Oper:=gI env 21 [3] 3
structure gu (N:Nat) (own:List Px) (l:List Lk) (m:Nat) (t0:List Cf):Prop where
 n1:(aQ env (aJ env N) op5 (op5.toList.map fun o=>(o,false)) (FU own l m t0.length (aP m t0 [])) fun s=>(.ok s:aj St)).bind (fun s=>(.ok ⟨bZ [1,2,7,8,19,20] s.tmps,nI 1 (6*t0.length+4) (yN 1 (6*t0.length+5) s.heap)⟩:aj St))= .ok (FU own l m t0.length (aP m (t0++ [ou t0.length]) []))
structure gB (N:Nat) (own:List Px) (l:List Lk) (m i:Nat) (t:List Cf):Prop where
 n3:bF env N 21 [3,2] 3 1 (aej own l m i (aP m t []))=chk (decide ((0:Int)≤((i+1:Nat):Int))&&decide (((i+1:Nat):Int)≤(((own.map Px.t).length:Nat):Int))) (.ok (.norm,abE own l m i (aaX m t (((own.map Px.t).take (i+1)).drop i))))
 n4:∀ (W:List Px) (d:Nat→PV),(aQ env (aJ env N) op8 (op8.toList.map fun o=>(o,false)) (Oe own l m i (aaX m t (W.map Px.t)) d) fun s=>(.ok s:aj St)).bind (fun s=>(.ok ⟨bZ [1,2,7,19,20] s.tmps,nI 1 (6*i+4) s.heap⟩:aj St))= .ok (Rw own l m (TF t W))
 n6:∀ (d:Nat→PV),(aQ env (aJ env N) op8 (op8.toList.map fun o=>(o,false)) (Oe own l m i (aP m t []) d) fun s=>(.ok s:aj St)).bind (fun s=>(.ok ⟨bZ [1,2,7,19,20] s.tmps,nI 1 (6*i+4) s.heap⟩:aj St))= .ok (Rw own l m t)
 n5:canon 0 (eu env 21 [] 3).1 (Rw own l m t)=Rw own l m t
theorem afd (N:Nat) (own:List Px) (l:List Lk):gu N own l 1 []:=⟨by kernel_rfl⟩
theorem afN (N:Nat) (own:List Px) (l:List Lk) (c0:Cf):gB N own l 1 0 [c0]:=⟨by kernel_rfl,fun W d=>by kernel_rfl,fun d=>by kernel_rfl,by kernel_rfl⟩
theorem afe (N:Nat) (own:List Px) (l:List Lk):gu N own l 2 []:=⟨by kernel_rfl⟩
theorem afO (N:Nat) (own:List Px) (l:List Lk) (c0:Cf):gB N own l 2 0 [c0]:=⟨by kernel_rfl,fun W d=>by kernel_rfl,fun d=>by kernel_rfl,by kernel_rfl⟩
theorem aff (N:Nat) (own:List Px) (l:List Lk):gu N own l 3 []:=⟨by kernel_rfl⟩
theorem afP (N:Nat) (own:List Px) (l:List Lk) (c0:Cf):gB N own l 3 0 [c0]:=⟨by kernel_rfl,fun W d=>by kernel_rfl,fun d=>by kernel_rfl,by kernel_rfl⟩
theorem afg (N:Nat) (own:List Px) (l:List Lk):gu N own l 4 []:=⟨by kernel_rfl⟩
theorem afQ (N:Nat) (own:List Px) (l:List Lk) (c0:Cf):gB N own l 4 0 [c0]:=⟨by kernel_rfl,fun W d=>by kernel_rfl,fun d=>by kernel_rfl,by kernel_rfl⟩
theorem afh (N:Nat) (own:List Px) (l:List Lk):gu N own l 5 []:=⟨by kernel_rfl⟩
theorem afR (N:Nat) (own:List Px) (l:List Lk) (c0:Cf):gB N own l 5 0 [c0]:=⟨by kernel_rfl,fun W d=>by kernel_rfl,fun d=>by kernel_rfl,by kernel_rfl⟩
theorem afi (N:Nat) (own:List Px) (l:List Lk):gu N own l 6 []:=⟨by kernel_rfl⟩
theorem afS (N:Nat) (own:List Px) (l:List Lk) (c0:Cf):gB N own l 6 0 [c0]:=⟨by kernel_rfl,fun W d=>by kernel_rfl,fun d=>by kernel_rfl,by kernel_rfl⟩
theorem afj (N:Nat) (own:List Px) (l:List Lk):gu N own l 7 []:=⟨by kernel_rfl⟩
theorem afT (N:Nat) (own:List Px) (l:List Lk) (c0:Cf):gB N own l 7 0 [c0]:=⟨by kernel_rfl,fun W d=>by kernel_rfl,fun d=>by kernel_rfl,by kernel_rfl⟩
theorem afk (N:Nat) (own:List Px) (l:List Lk):gu N own l 8 []:=⟨by kernel_rfl⟩
theorem afU (N:Nat) (own:List Px) (l:List Lk) (c0:Cf):gB N own l 8 0 [c0]:=⟨by kernel_rfl,fun W d=>by kernel_rfl,fun d=>by kernel_rfl,by kernel_rfl⟩
theorem afl (N:Nat) (own:List Px) (l:List Lk) (c0:Cf):gu N own l 2 [c0]:=⟨by kernel_rfl⟩
theorem afV (N:Nat) (own:List Px) (l:List Lk) (c0 c1:Cf):gB N own l 2 1 [c0,c1]:=⟨by kernel_rfl,fun W d=>by kernel_rfl,fun d=>by kernel_rfl,by kernel_rfl⟩
theorem afm (N:Nat) (own:List Px) (l:List Lk) (c0:Cf):gu N own l 3 [c0]:=⟨by kernel_rfl⟩
theorem afW (N:Nat) (own:List Px) (l:List Lk) (c0 c1:Cf):gB N own l 3 1 [c0,c1]:=⟨by kernel_rfl,fun W d=>by kernel_rfl,fun d=>by kernel_rfl,by kernel_rfl⟩
theorem afn (N:Nat) (own:List Px) (l:List Lk) (c0:Cf):gu N own l 4 [c0]:=⟨by kernel_rfl⟩
theorem afX (N:Nat) (own:List Px) (l:List Lk) (c0 c1:Cf):gB N own l 4 1 [c0,c1]:=⟨by kernel_rfl,fun W d=>by kernel_rfl,fun d=>by kernel_rfl,by kernel_rfl⟩
theorem afo (N:Nat) (own:List Px) (l:List Lk) (c0:Cf):gu N own l 5 [c0]:=⟨by kernel_rfl⟩
theorem afY (N:Nat) (own:List Px) (l:List Lk) (c0 c1:Cf):gB N own l 5 1 [c0,c1]:=⟨by kernel_rfl,fun W d=>by kernel_rfl,fun d=>by kernel_rfl,by kernel_rfl⟩
theorem afp (N:Nat) (own:List Px) (l:List Lk) (c0:Cf):gu N own l 6 [c0]:=⟨by kernel_rfl⟩
theorem afZ (N:Nat) (own:List Px) (l:List Lk) (c0 c1:Cf):gB N own l 6 1 [c0,c1]:=⟨by kernel_rfl,fun W d=>by kernel_rfl,fun d=>by kernel_rfl,by kernel_rfl⟩
theorem afq (N:Nat) (own:List Px) (l:List Lk) (c0:Cf):gu N own l 7 [c0]:=⟨by kernel_rfl⟩
theorem af0 (N:Nat) (own:List Px) (l:List Lk) (c0 c1:Cf):gB N own l 7 1 [c0,c1]:=⟨by kernel_rfl,fun W d=>by kernel_rfl,fun d=>by kernel_rfl,by kernel_rfl⟩
theorem afr (N:Nat) (own:List Px) (l:List Lk) (c0:Cf):gu N own l 8 [c0]:=⟨by kernel_rfl⟩
theorem af2 (N:Nat) (own:List Px) (l:List Lk) (c0 c1:Cf):gB N own l 8 1 [c0,c1]:=⟨by kernel_rfl,fun W d=>by kernel_rfl,fun d=>by kernel_rfl,by kernel_rfl⟩
theorem afs (N:Nat) (own:List Px) (l:List Lk) (c0 c1:Cf):gu N own l 3 [c0,c1]:=⟨by kernel_rfl⟩
theorem af4 (N:Nat) (own:List Px) (l:List Lk) (c0 c1 c2:Cf):gB N own l 3 2 [c0,c1,c2]:=⟨by kernel_rfl,fun W d=>by kernel_rfl,fun d=>by kernel_rfl,by kernel_rfl⟩
theorem aft (N:Nat) (own:List Px) (l:List Lk) (c0 c1:Cf):gu N own l 4 [c0,c1]:=⟨by kernel_rfl⟩
theorem af5 (N:Nat) (own:List Px) (l:List Lk) (c0 c1 c2:Cf):gB N own l 4 2 [c0,c1,c2]:=⟨by kernel_rfl,fun W d=>by kernel_rfl,fun d=>by kernel_rfl,by kernel_rfl⟩
theorem afu (N:Nat) (own:List Px) (l:List Lk) (c0 c1:Cf):gu N own l 5 [c0,c1]:=⟨by kernel_rfl⟩
theorem af6 (N:Nat) (own:List Px) (l:List Lk) (c0 c1 c2:Cf):gB N own l 5 2 [c0,c1,c2]:=⟨by kernel_rfl,fun W d=>by kernel_rfl,fun d=>by kernel_rfl,by kernel_rfl⟩
theorem afv (N:Nat) (own:List Px) (l:List Lk) (c0 c1:Cf):gu N own l 6 [c0,c1]:=⟨by kernel_rfl⟩
theorem af7 (N:Nat) (own:List Px) (l:List Lk) (c0 c1 c2:Cf):gB N own l 6 2 [c0,c1,c2]:=⟨by kernel_rfl,fun W d=>by kernel_rfl,fun d=>by kernel_rfl,by kernel_rfl⟩
theorem afw (N:Nat) (own:List Px) (l:List Lk) (c0 c1:Cf):gu N own l 7 [c0,c1]:=⟨by kernel_rfl⟩
theorem af8 (N:Nat) (own:List Px) (l:List Lk) (c0 c1 c2:Cf):gB N own l 7 2 [c0,c1,c2]:=⟨by kernel_rfl,fun W d=>by kernel_rfl,fun d=>by kernel_rfl,by kernel_rfl⟩
theorem afx (N:Nat) (own:List Px) (l:List Lk) (c0 c1:Cf):gu N own l 8 [c0,c1]:=⟨by kernel_rfl⟩
theorem af9 (N:Nat) (own:List Px) (l:List Lk) (c0 c1 c2:Cf):gB N own l 8 2 [c0,c1,c2]:=⟨by kernel_rfl,fun W d=>by kernel_rfl,fun d=>by kernel_rfl,by kernel_rfl⟩
theorem afy (N:Nat) (own:List Px) (l:List Lk) (c0 c1 c2:Cf):gu N own l 4 [c0,c1,c2]:=⟨by kernel_rfl⟩
theorem aga (N:Nat) (own:List Px) (l:List Lk) (c0 c1 c2 c3:Cf):gB N own l 4 3 [c0,c1,c2,c3]:=⟨by kernel_rfl,fun W d=>by kernel_rfl,fun d=>by kernel_rfl,by kernel_rfl⟩
theorem afz (N:Nat) (own:List Px) (l:List Lk) (c0 c1 c2:Cf):gu N own l 5 [c0,c1,c2]:=⟨by kernel_rfl⟩
theorem agb (N:Nat) (own:List Px) (l:List Lk) (c0 c1 c2 c3:Cf):gB N own l 5 3 [c0,c1,c2,c3]:=⟨by kernel_rfl,fun W d=>by kernel_rfl,fun d=>by kernel_rfl,by kernel_rfl⟩
theorem afA (N:Nat) (own:List Px) (l:List Lk) (c0 c1 c2:Cf):gu N own l 6 [c0,c1,c2]:=⟨by kernel_rfl⟩
theorem agc (N:Nat) (own:List Px) (l:List Lk) (c0 c1 c2 c3:Cf):gB N own l 6 3 [c0,c1,c2,c3]:=⟨by kernel_rfl,fun W d=>by kernel_rfl,fun d=>by kernel_rfl,by kernel_rfl⟩
theorem afB (N:Nat) (own:List Px) (l:List Lk) (c0 c1 c2:Cf):gu N own l 7 [c0,c1,c2]:=⟨by kernel_rfl⟩
theorem agd (N:Nat) (own:List Px) (l:List Lk) (c0 c1 c2 c3:Cf):gB N own l 7 3 [c0,c1,c2,c3]:=⟨by kernel_rfl,fun W d=>by kernel_rfl,fun d=>by kernel_rfl,by kernel_rfl⟩
theorem afC (N:Nat) (own:List Px) (l:List Lk) (c0 c1 c2:Cf):gu N own l 8 [c0,c1,c2]:=⟨by kernel_rfl⟩
theorem agf (N:Nat) (own:List Px) (l:List Lk) (c0 c1 c2 c3:Cf):gB N own l 8 3 [c0,c1,c2,c3]:=⟨by kernel_rfl,fun W d=>by kernel_rfl,fun d=>by kernel_rfl,by kernel_rfl⟩
theorem afD (N:Nat) (own:List Px) (l:List Lk) (c0 c1 c2 c3:Cf):gu N own l 5 [c0,c1,c2,c3]:=⟨by kernel_rfl⟩
theorem agh (N:Nat) (own:List Px) (l:List Lk) (c0 c1 c2 c3 c4:Cf):gB N own l 5 4 [c0,c1,c2,c3,c4]:=⟨by kernel_rfl,fun W d=>by kernel_rfl,fun d=>by kernel_rfl,by kernel_rfl⟩
theorem afE (N:Nat) (own:List Px) (l:List Lk) (c0 c1 c2 c3:Cf):gu N own l 6 [c0,c1,c2,c3]:=⟨by kernel_rfl⟩
theorem agi (N:Nat) (own:List Px) (l:List Lk) (c0 c1 c2 c3 c4:Cf):gB N own l 6 4 [c0,c1,c2,c3,c4]:=⟨by kernel_rfl,fun W d=>by kernel_rfl,fun d=>by kernel_rfl,by kernel_rfl⟩
theorem afF (N:Nat) (own:List Px) (l:List Lk) (c0 c1 c2 c3:Cf):gu N own l 7 [c0,c1,c2,c3]:=⟨by kernel_rfl⟩
theorem agj (N:Nat) (own:List Px) (l:List Lk) (c0 c1 c2 c3 c4:Cf):gB N own l 7 4 [c0,c1,c2,c3,c4]:=⟨by kernel_rfl,fun W d=>by kernel_rfl,fun d=>by kernel_rfl,by kernel_rfl⟩
theorem afG (N:Nat) (own:List Px) (l:List Lk) (c0 c1 c2 c3:Cf):gu N own l 8 [c0,c1,c2,c3]:=⟨by kernel_rfl⟩
theorem agk (N:Nat) (own:List Px) (l:List Lk) (c0 c1 c2 c3 c4:Cf):gB N own l 8 4 [c0,c1,c2,c3,c4]:=⟨by kernel_rfl,fun W d=>by kernel_rfl,fun d=>by kernel_rfl,by kernel_rfl⟩
theorem afH (N:Nat) (own:List Px) (l:List Lk) (c0 c1 c2 c3 c4:Cf):gu N own l 6 [c0,c1,c2,c3,c4]:=⟨by kernel_rfl⟩
theorem agl (N:Nat) (own:List Px) (l:List Lk) (c0 c1 c2 c3 c4 c5:Cf):gB N own l 6 5 [c0,c1,c2,c3,c4,c5]:=⟨by kernel_rfl,fun W d=>by kernel_rfl,fun d=>by kernel_rfl,by kernel_rfl⟩
theorem afI (N:Nat) (own:List Px) (l:List Lk) (c0 c1 c2 c3 c4:Cf):gu N own l 7 [c0,c1,c2,c3,c4]:=⟨by kernel_rfl⟩
theorem agm (N:Nat) (own:List Px) (l:List Lk) (c0 c1 c2 c3 c4 c5:Cf):gB N own l 7 5 [c0,c1,c2,c3,c4,c5]:=⟨by kernel_rfl,fun W d=>by kernel_rfl,fun d=>by kernel_rfl,by kernel_rfl⟩
theorem afJ (N:Nat) (own:List Px) (l:List Lk) (c0 c1 c2 c3 c4:Cf):gu N own l 8 [c0,c1,c2,c3,c4]:=⟨by kernel_rfl⟩
theorem agn (N:Nat) (own:List Px) (l:List Lk) (c0 c1 c2 c3 c4 c5:Cf):gB N own l 8 5 [c0,c1,c2,c3,c4,c5]:=⟨by kernel_rfl,fun W d=>by kernel_rfl,fun d=>by kernel_rfl,by kernel_rfl⟩
theorem afK (N:Nat) (own:List Px) (l:List Lk) (c0 c1 c2 c3 c4 c5:Cf):gu N own l 7 [c0,c1,c2,c3,c4,c5]:=⟨by kernel_rfl⟩
theorem agp (N:Nat) (own:List Px) (l:List Lk) (c0 c1 c2 c3 c4 c5 c6:Cf):gB N own l 7 6 [c0,c1,c2,c3,c4,c5,c6]:=⟨by kernel_rfl,fun W d=>by kernel_rfl,fun d=>by kernel_rfl,by kernel_rfl⟩
theorem afL (N:Nat) (own:List Px) (l:List Lk) (c0 c1 c2 c3 c4 c5:Cf):gu N own l 8 [c0,c1,c2,c3,c4,c5]:=⟨by kernel_rfl⟩
theorem agq (N:Nat) (own:List Px) (l:List Lk) (c0 c1 c2 c3 c4 c5 c6:Cf):gB N own l 8 6 [c0,c1,c2,c3,c4,c5,c6]:=⟨by kernel_rfl,fun W d=>by kernel_rfl,fun d=>by kernel_rfl,by kernel_rfl⟩
theorem afM (N:Nat) (own:List Px) (l:List Lk) (c0 c1 c2 c3 c4 c5 c6:Cf):gu N own l 8 [c0,c1,c2,c3,c4,c5,c6]:=⟨by kernel_rfl⟩
theorem agr (N:Nat) (own:List Px) (l:List Lk) (c0 c1 c2 c3 c4 c5 c6 c7:Cf):gB N own l 8 7 [c0,c1,c2,c3,c4,c5,c6,c7]:=⟨by kernel_rfl,fun W d=>by kernel_rfl,fun d=>by kernel_rfl,by kernel_rfl⟩
theorem agt {N:Nat} {own:List Px} {l:List Lk}:∀ {m:Nat} {t:List Cf},t.length < m→m≤8→gu N own l m t
 |1,[],_,_=>afd N own l
 |1,_::_,h,_=>by simp at h
 |2,[],_,_=>afe N own l
 |2,[c0],_,_=>afl N own l c0
 |2,_::_::_,h,_=>by simp at h<;>omega
 |3,[],_,_=>aff N own l
 |3,[c0],_,_=>afm N own l c0
 |3,[c0,c1],_,_=>afs N own l c0 c1
 |3,_::_::_::_,h,_=>by simp at h<;>omega
 |4,[],_,_=>afg N own l
 |4,[c0],_,_=>afn N own l c0
 |4,[c0,c1],_,_=>aft N own l c0 c1
 |4,[c0,c1,c2],_,_=>afy N own l c0 c1 c2
 |4,_::_::_::_::_,h,_=>by simp at h<;>omega
 |5,[],_,_=>afh N own l
 |5,[c0],_,_=>afo N own l c0
 |5,[c0,c1],_,_=>afu N own l c0 c1
 |5,[c0,c1,c2],_,_=>afz N own l c0 c1 c2
 |5,[c0,c1,c2,c3],_,_=>afD N own l c0 c1 c2 c3
 |5,_::_::_::_::_::_,h,_=>by simp at h<;>omega
 |6,[],_,_=>afi N own l
 |6,[c0],_,_=>afp N own l c0
 |6,[c0,c1],_,_=>afv N own l c0 c1
 |6,[c0,c1,c2],_,_=>afA N own l c0 c1 c2
 |6,[c0,c1,c2,c3],_,_=>afE N own l c0 c1 c2 c3
 |6,[c0,c1,c2,c3,c4],_,_=>afH N own l c0 c1 c2 c3 c4
 |6,_::_::_::_::_::_::_,h,_=>by simp at h<;>omega
 |7,[],_,_=>afj N own l
 |7,[c0],_,_=>afq N own l c0
 |7,[c0,c1],_,_=>afw N own l c0 c1
 |7,[c0,c1,c2],_,_=>afB N own l c0 c1 c2
 |7,[c0,c1,c2,c3],_,_=>afF N own l c0 c1 c2 c3
 |7,[c0,c1,c2,c3,c4],_,_=>afI N own l c0 c1 c2 c3 c4
 |7,[c0,c1,c2,c3,c4,c5],_,_=>afK N own l c0 c1 c2 c3 c4 c5
 |7,_::_::_::_::_::_::_::_,h,_=>by simp at h<;>omega
 |8,[],_,_=>afk N own l
 |8,[c0],_,_=>afr N own l c0
 |8,[c0,c1],_,_=>afx N own l c0 c1
 |8,[c0,c1,c2],_,_=>afC N own l c0 c1 c2
 |8,[c0,c1,c2,c3],_,_=>afG N own l c0 c1 c2 c3
 |8,[c0,c1,c2,c3,c4],_,_=>afJ N own l c0 c1 c2 c3 c4
 |8,[c0,c1,c2,c3,c4,c5],_,_=>afL N own l c0 c1 c2 c3 c4 c5
 |8,[c0,c1,c2,c3,c4,c5,c6],_,_=>afM N own l c0 c1 c2 c3 c4 c5 c6
 |8,_::_::_::_::_::_::_::_::_,h,_=>by simp at h<;>omega
 |0,_,h,_=>absurd h (Nat.not_lt_zero _)
 |m+9,_,_,h=>absurd h (by omega)
theorem aa5 {N:Nat} {own:List Px} {l:List Lk}:∀ {m i:Nat} {t:List Cf},t.length=i+1→t.length≤m→m≤8→gB N own l m i t
 |1,_,[c0],h,_,_=>by cases h; exact afN N own l c0
 |1,_,_::_::_,_,h,_=>by simp at h
 |2,_,[c0],h,_,_=>by cases h; exact afO N own l c0
 |2,_,[c0,c1],h,_,_=>by cases h; exact afV N own l c0 c1
 |2,_,_::_::_::_,_,h,_=>by simp at h<;>omega
 |3,_,[c0],h,_,_=>by cases h; exact afP N own l c0
 |3,_,[c0,c1],h,_,_=>by cases h; exact afW N own l c0 c1
 |3,_,[c0,c1,c2],h,_,_=>by cases h; exact af4 N own l c0 c1 c2
 |3,_,_::_::_::_::_,_,h,_=>by simp at h<;>omega
 |4,_,[c0],h,_,_=>by cases h; exact afQ N own l c0
 |4,_,[c0,c1],h,_,_=>by cases h; exact afX N own l c0 c1
 |4,_,[c0,c1,c2],h,_,_=>by cases h; exact af5 N own l c0 c1 c2
 |4,_,[c0,c1,c2,c3],h,_,_=>by cases h; exact aga N own l c0 c1 c2 c3
 |4,_,_::_::_::_::_::_,_,h,_=>by simp at h<;>omega
 |5,_,[c0],h,_,_=>by cases h; exact afR N own l c0
 |5,_,[c0,c1],h,_,_=>by cases h; exact afY N own l c0 c1
 |5,_,[c0,c1,c2],h,_,_=>by cases h; exact af6 N own l c0 c1 c2
 |5,_,[c0,c1,c2,c3],h,_,_=>by cases h; exact agb N own l c0 c1 c2 c3
 |5,_,[c0,c1,c2,c3,c4],h,_,_=>by cases h; exact agh N own l c0 c1 c2 c3 c4
 |5,_,_::_::_::_::_::_::_,_,h,_=>by simp at h<;>omega
 |6,_,[c0],h,_,_=>by cases h; exact afS N own l c0
 |6,_,[c0,c1],h,_,_=>by cases h; exact afZ N own l c0 c1
 |6,_,[c0,c1,c2],h,_,_=>by cases h; exact af7 N own l c0 c1 c2
 |6,_,[c0,c1,c2,c3],h,_,_=>by cases h; exact agc N own l c0 c1 c2 c3
 |6,_,[c0,c1,c2,c3,c4],h,_,_=>by cases h; exact agi N own l c0 c1 c2 c3 c4
 |6,_,[c0,c1,c2,c3,c4,c5],h,_,_=>by cases h; exact agl N own l c0 c1 c2 c3 c4 c5
 |6,_,_::_::_::_::_::_::_::_,_,h,_=>by simp at h<;>omega
 |7,_,[c0],h,_,_=>by cases h; exact afT N own l c0
 |7,_,[c0,c1],h,_,_=>by cases h; exact af0 N own l c0 c1
 |7,_,[c0,c1,c2],h,_,_=>by cases h; exact af8 N own l c0 c1 c2
 |7,_,[c0,c1,c2,c3],h,_,_=>by cases h; exact agd N own l c0 c1 c2 c3
 |7,_,[c0,c1,c2,c3,c4],h,_,_=>by cases h; exact agj N own l c0 c1 c2 c3 c4
 |7,_,[c0,c1,c2,c3,c4,c5],h,_,_=>by cases h; exact agm N own l c0 c1 c2 c3 c4 c5
 |7,_,[c0,c1,c2,c3,c4,c5,c6],h,_,_=>by cases h; exact agp N own l c0 c1 c2 c3 c4 c5 c6
 |7,_,_::_::_::_::_::_::_::_::_,_,h,_=>by simp at h<;>omega
 |8,_,[c0],h,_,_=>by cases h; exact afU N own l c0
 |8,_,[c0,c1],h,_,_=>by cases h; exact af2 N own l c0 c1
 |8,_,[c0,c1,c2],h,_,_=>by cases h; exact af9 N own l c0 c1 c2
 |8,_,[c0,c1,c2,c3],h,_,_=>by cases h; exact agf N own l c0 c1 c2 c3
 |8,_,[c0,c1,c2,c3,c4],h,_,_=>by cases h; exact agk N own l c0 c1 c2 c3 c4
 |8,_,[c0,c1,c2,c3,c4,c5],h,_,_=>by cases h; exact agn N own l c0 c1 c2 c3 c4 c5
 |8,_,[c0,c1,c2,c3,c4,c5,c6],h,_,_=>by cases h; exact agq N own l c0 c1 c2 c3 c4 c5 c6
 |8,_,[c0,c1,c2,c3,c4,c5,c6,c7],h,_,_=>by cases h; exact agr N own l c0 c1 c2 c3 c4 c5 c6 c7
 |8,_,_::_::_::_::_::_::_::_::_::_,_,h,_=>by simp at h<;>omega
 |m,_,[],h,_,_=>by simp at h
 |0,_,_::_,_,h,_=>by simp at h
 |m+9,_,_::_,_,_,h=>absurd h (by omega)
end
section
open Go.RowKit
section
variable {E:Env} {n:Nat} {f:FuncId} {p:List Nat}
end
end
section
open Go.RowKit Go.Proofs
theorem gX.agA {E:Env} {rc:Caller} {ops:Array Oper} (hrc:rc.Nat) (hc:dV E rc) {id:Nat} {st s':St} {Q:St→Prop} {live:List Nat} {g:List au→List au} (h:(aQ E rc ops (ops.toList.map fun o=>(o,false)) st (fun s=>(.ok s:aj St))).bind (fun s=>(.ok ⟨bZ live s.tmps,g s.heap⟩:aj St))= .ok s')
 (hg:∀ tm H,dR ⟨tm,H⟩ ⟨tm,g H⟩) (hQ:Q s'):gX E (.region id ops false) st Q:=by
 obtain⟨s1,h1,h2⟩:=aY h
 simp only[aj.ok.injEq] at h2
 refine gX.turn (Q':=fun s=>s=s1) (gX.run hrc hc h1 rfl) fun s hs=>?_
 subst hs
 exact⟨s',h2 ▸ (dR.keep live s.tmps s.heap).trans (hg _ _),hQ⟩
theorem aa2 {c:Code} (h:Wl c=false):∃ id,c= .region id (abw c) false:=by
 cases c with
 |region id ops dr=>simp only[Wl] at h; subst h; exact⟨id,rfl⟩
 |_=>cases h
theorem nZ {E:Env} {n:Nat} {f:FuncId} {p:List Nat} (he:lF E) {i:Nat} {st s':St} {Q:Ex→St→Prop} {live:List Nat} {g:List au→List au} (hd:Wl ((aG E f p).getD i .skip)=false) (hl:i < (aG E f p).length)
 (h:(aQ E (aJ E n) (gI E f p i) ((gI E f p i).toList.map fun o=>(o,false)) st (fun s=>(.ok s:aj St))).bind (fun s=>(.ok ⟨bZ live s.tmps,g s.heap⟩:aj St))= .ok s') (hg:∀ tm H,dR ⟨tm,H⟩ ⟨tm,g H⟩) (hQ:ah E n f p (i+1) s' Q):ah E n f p i st Q:=by
 obtain⟨n1,n2⟩:=sW he n
 have hc:dV E (aJ E n):=oO he n1 n2
 obtain⟨id,e⟩:=aa2 hd
 have hp:(aG E f p)[i]? =some (.region id (gI E f p i) false):=by
  rw[List.getD_eq_getElem?_getD,List.getElem?_eq_getElem hl] at e
  rw[List.getElem?_eq_getElem hl]
  simp only[Option.getD_some] at e
  rw[e]
  unfold gI
  rw[List.getD_eq_getElem?_getD,List.getElem?_eq_getElem hl]
  simp only[Option.getD_some]
 exact Ba hp ⟨_,_,_,rfl⟩ (gX.agA n1 hc h hg hQ)
theorem Jf {E:Env} {n:Nat} {f:FuncId} {p:List Nat} {i:Nat} {st s:St} (hd:Wl ((aG E f p).getD i .skip)=false) (hl:i < (aG E f p).length) (h:bF E n f p i 1 st= .ok (.norm,s)):aQ E (aJ E n) (gI E f p i) ((gI E f p i).toList.map fun o=>(o,false)) st (fun s=>(.ok s:aj St))= .ok s:=by
 obtain⟨id,e⟩:=aa2 hd
 have hp:(aG E f p)[i]? =some (.region id (gI E f p i) false):=by
  rw[List.getD_eq_getElem?_getD,List.getElem?_eq_getElem hl] at e
  rw[List.getElem?_eq_getElem hl]
  simp only[Option.getD_some] at e
  rw[e]
  unfold gI
  rw[List.getD_eq_getElem?_getD,List.getElem?_eq_getElem hl]
  simp only[Option.getD_some]
 unfold bF at h
 rw[drop_one hp] at h
 have h:aQ E (aJ E n) (gI E f p i) ((gI E f p i).toList.map fun o=>(o,false)) st (fun s=>(.ok (.norm,s):aj (Ex×St)))= .ok (.norm,s):=h
 obtain⟨s1,h1,h2⟩:=C9 (dY E n) h
 simp only[aj.ok.injEq,Prod.mk.injEq,true_and] at h2
 rw[h1,h2]
theorem O8 {E:Env} {n:Nat} {f:FuncId} {p:List Nat} {i:Nat} {c:Operand} {a:Code} {st:St} (h:(aG E f p)[i]? =some (.cond c a .skip)) (hv:bf E.P st.tmps 0 c=some (.t (.bool false))):bF E n f p i 1 st= .ok (.norm,st):=by
 unfold bF
 rw[drop_one h]
 show bQ E (aJ E n) f (dG E f) n 0 (.cond c a .skip) st _=_
 simp only[bQ,hv,aK,bT,cond_false]
 rfl
theorem Dk (tm:List PV) (H:List au):dR ⟨tm,H⟩ ⟨tm,id H⟩:=dR.refl _
def NH (r:aj (Ex×St)):St:=match r with| .ok q=>q.2|_=>⟨[],[]⟩
def agD:Code→Code
 | .cond _ a _=>a
 |_=> .skip
variable [Lv]
def VQ (own:List Px) (l:List Lk) (m i:Nat) (v:Bool) (H:List au):St:=⟨slots 153 [(1,.t (.sl 2 (own.map Px.t))),(2,.t (.sl 3 (l.map Lk.t))),(7,.ptr 0 0),(8,.t (i64 i)),(19,.t (i64 m)),(20,.t (i64 i)),(41,.t (.bool v))],H⟩
def Oc (own:List Px) (l:List Lk) (m:Nat) (t:List Cf) (b:Bool):St:=⟨slots 153 [(1,.t (.sl 2 (own.map Px.t))),(2,.t (.sl 3 (l.map Lk.t))),(7,.ptr 0 0),(19,.t (i64 m)),(20,.t (i64 t.length)),(21,.t (.bool b))],aP m t []⟩
theorem PZ (N:Nat) (own:List Px) (l:List Lk) (m:Nat) (t:List Cf):bF env N 21 [3] 0 2 (Rw own l m t)=bif decide (((t.length:Nat):Int) < (m:Int)) then .ok (.norm,Oc own l m t (decide (((t.length:Nat):Int) < (m:Int)))) else .ok (.exit 0,Oc own l m t (decide (((t.length:Nat):Int) < (m:Int)))):=by kernel_rfl
theorem aeV (N:Nat) (own:List Px) (l:List Lk) (m:Nat) (t:List Cf) (b:Bool):(aQ env (aJ env N) (gI env 21 [3,2] 0) ((gI env 21 [3,2] 0).toList.map fun o=>(o,false)) (Oc own l m t b) (fun s=>(.ok s:aj St))).bind (fun s=>(.ok ⟨bZ [1,2,7,8,19,20] s.tmps,id s.heap⟩:aj St))= .ok (FU own l m t.length (aP m t [])):=by kernel_rfl
theorem KA (own:List Px) (i:Nat):oW own i={ou i with w:=Ie own i}:=rfl
theorem QK (t:List Cf) (c:Cf) (W:List Px):TF (t++ [c]) W=t++ [{c with w:=W}]:=by
 unfold TF
 rw[List.length_append,List.length_singleton,Nat.add_sub_cancel,List.take_left,List.drop_left]
 rfl
theorem aaw (l i j:Nat) (tm:List PV) (H:List au):dR ⟨tm,H⟩ ⟨tm,nI l i (yN l j H)⟩:=(JA l j).trans (xX l i)
theorem UZ {N:Nat} (he:lF env) (hN:2≤N) {own:List Px} {l:List Lk} {m:Nat} {t:List Cf} {Q:Ex→St→Prop} (ho:dN Px.ok own) (hm:m≤8) (ht:t.length < m) (hQ:Q .norm (Rw own l m (t++ [oW own t.length]))):ah env N 21 [3] 0 (Rw own l m t) Q:=by
 have hbg:=bH
 have hol:=ho.1
 have h1:=PZ N own l m t
 rw[decide_eq_true (show((t.length:Nat):Int) < (m:Int) by omega)] at h1
 refine eP (e:= .norm) 2 h1 ?_
 refine mX (p:=[3]) (i:=2) (id:=1) (c:=gK ((aG env 21 [3]).getD 2 .skip)) (by kernel_rfl) (by kernel_rfl) ?_
 show ah env N 21 [3,2] 0 _ _
 refine nZ (i:=0) he (by kernel_rfl) (of_decide_eq_true (by kernel_rfl)) (aeV N own l m t true) Dk ?_
 refine nZ (i:=1) (g:=fun H=>nI 1 (6*t.length+4) (yN 1 (6*t.length+5) H)) he (by kernel_rfl) (of_decide_eq_true (by kernel_rfl)) (agt (N:=N) (own:=own) (l:=l) ht hm).n1 (aaw _ _ _) ?_
 have hlen:(t++ [ou t.length]).length=t.length+1:=by simp
 have hB:=aa5 (N:=N) (own:=own) (l:=l) (i:=t.length) (t:=t++ [ou t.length]) hlen (by omega) hm
 have hend:∀ (H:List au) (d:Nat→PV) (s:St),(aQ env (aJ env N) op8 (op8.toList.map fun o=>(o,false)) (Oe own l m t.length H d) fun s=>(.ok s:aj St)).bind (fun s=>(.ok ⟨bZ [1,2,7,19,20] s.tmps,nI 1 (6*t.length+4) s.heap⟩:aj St))= .ok s→Q .norm s→ah env N 21 [3] 3 (Oe own l m t.length H d) Q:=fun H d s h hq=>by
  refine nZ (i:=3) (g:=fun H=>nI 1 (6*t.length+4) H) he (by kernel_rfl) (of_decide_eq_true (by kernel_rfl)) h (fun tm H=>xX _ _) ?_
  exact lC (by kernel_rfl) hq
 have e2:=ah4 N own l m t.length (aP m (t++ [ou t.length]) [])
 have aa8:∀ v:Bool,bF env N 21 [3,2] 2 1 (FU own l m t.length (aP m (t++ [ou t.length]) []))= .ok (.norm,NH (bF env N 21 [3,2] 2 1 (FU own l m t.length (aP m (t++ [ou t.length]) []))))→bZ [1,2,7,8,19,20,41] (NH (bF env N 21 [3,2] 2 1 (FU own l m t.length (aP m (t++ [ou t.length]) [])))).tmps=(VQ own l m t.length v []).tmps→(NH (bF env N 21 [3,2] 2 1 (FU own l m t.length (aP m (t++ [ou t.length]) [])))).heap=aP m (t++ [ou t.length]) []→Ie own t.length=(if v then(match own[t.length]? with|some p=>[p]|none=>[]) else[])→(v=true→t.length < own.length)→
  ah env N 21 [3,2] 2 (FU own l m t.length (aP m (t++ [ou t.length]) [])) fun e st=>e.kP (ah env N 21 [3] (2+1) st Q) (fun j=>if j=1 then ah env N 21 [3] (2+1) st Q else Q (.exit j) st) (Q .ret st):=fun v h k1 k2 hw hv=>by
  have h5:=Jf (i:=2) (by kernel_rfl) (of_decide_eq_true (by kernel_rfl)) h
  refine nZ (i:=2) (live:=[1,2,7,8,19,20,41]) (g:=id) (s':=VQ own l m t.length v (aP m (t++ [ou t.length]) [])) he (by kernel_rfl) (of_decide_eq_true (by kernel_rfl)) (by rw[h5]; simp only[aj.bind_ok,k1,k2,id]; rfl) Dk ?_
  cases v with
  |false=>
   refine eP (e:= .norm) 1 (O8 (i:=3) (c:= .tmp 41) (a:=agD ((aG env 21 [3,2]).getD 3 .skip)) (by kernel_rfl) (by kernel_rfl)) (lC (by kernel_rfl) ?_)
   have hd:VQ own l m t.length false (aP m (t++ [ou t.length]) [])=Oe own l m t.length (aP m (t++ [ou t.length]) []) (TW (VQ own l m t.length false [])):=by kernel_rfl
   show ah env N 21 [3] 3 _ Q
   rw[hd]
   refine hend _ _ _ (hB.n6 _) ?_
   have:t++ [oW own t.length]=t++ [ou t.length]:=by rw[KA,hw]; rfl
   rw[this] at hQ; exact hQ
  |true=>
   have hi:=hv rfl
   have hp:own[t.length]? =some own[t.length]:=List.getElem?_eq_getElem hi
   have h3:=hB.n3
   have hdec:(decide ((0:Int)≤((t.length+1:Nat):Int))&&decide (((t.length+1:Nat):Int)≤(((own.map Px.t).length:Nat):Int)))=true:=by rw[decide_eq_true (by omega),decide_eq_true (by rw[List.length_map]; omega)]; rfl
   rw[hdec,bD] at h3
   have hys:((own.map Px.t).take (t.length+1)).drop t.length= [own[t.length]].map Px.t:=by
    rw[List.take_add_one,List.getElem?_map,hp]
    simp[List.drop_append,List.length_take,Nat.min_eq_left (Nat.le_of_lt hi)]
   refine eP (e:= .norm) 1 (show bF env N 21 [3,2] 3 1 (aej own l m t.length (aP m (t++ [ou t.length]) []))=_ from h3) (lC (by kernel_rfl) ?_)
   have hd:∀ H:List au,abE own l m t.length H=Oe own l m t.length H (TW (abE own l m t.length [])):=fun H=>by kernel_rfl
   show ah env N 21 [3] 3 _ Q
   rw[hd,hys]
   refine hend _ _ _ (hB.n4 [own[t.length]] _) ?_
   rw[QK]
   rw[hp] at hw
   simp only[if_true] at hw
   rw[KA,hw] at hQ
   exact hQ
 by_cases hi:t.length < own.length
 case neg=>
  have hw:Ie own t.length= []:=by unfold Ie; rw[List.getElem?_eq_none (by omega)]
  rw[decide_eq_false (by rw[List.length_map]; omega),cond_false] at e2
  refine aa8 false (by rw[e2]; rfl) (by rw[e2]; kernel_rfl) (by rw[e2]; rfl) hw (fun h=>by cases h)
 have hp:own[t.length]? =some own[t.length]:=List.getElem?_eq_getElem hi
 have hpo:=ho.2 _ (List.mem_of_getElem? hp)
 generalize own[t.length]=px at hp hpo
 obtain⟨n1,rfl⟩:∃ n1,N=n1+1:=⟨N - 1,by omega⟩
 rw[decide_eq_true (by rw[List.length_map]; omega),cond_true,aF (aI hp),aV (Dp hpo (by omega))] at e2
 refine aa8 (jo px) (by rw[e2]; rfl) (by rw[e2]; kernel_rfl) (by rw[e2]; rfl) ?_ (fun _=>hi)
 unfold Ie
 rw[hp]
end
end Go.aO
