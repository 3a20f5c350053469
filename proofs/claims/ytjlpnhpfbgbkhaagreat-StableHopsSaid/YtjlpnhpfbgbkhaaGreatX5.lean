/- The texts of a proof, one behind the other: an interpreter and its soundness, what the functions of the program answer, and plain laws on that. -/
import Derived.Test.YtjlpnhpfbgbkhaaGreatX2
import Derived.Test.YtjlpnhpfbgbkhaaGreatX4
import Derived.Test.YtjlpnhpfbgbkhaaGreatK9
import Derived.Test.YtjlpnhpfbgbkhaaGreatX3
import Derived.Test.YtjlpnhpfbgbkhaaGreatX1
import Derived.Test.YtjlpnhpfbgbkhaaGreatK10
set_option linter.unusedVariables false
set_option linter.unusedSimpArgs false
set_option linter.unnecessarySimpa false
set_option linter.unusedSectionVars false
set_option maxRecDepth 100000
namespace Go.aP
section
open Go.RowKit Go.Proofs
variable [Lv]
theorem alH {M:Nat} {l:List Sd} {g:FuncId} {cs:List T} {q:Sd→Bool} (hM:big+1≤M) (hl:bZ Sd.ok l) (hw:T.wfs cs=true) (hm:env.mode g=0) (hq:∀ r∈l,ak env M g (r.t::cs)= .ok (.bool (q r))):
 ak env (M+1) 87 [.sl 4 (l.map Sd.t),.fn g [] cs]= .ok (i64 (rV (l.findIdx? q))):=by
 rw[q87,aZ (dN (dG (fun _ h=>Sd.ok.wf h) hl) (xu hw))]
 exact Ec Sd.t (S:=agS l _) q (by have:=hl.1; omega) hl.1 (aoc M l _) (adl M) (Xt M) fun x hx K=>(lS hm).trans (aF (hq x hx))
theorem alI {M:Nat} {s:Sd} {n:Int} (h:s.ok) (hn:aT n=true):ak env (M+1) 88 [s.t,.ref (i64 n)]= .ok (.bool (s.a==n)):=by
 rw[q88,aZ (dN h.wf (lG (bg hn)))]
theorem U3 (k:Option Nat):dh true [0] (rV k)=((k.getD 0:Nat):Int):=by
 cases k with
 |none=>rfl
 |some i=>show(if (i:Int) < 0 then(0:Int) else i)=i; rw[if_neg (by omega)]
theorem Po {M:Nat} {c:Cf} {n:Int} (hM:big+2≤M) (h:c.ok) (hn:aT n=true):ak env (M+1) 51 [c.t,i64 n]= .ok (.au [i64 (fK c n),.bool (idxOf c n).isSome]):=by
 obtain⟨m,rfl⟩:=dL (show 1≤M by omega)
 rw[q51,aZ (dN h.wf (bg hn)),aF (alH (q:=fun s=>s.a==n) (by omega) h.s (gQ (lG (bg hn))) rfl fun s hs=>by
  obtain⟨m,rfl⟩:=dL (show 1≤m by omega); exact alI (h.s.2 s hs) hn)]
 simp only[bW,U3,wP]
 rfl
def kN (b:Bool) (w:Option Ru) (r:Ru):Option Ru:=if r.a=2 then(match w with|none=>some r|some v=>if decide (r.n < v.n)==b then some r else some v) else w
def zI (b:Bool) (w:Ru) (u:Option Ru) (r:Ru):Option Ru:=if r.a=2 then(if decide (r.n < (u.getD w).n)==b then some r else u) else u
theorem MC (b:Bool) (w:Ru):∀ (l:List Ru) (u:Option Ru),l.foldl (kN b) (some (u.getD w))=some ((l.foldl (zI b w) u).getD w)
 | [],u=>rfl
 |r::l,u=>by
  rw[List.foldl_cons,List.foldl_cons,←MC b w l]
  congr 1
  unfold kN zI
  split
  · simp only
    split<;>rfl
  · rfl
theorem KG {l:List Ru} (k:Int) (h:bZ Ru.ok l):bZ Ru.ok (cu l k):=by
 unfold cu
 refine Zj ?_ _
 split
 · exact KA h _
 · exact h
def pvA:Option Ru→PV|none=> .t .dR|some _=> .ptr 1 5
def hpA (e n:Nat) (x:T):Option Ru→List ah|none=>[.box e n (.t x)]|some r=>[.box e n (.t x),.box 123 6 (.t r.t)]
def stA (l:List Ru) (b:Bool) (e n:Nat) (x:T) (w:Option Ru) (i:Nat):St:=match w with|none=>akI l b e n x (i:Nat)|some r=>agX l b e n x r (i:Nat)
def asz (e n:Nat) (x:T) (w:Option Ru):St:=⟨slots 39 [(0,pvA w)],hpA e n x w⟩
theorem Jp (r:Ru):(r.t.cells.length==6&& !r.t.aV)=true:=rfl
theorem agA (r:Ru):r.t.ay 4 1 false=i64 r.a:=rfl
theorem akA (r:Ru):r.t.ay 5 1 false=i64 r.n:=rfl
theorem XK {M:Nat} {l:List Ru} {k:Int} {b:Bool} {e n:Nat} {x:T} (hM:big+5≤M) (hl:bZ Ru.ok l) (hb:l.length*48≤big) (hk:aT k=true):
 iY env (M+1) (AQ l k b e n x (pvA (xB b none (cu l k))) (hpA e n x (xB b none (cu l k)))):=fun β K=>by
 obtain⟨m,rfl⟩:=dL (show 1≤M by omega)
 show fQ env (aK env (m+1)) (m+1) _ _ _ K=_
 refine(aqa (m+1) l k b e n x K).trans ?_
 rw[aF (QT (by omega) hl hb hk)]
 have hr:=KG k hl
 have it:=(lW (B:=bU env (aK env (m+1)) (m+1) 128 1 2) (S:=stA (cu l k) b e n x) (X:=asz e n x) (id:=0) (fun _ _=>True) (kN b) (cu l k) (n:=m+1) none (by have:=hr.1; omega)
  (fun w j r hx _=>by
   have hj:j < (cu l k).length:=(List.getElem?_eq_some_iff.1 hx).1
   have hbg:=hr.1
   have hd:decide ((j:Int) < (((cu l k).map Ru.t).length:Int))=true:=decide_eq_true (by rw[List.length_map]; omega)
   refine⟨?_,trivial⟩
   cases w with
   |none=>
    refine(aaO (m+1) (cu l k) b e n x j).trans ?_
    rw[hd]
    simp only[cond_true,aA (aC hx),Jp,agA,aI,bW,wrap_succ (show j≤big by omega)]
    by_cases ha:r.a=2
    · rw[beq_iff_eq.2 ha]; unfold kN; rw[if_pos ha]; rfl
    · rw[beq_eq_false_iff_ne.2 ha]; unfold kN; rw[if_neg ha]; rfl
   |some v=>
    refine(PX (m+1) (cu l k) b e n x v j).trans ?_
    rw[hd]
    simp only[cond_true,aA (aC hx),Jp,agA,akA,aI,bW,wrap_succ (show j≤big by omega),Bool.and_true]
    by_cases ha:r.a=2
    · rw[beq_iff_eq.2 ha]; unfold kN; rw[if_pos ha]
      simp only[cond_true]
      cases (decide (r.n < v.n)==b)<;>rfl
    · rw[beq_eq_false_iff_ne.2 ha]; unfold kN; rw[if_neg ha]; rfl)
  (fun w _=>by
   have hd:decide (((cu l k).length:Int) < (((cu l k).map Ru.t).length:Int))=false:=decide_eq_false (by rw[List.length_map]; omega)
   cases w with
   |none=>refine(aaO (m+1) (cu l k) b e n x _).trans ?_; rw[hd]; rfl
   |some v=>refine(PX (m+1) (cu l k) b e n x v _).trans ?_; rw[hd]; rfl) trivial).1
 refine(jA (K:=K) it).trans ?_
 exact Ou (m+1) _ _ K
def pvC:Option Ru→PV|none=> .ptr 0 5|some _=> .ptr 2 5
def hpC (e n:Nat) (x:T) (w:Ru):Option Ru→List ah|none=>[.box 123 6 (.t w.t),.box e n (.t x)]|some r=>[.box 123 6 (.t w.t),.box e n (.t x),.box 123 6 (.t r.t)]
def stC (l:List Ru) (b:Bool) (e n:Nat) (x:T) (w:Ru) (u:Option Ru) (i:Nat):St:=match u with|none=>agY l b e n x w (i:Nat)|some r=>agZ l b e n x w r (i:Nat)
def asA (e n:Nat) (x:T) (w:Ru) (u:Option Ru):St:=⟨slots 39 [(0,pvC u)],hpC e n x w u⟩
theorem ale {M:Nat} {l:List Ru} {k:Int} {b:Bool} {e n:Nat} {x:T} {w:Ru} (hM:big+5≤M) (hl:bZ Ru.ok l) (hb:l.length*48≤big) (hk:aT k=true):
 iY env (M+1) (SB l k b e n x w (pvC ((cu l k).foldl (zI b w) none)) (hpC e n x w ((cu l k).foldl (zI b w) none))):=fun β K=>by
 obtain⟨m,rfl⟩:=dL (show 1≤M by omega)
 show fQ env (aK env (m+1)) (m+1) _ _ _ K=_
 refine(al4 (m+1) l k b e n x w K).trans ?_
 rw[aF (QT (by omega) hl hb hk)]
 have hr:=KG k hl
 have it:=(lW (B:=bU env (aK env (m+1)) (m+1) 128 2 2) (S:=stC (cu l k) b e n x w) (X:=asA e n x w) (id:=0) (fun _ _=>True) (zI b w) (cu l k) (n:=m+1) none (by have:=hr.1; omega)
  (fun u j r hx _=>by
   have hj:j < (cu l k).length:=(List.getElem?_eq_some_iff.1 hx).1
   have hbg:=hr.1
   have hd:decide ((j:Int) < (((cu l k).map Ru.t).length:Int))=true:=decide_eq_true (by rw[List.length_map]; omega)
   refine⟨?_,trivial⟩
   cases u with
   |none=>
    refine(PY (m+1) (cu l k) b e n x w j).trans ?_
    rw[hd]
    simp only[cond_true,aA (aC hx),Jp,agA,akA,aI,bW,wrap_succ (show j≤big by omega),Bool.and_true]
    by_cases ha:r.a=2
    · rw[beq_iff_eq.2 ha]; unfold zI; rw[if_pos ha]
      simp only[cond_true]
      by_cases hq:(decide (r.n < ((none:Option Ru).getD w).n)==b)=true
      · rw[if_pos hq,show(decide (r.n < w.n)==b)=true from hq]; rfl
      · rw[if_neg hq,show(decide (r.n < w.n)==b)=false from eq_false_of_ne_true hq]; rfl
    · rw[beq_eq_false_iff_ne.2 ha]; unfold zI; rw[if_neg ha]; rfl
   |some v=>
    refine(PZ (m+1) (cu l k) b e n x w v j).trans ?_
    rw[hd]
    simp only[cond_true,aA (aC hx),Jp,agA,akA,aI,bW,wrap_succ (show j≤big by omega),Bool.and_true]
    by_cases ha:r.a=2
    · rw[beq_iff_eq.2 ha]; unfold zI; rw[if_pos ha]
      simp only[cond_true]
      by_cases hq:(decide (r.n < ((some v).getD w).n)==b)=true
      · rw[if_pos hq,show(decide (r.n < v.n)==b)=true from hq]; rfl
      · rw[if_neg hq,show(decide (r.n < v.n)==b)=false from eq_false_of_ne_true hq]; rfl
    · rw[beq_eq_false_iff_ne.2 ha]; unfold zI; rw[if_neg ha]; rfl)
  (fun u _=>by
   have hd:decide (((cu l k).length:Int) < (((cu l k).map Ru.t).length:Int))=false:=decide_eq_false (by rw[List.length_map]; omega)
   cases u with
   |none=>refine(PY (m+1) (cu l k) b e n x w _).trans ?_; rw[hd]; rfl
   |some v=>refine(PZ (m+1) (cu l k) b e n x w v _).trans ?_; rw[hd]; rfl) trivial).1
 refine(jA (K:=K) it).trans ?_
 exact JC (m+1) _ _ K
theorem amz {M:Nat} (e n:Nat) (x:T) (r:Ru):iY env (M+1) (Yy [.box e n (.t x),.box 123 6 (.t r.t)] 1 r):=fun β K=>al3 M e n x r K
theorem amy {M:Nat} (r:Ru):iY env (M+1) (Yy [.box 123 6 (.t r.t)] 0 r):=fun β K=>ap9 M r K
end
section
open Go.RowKit Go.Proofs
def JU (c:Cf):Prop:=∀ s∈c.s,s.i.length*48≤big∧s.o.length*48≤big
theorem NJ (s:Sd):s.t.ay 1 1 false=i64 s.r:=rfl
theorem asx (s:Sd):s.t.ay 3 1 false= .sl 6 (s.o.map Ru.t):=rfl
theorem AU (s:Sd):(s.t.cells.length==4&& !s.t.aV)=true:=rfl
theorem HY {c:Cf} (h:dF c=true):JU c:=fun s hs=>by
 have:=sG h hs
 have hb:=aQ
 unfold oQ wX at this
 simp only[Bool.and_eq_true,decide_eq_true_eq] at this
 omega
theorem VG {c:Cf} {n:Int} (h:(idxOf c n).isSome=true):0≤fK c n∧fK c n < c.s.length:=by
 unfold fK
 cases h1:idxOf c n with
 |none=>rw[h1] at h; cases h
 |some i=>
  have:=(List.findIdx?_eq_some_iff_getElem.1 h1).1
  simp only[Option.getD_some]
  omega
theorem VH {c:Cf} (h:c.ok) (n:Int):aT (fK c n)=true:=by
 have hb:=aQ
 cases h1:idxOf c n with
 |none=>unfold fK; rw[h1]; rfl
 |some i=>have:=VG (c:=c) (n:=n) (by rw[h1]; rfl); have:=h.s.1; exact iE.2 (by omega)
variable [Lv]
theorem alL {M:Nat} {c:Cf} {n:Int} (hM:big+7≤M) (h:c.ok) (hn:aT n=true) (hs:JU c):
 ak env (M+1) 92 [c.t,i64 n]= .ok (.au [i64 ((lC c n).getD 0),.bool (lC c n).isSome]):=by
 obtain⟨m,rfl⟩:=dL (show 1≤M by omega)
 have hw:=dN h.wf (bg hn)
 have hout:lC c n=none→n < 0∨n≥c.s.length→ak env (m+1+1) 92 [c.t,i64 n]= .ok (.au [i64 ((lC c n).getD 0),.bool (lC c n).isSome]):=fun hh ho=>by
  have hp:=XK (M:=m) (l:=[]) (k:=0) (b:=false) (e:=56) (n:=6) (x:=c.t) (by omega) ⟨Nat.zero_le _,fun _ h=>by cases h⟩ (by simp) rfl
  refine lT (ps:=[AQ [] 0 false 56 6 c.t (.t .dR) [.box 56 6 (.t c.t)]]) ⟨hp,trivial⟩ hw rfl ?_
  refine(anz (m+1) c n 0 []).trans ?_
  rw[hh]
  by_cases h0:n < 0
  · rw[decide_eq_true h0]; rfl
  · rw[decide_eq_false h0,decide_eq_true (show n≥((c.s.map Sd.t).length:Int) by rw[List.length_map]; omega)]; rfl
 by_cases h0:n < 0
 · exact hout (by unfold lC; rw[if_neg (by omega)]) (.inl h0)
 by_cases h1:n≥c.s.length
 · exact hout (by unfold lC; rw[if_pos (by omega),List.getElem?_eq_none (by omega)]) (.inr h1)
 obtain⟨i,rfl⟩:∃ i:Nat,n=i:=⟨n.toNat,by omega⟩
 have hi:i < c.s.length:=by omega
 have hx:c.s[i]? =some c.s[i]:=List.getElem?_eq_getElem hi
 have hm:=List.mem_of_getElem? hx
 have ho:=h.s.2 _ hm
 have hhi:lC c i=(xB false none (cu c.s[i].i c.s[i].r)).map (·.n):=by unfold lC; rw[if_pos (by omega),Int.toNat_natCast,hx]
 have hp:=XK (M:=m) (l:=c.s[i].i) (k:=c.s[i].r) (b:=false) (e:=56) (n:=6) (x:=c.t) (by omega) ho.i (hs _ hm).1 ho.r
 rw[hhi]
 cases hk:xB false none (cu c.s[i].i c.s[i].r) with
 |none=>
  rw[hk] at hp
  refine lT (ps:=[AQ c.s[i].i c.s[i].r false 56 6 c.t (.t .dR) [.box 56 6 (.t c.t)]]) ⟨hp,trivial⟩ hw rfl ?_
  refine(anz (m+1) c i c.s[i].r c.s[i].i).trans ?_
  rw[decide_eq_false h0,decide_eq_false (show ¬ (i:Int)≥((c.s.map Sd.t).length:Int) by rw[List.length_map]; omega)]
  simp only[cond_false,aA (aC hx)]
  refine(mD (by refine⟨?_,?_⟩<;>first|trivial|rfl)).trans ?_
  have:=anB m
  rw[aF this]; rfl
 |some r=>
  rw[hk] at hp
  refine lT (ps:=[AQ c.s[i].i c.s[i].r false 56 6 c.t (.ptr 1 5) [.box 56 6 (.t c.t),.box 123 6 (.t r.t)],Yy [.box 56 6 (.t c.t),.box 123 6 (.t r.t)] 1 r]) ⟨hp,amz _ _ _ _,trivial⟩ hw rfl ?_
  refine(amg (m+1) c i c.s[i].r c.s[i].i r).trans ?_
  rw[decide_eq_false h0,decide_eq_false (show ¬ (i:Int)≥((c.s.map Sd.t).length:Int) by rw[List.length_map]; omega)]
  simp only[cond_false,aA (aC hx)]
  refine(mD (by refine⟨?_,?_⟩<;>first|trivial|rfl)).trans ?_
  exact mD (by refine⟨?_,?_⟩<;>first|trivial|rfl)
theorem ahE {M:Nat} {r:Ru} (h:r.ok):ak env (M+1) 131 [r.t]= .ok (.bool (r.a !=0)):=by
 rw[aqV,aZ (gQ h.wf)]
theorem alN {M:Nat} {c:Cf} {k n:Int} (hM:big+6≤M) (h:c.ok) (hk:aT k=true) (hn:aT n=true) (hs:JU c):
 ak env (M+1) 94 [c.t,i64 k,i64 n]= .ok (.bool (zU c k n)):=by
 obtain⟨m,rfl⟩:=dL (show 1≤M by omega)
 obtain⟨m,rfl⟩:=dL (show 1≤m by omega)
 rw[q94,aZ (show T.wfs [c.t,i64 k,i64 n]=true from BP h.wf (bg hk) (bg hn))]
 unfold zU
 by_cases h0:k < 0
 · rw[decide_eq_true h0,if_neg (by omega)]; rfl
 rw[decide_eq_false h0,if_pos (by omega)]
 by_cases h1:k≥c.s.length
 · rw[decide_eq_true (by rw[List.length_map]; omega),List.getElem?_eq_none (by omega)]; rfl
 rw[decide_eq_false (by rw[List.length_map]; omega)]
 obtain⟨i,rfl⟩:∃ i:Nat,k=i:=⟨k.toNat,by omega⟩
 have hi:i < c.s.length:=by omega
 have hx:c.s[i]? =some c.s[i]:=List.getElem?_eq_getElem hi
 have hm:=List.mem_of_getElem? hx
 have ho:=h.s.2 _ hm
 rw[Int.toNat_natCast,hx]
 simp only[cond_false,aA (aC hx),asx]
 rw[aF (QT (by omega) ho.o (hs _ hm).2 hn)]
 have hr:=KG n ho.o
 rw[aF (aax (q:=fun r=>r.a !=0) (by omega) hr rfl rfl fun r hr'=>by
  obtain⟨m,rfl⟩:=dL (show 1≤m by omega); exact ahE (hr.2 r hr'))]
def xJ (k:Int) (w:Option Ru) (s:Sd):Option Ru:=if s.r=k then xB true w (cu s.i k) else w
theorem abX (c:Cf) (k:Int):agx c k=c.s.foldl (xJ k) none:=rfl
def stL (c:Cf) (k:Int) (w:Option Ru) (i:Nat):St:=match w with|none=>NH c k (i:Nat)|some w=>Jq c w k (i:Nat)
def an2:Option Ru→St|none=>⟨slots 32 [(6,.t .dR)],[]⟩|some w=>⟨slots 32 [(6,.ptr 0 5)],[.box 123 6 (.t w.t)]⟩
theorem afA {m:Nat} {c:Cf} {k:Int} (hM:big+6≤m) (h:c.ok) (hk:aT k=true) (hs:JU c) {w:Option Ru} {j:Nat} {s:Sd} (hx:c.s[j]? =some s):
 aH env (m+1) 93 0 5 (stL c k w j)= .ok (.norm,stL c k (xJ k w s) (j+1)):=by
 have hj:j < c.s.length:=(List.getElem?_eq_some_iff.1 hx).1
 have hb:=h.s.1
 have hm:=List.mem_of_getElem? hx
 have ho:=h.s.2 _ hm
 have hd:decide ((j:Int) < ((c.s.map Sd.t).length:Int))=true:=decide_eq_true (by rw[List.length_map]; omega)
 have hwr:=wrap_succ (show j≤big by omega)
 unfold xJ
 by_cases hr:s.r=k
 case neg=>
  rw[if_neg hr]
  cases w with
  |none=>
   refine qg (ps:=[]) trivial ?_
   refine(aeR (m+1) c k j).trans ?_
   rw[hd]
   simp only[cond_true,aA (aC hx),AU,aI,NJ,bW,beq_eq_false_iff_ne.2 hr,cond_false,hwr]; rfl
  |some v=>
   refine qg (ps:=[]) trivial ?_
   refine(Vl (m+1) c v k j).trans ?_
   rw[hd]
   simp only[cond_true,aA (aC hx),AU,aI,NJ,bW,beq_eq_false_iff_ne.2 hr,cond_false,hwr]; rfl
 rw[if_pos hr]
 have hbq:(s.r==k)=true:=beq_iff_eq.2 hr
 cases w with
 |none=>
  have hp:=XK (M:=m) (l:=s.i) (k:=k) (b:=true) (e:=86) (n:=4) (x:=s.t) (by omega) ho.i (hs _ hm).1 hk
  cases hq:xB true none (cu s.i k) with
  |none=>
   rw[hq] at hp
   refine qg (ps:=[AQ s.i k true 86 4 s.t (.t .dR) [.box 86 4 (.t s.t)]]) ⟨hp,trivial⟩ ?_
   refine(afQ (m+1) c s.i s.t k j).trans ?_
   rw[hd]
   simp only[cond_true,aA (aC hx),AU,aI,NJ,bW,hbq,hwr]
   exact mD (by refine⟨?_,?_⟩<;>first|trivial|rfl)
  |some r=>
   rw[hq] at hp
   refine qg (ps:=[AQ s.i k true 86 4 s.t (.ptr 1 5) [.box 86 4 (.t s.t),.box 123 6 (.t r.t)]]) ⟨hp,trivial⟩ ?_
   refine(afR (m+1) c s.i s.t r k j).trans ?_
   rw[hd]
   simp only[cond_true,aA (aC hx),AU,aI,NJ,bW,hbq,hwr]
   exact mD (by refine⟨?_,?_⟩<;>first|trivial|rfl)
 |some v=>
  have hp:=ale (M:=m) (l:=s.i) (k:=k) (b:=true) (e:=86) (n:=4) (x:=s.t) (w:=v) (by omega) ho.i (hs _ hm).1 hk
  have hsk:xB true (some v) (cu s.i k)=some (((cu s.i k).foldl (zI true v) none).getD v):=MC true v (cu s.i k) none
  rw[hsk]
  cases hq:(cu s.i k).foldl (zI true v) none with
  |none=>
   rw[hq] at hp
   refine qg (ps:=[SB s.i k true 86 4 s.t v (.ptr 0 5) [.box 123 6 (.t v.t),.box 86 4 (.t s.t)]]) ⟨hp,trivial⟩ ?_
   refine(afS (m+1) c s.i s.t v k j).trans ?_
   rw[hd]
   simp only[cond_true,aA (aC hx),AU,aI,NJ,bW,hbq,hwr]
   exact mD (by refine⟨?_,?_⟩<;>first|trivial|rfl)
  |some r=>
   rw[hq] at hp
   refine qg (ps:=[SB s.i k true 86 4 s.t v (.ptr 2 5) [.box 123 6 (.t v.t),.box 86 4 (.t s.t),.box 123 6 (.t r.t)]]) ⟨hp,trivial⟩ ?_
   refine(afT (m+1) c s.i s.t v r k j).trans ?_
   rw[hd]
   simp only[cond_true,aA (aC hx),AU,aI,NJ,bW,hbq,hwr]
   exact mD (by refine⟨?_,?_⟩<;>first|trivial|rfl)
theorem aiK {m:Nat} {c:Cf} {k:Int} {w:Option Ru}:aH env (m+1) 93 0 5 (stL c k w c.s.length)= .ok (.exit 0,an2 w):=by
 have hd:decide ((c.s.length:Int) < ((c.s.map Sd.t).length:Int))=false:=decide_eq_false (by rw[List.length_map]; omega)
 cases w with
 |none=>refine qg (ps:=[]) trivial ((aeR (m+1) c k _).trans ?_); rw[hd]; rfl
 |some v=>refine qg (ps:=[]) trivial ((Vl (m+1) c v k _).trans ?_); rw[hd]; rfl
theorem alM {M:Nat} {c:Cf} {k:Int} (hM:big+8≤M) (h:c.ok) (hk:aT k=true) (hs:JU c):
 ak env (M+1) 93 [c.t,i64 k]= .ok (.au [i64 ((CX c k).getD 0),.bool (CX c k).isSome]):=by
 obtain⟨m,rfl⟩:=dL (show 1≤M by omega)
 rw[q93,aZ (dN h.wf (bg hk))]
 unfold CX
 by_cases h0:k=0
 · rw[beq_iff_eq.2 h0,if_pos h0]; rfl
 rw[beq_eq_false_iff_ne.2 h0,if_neg h0,cond_false]
 have hb:=h.s.1
 have it:=(lW (B:=aH env (m+1) 93 0 5) (S:=stL c k) (X:=an2) (id:=0) (fun _ _=>True) (xJ k) c.s (n:=m+1) none (by omega)
  (fun w j s hx _=>⟨afA (by omega) h hk hs hx,trivial⟩) (fun w _=>aiK) trivial).1
 refine(aU it).trans ?_
 rw[←abX]
 cases hw:agx c k with
 |none=>
  refine(Xu (m+1)).trans ?_
  rw[aF (anB m)]; rfl
 |some v=>
  obtain⟨m,rfl⟩:=dL (show 1≤m by omega)
  refine ado (ps:=[Yy [.box 123 6 (.t v.t)] 0 v]) ⟨amy v,trivial⟩ ?_
  exact(SC (m+1+1) v).trans (mD (by refine⟨?_,?_⟩<;>first|trivial|rfl))
theorem alx {M:Nat} {a b:Cf} (hM:big+15≤M) (h:a.ok) (h':b.ok):
 ak env (M+1) 59 [a.t,b.t]= .ok (.bool (uN a b)):=by
 obtain⟨m,rfl⟩:=dL (show 1≤M by omega)
 rw[q59,aZ (dN h.wf h'.wf),aF (Po (by omega) h h'.a)]
 show cl (m+1) 51 [b.t,i64 a.a] _=_
 rw[aF (Po (by omega) h' h.a)]
 show iO (m+1) 52 [a.t] _=_
 rw[bD (Cb (by omega) h)]
 unfold uN
 cases h1:dF a with
 |false=>rfl
 |true=>
 simp only[Bool.not_true,cond_false]
 rw[bD (Cb (by omega) h')]
 cases h2:dF b with
 |false=>rfl
 |true=>
 have s1:=HY h1
 have s2:=HY h2
 cases h3:(idxOf a b.a).isSome with
 |false=>rfl
 |true=>
 cases h4:(idxOf b a.a).isSome with
 |false=>rfl
 |true=>
 refine Eq.trans (show _=cl (m+1) 92 [b.t,i64 (fK b a.a)] _ from rfl) ?_
 rw[aF (alL (by omega) h' (VH h' _) s2)]
 refine Eq.trans (show _=bC env (m+1) 59 7 (Qs a (i64 ((lC b (fK b a.a)).getD 0)) (i64 (fK a b.a)) (.bool (lC b (fK b a.a)).isSome) 0) from rfl) ?_
 have e4:∀ i:Nat,i < 4→([0,1,2,3]:List Int)[i]? =some (i:Int):=by decide
 have it:=Kr (q:=fun n=> !tq a (lC b (fK b a.a)) (fK a b.a) n) (l:=([0,1,2,3]:List Int)) (B:=aH env (m+1) 59 0 7)
  (S:=fun i=>Qs a (i64 ((lC b (fK b a.a)).getD 0)) (i64 (fK a b.a)) (.bool (lC b (fK b a.a)).isSome) (i:Int)) (X:=⟨slots 75 [],[]⟩) (R:=⟨slots 75 [(4,.t (.bool false))],[]⟩) (e:=0)
  (fun i x hx=>by
   have hi:i < 4:=(List.getElem?_eq_some_iff.1 hx).1
   rw[e4 i hi] at hx
   injection hx with hx
   subst hx
   have hbg:=aQ
   have hok:aT (i:Int)=true:=iE.2 (by omega)
   rw[ajv,decide_eq_true (show(i:Int)≤3 by omega),cond_true,aF (alM (by omega) h hok s1)]
   unfold tq
   have hw:=wrap_succ (show i≤big by omega)
   cases hl:(CX a i).isSome with
   |false=>simp only[aG,List.getElem?_cons_zero,List.getElem?_cons_succ,bT,cond_false,hw]; rfl
   |true=>
   cases hh:(lC b (fK b a.a)).isSome with
   |false=>simp only[aG,List.getElem?_cons_zero,List.getElem?_cons_succ,bT,cond_false,cond_true,hw]; rfl
   |true=>
   simp only[aG,List.getElem?_cons_zero,List.getElem?_cons_succ,bT,cond_true,bW]
   cases hg:decide ((lC b (fK b a.a)).getD 0 > (CX a i).getD 0) with
   |false=>simp only[cond_false,hw]; rfl
   |true=>
   rw[cond_true,bD (alN (by omega) h (VH h _) hok s1),hw]
   cases zU a (fK a b.a) i<;>rfl)
  (by rw[ajv]; rfl) 4 0 (m+1) rfl (by omega)
 rw[List.drop_zero] at it
 have ha:(!([0,1,2,3]:List Int).any (tq a (lC b (fK b a.a)) (fK a b.a)))=([0,1,2,3]:List Int).all fun n=> !tq a (lC b (fK b a.a)) (fK a b.a) n:=by rw[List.not_any_eq_all_not]
 simp only[Bool.true_and]
 rw[ha]
 cases hq:([0,1,2,3]:List Int).all fun n=> !tq a (lC b (fK b a.a)) (fK a b.a) n with
 |false=>
  rw[hq] at it
  refine(aU it).trans ?_
  rw[adg]
 |true=>
  rw[hq] at it
  refine(aU it).trans ?_
  rw[Xj]
end
section
open Go.RowKit Go.Proofs
def qB (c:Cf) (k:Nat) (s:Sd):Cf:={c with s:=c.s.set k s}
def wU:Ru:=⟨0,⟨0,0⟩,0,2,1⟩
theorem yL {a b:Cf}:uN a b=true↔dF a=true∧dF b=true∧(idxOf a b.a).isSome=true∧(idxOf b a.a).isSome=true∧∀ n∈([0,1,2,3]:List Int),tq a (lC b (fK b a.a)) (fK a b.a) n=false:=by
 unfold uN
 simp only[Bool.and_eq_true,Bool.not_eq_true',List.any_eq_false,Bool.not_eq_true]
end
section
open Go.RowKit Go.Proofs
variable [Lv]
theorem BN {b:Bool}:∀ {l:List Ru} {w:Option Ru},w.isSome=true∨(∃ r∈l,r.a=2)→(l.foldl (kN b) w).isSome=true
 | [],w,h=>h.elim id (fun⟨r,h,_⟩=>by cases h)
 |x::l,w,h=>by
  rw[List.foldl_cons]
  refine BN ?_
  by_cases hx:x.a=2
  · left
    unfold kN
    rw[if_pos hx]
    cases w with
    |none=>rfl
    |some v=>simp only[]; split<;>rfl
  · rcases h with h|⟨r,h,h2⟩
    · left; unfold kN; rw[if_neg hx]; exact h
    · rcases List.mem_cons.1 h with rfl|h
      · exact absurd h2 hx
      · exact .inr ⟨r,h,h2⟩
theorem KJ:∀ {l:List Ru} {w:Option Ru} {v:Ru},l.foldl (kN true) w=some v→(∀ r∈l,r.a=2→v.n≤r.n)∧∀ w',w=some w'→v.n≤w'.n
 | [],w,v,h=>⟨by simp,fun w' e=>by simp only[List.foldl_nil] at h; rw[h] at e; injection e with e; subst e; exact Int.le_refl _⟩
 |x::l,w,v,h=>by
  rw[List.foldl_cons] at h
  obtain⟨h1,h2⟩:=KJ h
  by_cases hx:x.a=2
  · cases w with
    |none=>
     have h3:=h2 x (by unfold kN; rw[if_pos hx])
     exact⟨fun r hr ha=>(List.mem_cons.1 hr).elim (fun e=>e ▸ h3) (fun hr=>h1 r hr ha),fun w' e=>by cases e⟩
    |some u=>
     by_cases hlt:x.n < u.n
     · have h3:=h2 x (by unfold kN; rw[if_pos hx]; simp[hlt])
       exact⟨fun r hr ha=>(List.mem_cons.1 hr).elim (fun e=>e ▸ h3) (fun hr=>h1 r hr ha),fun w' e=>by injection e with e; subst e; omega⟩
     · have h3:=h2 u (by unfold kN; rw[if_pos hx]; simp[hlt])
       exact⟨fun r hr ha=>(List.mem_cons.1 hr).elim (fun e=>by subst e; omega) (fun hr=>h1 r hr ha),fun w' e=>by injection e with e; subst e; exact h3⟩
  · have e:kN true w x=w:=by unfold kN; rw[if_neg hx]
    exact⟨fun r hr ha=>(List.mem_cons.1 hr).elim (fun e=>by subst e; exact absurd ha hx) (fun hr=>h1 r hr ha),fun w' e2=>h2 w' (by rw[e]; exact e2)⟩
theorem Qv:∀ {l:List Ru} {w:Option Ru} {v:Ru},l.foldl (kN false) w=some v→(∀ r∈l,r.a=2→r.n≤v.n)∧∀ w',w=some w'→w'.n≤v.n
 | [],w,v,h=>⟨by simp,fun w' e=>by simp only[List.foldl_nil] at h; rw[h] at e; injection e with e; subst e; exact Int.le_refl _⟩
 |x::l,w,v,h=>by
  rw[List.foldl_cons] at h
  obtain⟨h1,h2⟩:=Qv h
  by_cases hx:x.a=2
  · cases w with
    |none=>
     have h3:=h2 x (by unfold kN; rw[if_pos hx])
     exact⟨fun r hr ha=>(List.mem_cons.1 hr).elim (fun e=>e ▸ h3) (fun hr=>h1 r hr ha),fun w' e=>by cases e⟩
    |some u=>
     by_cases hlt:x.n < u.n
     · have h3:=h2 u (by unfold kN; rw[if_pos hx]; simp[hlt])
       exact⟨fun r hr ha=>(List.mem_cons.1 hr).elim (fun e=>by subst e; omega) (fun hr=>h1 r hr ha),fun w' e=>by injection e with e; subst e; exact h3⟩
     · have h3:=h2 x (by unfold kN; rw[if_pos hx]; simp[hlt])
       exact⟨fun r hr ha=>(List.mem_cons.1 hr).elim (fun e=>e ▸ h3) (fun hr=>h1 r hr ha),fun w' e=>by injection e with e; subst e; omega⟩
  · have e:kN false w x=w:=by unfold kN; rw[if_neg hx]
    exact⟨fun r hr ha=>(List.mem_cons.1 hr).elim (fun e=>by subst e; exact absurd ha hx) (fun hr=>h1 r hr ha),fun w' e2=>h2 w' (by rw[e]; exact e2)⟩
theorem Ri {k:Int}:∀ {l:List Sd} {w:Option Ru},(∀ w',w=some w'→∃ v,l.foldl (xJ k) w=some v∧v.n≤w'.n)∧∀ s∈l,s.r=k→∀ r∈cu s.i k,r.a=2→∃ v,l.foldl (xJ k) w=some v∧v.n≤r.n
 | [],w=>⟨fun w' e=>⟨w',e,Int.le_refl _⟩,by simp⟩
 |x::l,w=>by
  have key:∀ w',(xJ k w x)=some w'→∃ v,(x::l).foldl (xJ k) w=some v∧v.n≤w'.n:=fun w' e=>(Ri (l:=l) (w:=xJ k w x)).1 w' e
  refine⟨fun w' e=>?_,fun s hs hr r hm ha=>?_⟩
  · by_cases hx:x.r=k
    · have e2:xJ k w x=(cu x.i k).foldl (kN true) w:=by unfold xJ; rw[if_pos hx]; rfl
      obtain⟨v,hv⟩:=Option.isSome_iff_exists.1 (BN (b:=true) (l:=cu x.i k) (w:=w) (.inl (by rw[e]; rfl)))
      have h3:=(KJ hv).2 w' e
      obtain⟨u,h4,h5⟩:=key v (by rw[e2]; exact hv)
      exact⟨u,h4,Int.le_trans h5 h3⟩
    · exact key w' (by unfold xJ; rw[if_neg hx]; exact e)
  · rcases List.mem_cons.1 hs with rfl|hs
    · have e2:xJ k w s=(cu s.i k).foldl (kN true) w:=by unfold xJ; rw[if_pos hr]; rfl
      obtain⟨v,hv⟩:=Option.isSome_iff_exists.1 (BN (b:=true) (l:=cu s.i k) (w:=w) (.inr ⟨r,hm,ha⟩))
      have h3:=(KJ hv).1 r hm ha
      obtain⟨u,h4,h5⟩:=key v (by rw[e2]; exact hv)
      exact⟨u,h4,Int.le_trans h5 h3⟩
    · exact(Ri (l:=l) (w:=xJ k w x)).2 s hs hr r hm ha
theorem KZ {c:Cf} {k:Int} {x:Px} {p:Pa} {r:Rt} (h:wQ c k x p=some r):∃ l u:Int,CX c (eX c k)=some l∧lC c k=some u∧l≤r.n∧r.n≤u:=by
 obtain⟨h1,h2,h3,i,s,m,u,rfl,hi,hs,h4,h5,h6,h7,h8,h9,rfl⟩:=mY h
 obtain⟨s1,s2,s3,s4,s5,s6⟩:=mX h1 hs
 have hm:u∈cu s.i s.r:=L8 h8
 rw[yC hs]
 obtain⟨v,hv,hle⟩:=(Ri (k:=s.r) (l:=c.s) (w:=none)).2 s (List.mem_of_getElem? hs) rfl u hm h9
 obtain⟨w,hw⟩:=Option.isSome_iff_exists.1 (BN (b:=false) (l:=cu s.i s.r) (w:=none) (.inr ⟨u,hm,h9⟩))
 have hge:=(Qv hw).1 u hm h9
 refine⟨v.n,w.n,?_,?_,hle,hge⟩
 · unfold CX
   rw[if_neg (by omega)]
   have:agx c s.r=some v:=hv
   rw[this]; rfl
 · unfold lC
   rw[if_pos (by omega),Int.toNat_natCast,hs]
   have:xB false none (cu s.i s.r)=some w:=hw
   simp only[this]; rfl
theorem afl {c:Cf} {j:Int} {x:Px} {r:Rt} {q:Pa} (h:mM c j x r=some q):zU c j (eX c r.f)=true:=by
 obtain⟨g1,g2,g3,g4,g5,i',t,m',u',rfl,gi,gs,g6,g7,g8,g9,rfl⟩:=BL h
 have hm:u'∈cu t.o (eX c r.f):=L8 g6
 unfold zU
 rw[if_pos (by omega),Int.toNat_natCast,gs]
 simp only[List.any_eq_true,bne_iff_ne]
 exact⟨u',hm,g7⟩
theorem VY {c:Cf} {k:Int} {x:Px} {p:Pa} {r:Rt} (h:wQ c k x p=some r):eX c k∈([0,1,2,3]:List Int):=by
 obtain⟨h1,h2,h3,i,s,m,u,rfl,hi,hs,h4,h5,h6,h7,h8,h9,rfl⟩:=mY h
 obtain⟨s1,s2,s3,s4,s5,s6⟩:=mX h1 hs
 rw[yC hs]
 simp only[List.mem_cons,List.not_mem_nil,or_false]
 omega
theorem adz {a b:Cf} (hr:uN a b=true) {x:Px} {r s:Rt} {q:Pa} (h:(∃ k p,wQ a k x p=some r)∨r=uI a.d) (hq:mM a (fK a b.a) x r=some q) (hs:wQ b (fK b a.a) x q=some s):iM r s < 0:=by
 obtain⟨g1,g2,g3,g4,g5⟩:=yL.1 hr
 have ht:=afl hq
 obtain⟨l',u,_,hu,_,hsu⟩:=KZ hs
 have key:∃ l,CX a (eX a r.f)=some l∧l≤r.n∧eX a r.f∈([0,1,2,3]:List Int):=by
  rcases h with ⟨k,p,h⟩|rfl
  · have hk:r.f=k:=(vC h).2.2.1
    obtain⟨l,_,hl,_,hle,_⟩:=KZ h
    rw[hk]
    exact⟨l,hl,hle,VY h⟩
  · have e:eX a (uI a.d).f=0:=by show eX a (-1)=0; unfold eX; rw[if_neg (by decide)]
    rw[e]
    exact⟨400,rfl,Int.le_refl _,by decide⟩
 obtain⟨l,hl,hle,hmem⟩:=key
 have hf:=g5 _ hmem
 unfold tq at hf
 rw[hl,hu,ht] at hf
 simp only[Option.isSome_some,Option.getD_some,Bool.true_and,Bool.and_true,decide_eq_false_iff_not] at hf
 obtain⟨_,_,_,_,_,_,_,n,n1,_,hqs⟩:=vF hq
 have hss:s.p.s=q.s:=(vC hs).2.2.2.2.1
 unfold iM
 simp only[wM]
 by_cases hlt:s.n < r.n
 · have:cZ s.n r.n= -1:=by unfold cZ; rw[if_pos hlt]
   rw[this,if_neg (by decide)]; decide
 · have h1:cZ s.n r.n=0:=kS.2 (by omega)
   have h2:cZ (r.p.s.length:Int) (s.p.s.length:Int)= -1:=by
    unfold cZ
    rw[if_pos]
    rw[hss,hqs,List.length_append,List.length_replicate]; omega
   rw[h1,h2,if_pos rfl,if_neg (by decide)]; decide
end
section
open Go.RowKit Go.Proofs
variable [Lv]
def agP (l:List Cf) (f:T) (i:Int):St:=⟨slots 19 [(0,.t (.sl 6 (l.map Cf.t))),(1,.t f),(7,.t (i64 (l.map Cf.t).length)),(8,.t (i64 i))],[]⟩
theorem q85 (N:Nat) (l:List Cf) (f:T):ak env (N+1) 85 [.sl 6 (l.map Cf.t),f]=W [.sl 6 (l.map Cf.t),f] (bC env N 85 2 (agP l f 0)):=by kernel_rfl
theorem aob (N:Nat) (l:List Cf) (f:T) (i:Int):aH env N 85 0 2 (agP l f i)=bif decide (i < (↑(List.map Cf.t l).length:Int)) then bV (List.map Cf.t l) i fun e=>oN env (aK env N) f [e] fun r=>bT r fun v=>bif v then aj.ok (Ex.ret,{tmps:=slots 19 [(4,PV.t (i64 i))],heap:=[]}) else aj.ok (Ex.norm,agP l f (IntKind.i64.wrap (i+1))) else aj.ok (Ex.exit 0,{tmps:=slots 19 [],heap:=[]}):=by kernel_rfl
theorem adk (N:Nat) (i:Int):aS env N 85 0 2 (aY env 85) (.ret) (⟨slots 19 [(4,.t (i64 i))],[]⟩)=rI i:=by kernel_rfl
theorem Xr (N:Nat):aS env N 85 0 2 (aY env 85) (.exit 0) (⟨slots 19 [],[]⟩)=rI (-1):=by kernel_rfl
theorem q53 (N:Nat) (l:List Cf) (f:T):ak env (N+1) 53 [.sl 6 (l.map Cf.t),f]=W [.sl 6 (l.map Cf.t),f] (Gy N 85 [T.sl 6 (List.map Cf.t l),f] fun a=>rB (decide (a≥0))):=by kernel_rfl
theorem q50 (N:Nat) (t:List Cf) (a:Int):ak env (N+1) 50 [.sl 6 (t.map Cf.t),i64 a]=W [.sl 6 (t.map Cf.t),i64 a] (cl N 85 [T.sl 6 (List.map Cf.t t),T.fn 86 [] [(i64 a).ref]] fun x=>iT IntKind.i64 x fun n=>iT IntKind.i64 x fun a=>aj.ok (T.au [i64 (dh true [0] n),T.bool (decide (a≥0))])):=by kernel_rfl
theorem q86 (N:Nat) (c:Cf) (a:Int):ak env (N+1) 86 [c.t,.ref (i64 a)]=W [c.t,.ref (i64 a)] (rB (c.a==a)):=by kernel_rfl
theorem q23 (N:Nat) (t:List Cf) (i k:Int):ak env (N+1) 23 [.sl 6 (t.map Cf.t),i64 i,i64 k]=W [.sl 6 (t.map Cf.t),i64 i,i64 k] (bif decide (i < 0) then aj.ok (T.au [i64 0,i64 0,T.bool false]) else bif decide (i≥(↑(List.map Cf.t t).length:Int)) then aj.ok (T.au [i64 0,i64 0,T.bool false]) else bif decide (k < 0) then aj.ok (T.au [i64 0,i64 0,T.bool false]) else bV (List.map Cf.t t) i fun e=>gY (e.ay 5 1 false) fun n=>bif decide (k≥n) then aj.ok (T.au [i64 0,i64 0,T.bool false]) else bV (List.map Cf.t t) i fun e=>qW 4 (e.ay 5 1 false) fun xs=>bV xs k fun e=>cl N 50 [T.sl 6 (List.map Cf.t t),e.ay 0 1 false] fun x=>aG x 0 fun y=>aG x 1 fun y_1=>bT y_1 fun b=>bif !b then aj.ok (T.au [i64 0,i64 0,T.bool false]) else pJ y fun jO=>bV (List.map Cf.t t) jO fun e=>bV (List.map Cf.t t) i fun e_1=>cl N 51 [e,e_1.ay 0 1 false] fun x=>aG x 0 fun pI=>aG x 1 fun zJ=>bT zJ fun b=>bif !b then aj.ok (T.au [i64 0,i64 0,T.bool false]) else aj.ok (T.au [y,pI,T.bool true])):=by kernel_rfl
def sPv (t:List Cf) (l:List Sd) (r:List T) (i:Int):St:=⟨slots 39 [(0,.t (.sl 6 (t.map Cf.t))),(5,.own 0),(14,.t (.sl 4 (l.map Sd.t))),(15,.t (i64 (l.map Sd.t).length)),(16,.t (i64 i))],[.row 3 1 r]⟩
theorem q95 (N:Nat) (t:List Cf) (i:Int):ak env (N+1) 95 [.sl 6 (t.map Cf.t),i64 i]=W [.sl 6 (t.map Cf.t),i64 i] (bV (List.map Cf.t t) i fun e=>gY (e.ay 5 1 false) fun n=>bC env N 95 3 {tmps:=slots 39 [(0,PV.t (T.sl 6 (List.map Cf.t t))),(5,PV.own 0),(14,PV.t (e.ay 5 1 false)),(15,PV.t (i64 n)),(16,PV.t (i64 0))],heap:=[ah.row 3 1 []]}):=by kernel_rfl
theorem ajE (N:Nat) (t:List Cf) (l:List Sd) (r:List T) (i:Int):aH env N 95 0 3 (sPv t l r i)=bif decide (i < (↑(List.map Sd.t l).length:Int)) then bV (List.map Sd.t l) i fun e=>chk (e.cells.length==4&& !e.aV) (cl N 50 [T.sl 6 (List.map Cf.t t),e.ay 0 1 false] fun x=>aG x 0 fun y=>aG x 1 fun y_1=>bT y_1 fun b=>bif b then iT IntKind.i64 (e.ay 1 1 false) fun a=>bif a==3 then dB (T.oq 1) [y] (chk (decide ((r.length+1)*8≤140737488355328)) (aj.ok (Ex.norm,sPv t l (r++ [y]) (IntKind.i64.wrap (i+1))))) else aj.ok (Ex.norm,sPv t l r (IntKind.i64.wrap (i+1))) else aj.ok (Ex.norm,sPv t l r (IntKind.i64.wrap (i+1)))) else aj.ok (Ex.exit 0,{tmps:=slots 39 [(5,PV.own 0)],heap:=[ah.row 3 1 r]}):=by kernel_rfl
theorem Xv (N:Nat) (r:List T):aS env N 95 0 3 (aY env 95) (.exit 0) (⟨slots 39 [(5,.own 0)],[.row 3 1 r]⟩)=aj.ok (T.sl 1 r):=by kernel_rfl
def sEa (t:List Cf) (f:T) (i:Int):St:=⟨slots 43 [(0,.t (.sl 6 (t.map Cf.t))),(1,.t f),(12,.t (i64 (t.map Cf.t).length)),(13,.t (i64 i))],[]⟩
def sEb (t:List Cf) (f:T) (i n k:Int):St:=⟨slots 43 [(0,.t (.sl 6 (t.map Cf.t))),(1,.t f),(6,.t (i64 i)),(12,.t (i64 (t.map Cf.t).length)),(13,.t (i64 i)),(21,.t (i64 n)),(22,.t (i64 k))],[]⟩
theorem q55 (N:Nat) (t:List Cf) (f:T):ak env (N+1) 55 [.sl 6 (t.map Cf.t),f]=W [.sl 6 (t.map Cf.t),f] (bC env N 55 2 (sEa t f 0)):=by kernel_rfl
theorem adJ (N:Nat) (t:List Cf) (f:T) (i:Int):aH env N 55 0 2 (sEa t f i)=bif decide (i < (↑(List.map Cf.t t).length:Int)) then bV (List.map Cf.t t) i fun e=>gY (e.ay 5 1 false) fun n=>nY env N 55 2 5 (sEb t f i n 0) else aj.ok (Ex.exit 0,{tmps:=slots 43 [],heap:=[]}):=by kernel_rfl
theorem aal (N:Nat) (t:List Cf) (f:T) (i n k:Int):nR env N 55 0 2 5 (sEb t f i n k)=bif decide (k < n) then cl N 23 [T.sl 6 (List.map Cf.t t),i64 i,i64 k] fun x=>aG x 0 fun y=>aG x 1 fun y_1=>aG x 2 fun pI=>oN env (aK env N) f [i64 i,i64 k,y,y_1,pI] fun r=>bT r fun v=>bif v then aj.ok (Ex.ret,{tmps:=slots 43 [(4,PV.t (i64 i)),(5,PV.t (T.bool true))],heap:=[]}) else aj.ok (Ex.norm,sEb t f i n (IntKind.i64.wrap (k+1))) else aj.ok (Ex.exit 2,sEa t f i):=by kernel_rfl
theorem OH (N:Nat) (t:List Cf) (f:T) (i:Int):pR env N 55 0 2 5 (.exit 2) (sEa t f i)=aj.ok (Ex.norm,sEa t f (IntKind.i64.wrap (i+1))):=by kernel_rfl
theorem Xh (N:Nat) (i:Int):pR env N 55 0 2 5 (.ret) (⟨slots 43 [(4,.t (i64 i)),(5,.t (.bool true))],[]⟩)=aj.ok (Ex.ret,{tmps:=slots 43 [(4,PV.t (i64 i)),(5,PV.t (T.bool true))],heap:=[]}):=by kernel_rfl
theorem adf (N:Nat) (i:Int):aS env N 55 0 2 (aY env 55) (.ret) (⟨slots 43 [(4,.t (i64 i)),(5,.t (.bool true))],[]⟩)=aj.ok (T.au [i64 i,T.bool true]):=by kernel_rfl
theorem Xi (N:Nat):aS env N 55 0 2 (aY env 55) (.exit 0) (⟨slots 43 [],[]⟩)=aj.ok (T.au [i64 0,T.bool false]):=by kernel_rfl
theorem q54 (N:Nat) (d c:Cf):ak env (N+1) 54 [d.t,.ref c.t]=W [d.t,.ref c.t] (bif d.a==c.a then rB true else rB (d.d==c.d)):=by kernel_rfl
theorem q56 (N:Nat) (i k j m:Int) (b:Bool):ak env (N+1) 56 [i64 i,i64 k,i64 j,i64 m,.bool b]=W [i64 i,i64 k,i64 j,i64 m,.bool b] (rB !b):=by kernel_rfl
theorem q57 (N:Nat) (t:List Cf) (i k j m:Int) (b:Bool):ak env (N+1) 57 [i64 i,i64 k,i64 j,i64 m,.bool b,.ref (.sl 6 (t.map Cf.t))]=W [i64 i,i64 k,i64 j,i64 m,.bool b,.ref (.sl 6 (t.map Cf.t))] (bV (List.map Cf.t t) i fun e=>qW 4 (e.ay 5 1 false) fun xs=>bV xs k fun e=>bV (List.map Cf.t t) j fun e_1=>qW 4 (e_1.ay 5 1 false) fun xs=>bV xs m fun e_2=>iT IntKind.i64 (e.ay 1 1 false) fun a=>iT IntKind.i64 (e_2.ay 1 1 false) fun b=>rB (IntKind.i64.wrap (a+b) !=4)):=by kernel_rfl
theorem q58 (N:Nat) (t:List Cf) (i k j m:Int) (b:Bool):ak env (N+1) 58 [i64 i,i64 k,i64 j,i64 m,.bool b,.ref (.sl 6 (t.map Cf.t))]=W [i64 i,i64 k,i64 j,i64 m,.bool b,.ref (.sl 6 (t.map Cf.t))] (bV (List.map Cf.t t) i fun e=>bV (List.map Cf.t t) j fun e_1=>iO N 59 [e,e_1] fun b=>rB !b):=by kernel_rfl
def sCa (t:List Cf) (i:Int):St:=⟨slots 80 [(1,.ptr 0 0),(24,.t (.sl 6 (t.map Cf.t))),(25,.t (i64 (t.map Cf.t).length)),(26,.t (i64 i))],[.box 22 1 (.t (.sl 6 (t.map Cf.t)))]⟩
def sCb (t:List Cf) (i:Int):St:=⟨slots 80 [(1,.ptr 0 0),(36,.t (.sl 6 (t.map Cf.t))),(37,.t (i64 (t.map Cf.t).length)),(38,.t (i64 i))],[.box 22 1 (.t (.sl 6 (t.map Cf.t)))]⟩
theorem q25 (N:Nat) (t:List Cf):ak env (N+1) 25 [.sl 6 (t.map Cf.t)]=W [.sl 6 (t.map Cf.t)] (bif (↑(List.map Cf.t t).length:Int)==0 then aj.ok (T.au [i64 0,i64 1]) else bif decide ((↑(List.map Cf.t t).length:Int) > 8) then aj.ok (T.au [i64 0,i64 4]) else bC env N 25 6 (sCa t 0)):=by kernel_rfl
theorem adI (N:Nat) (t:List Cf) (i:Int):aH env N 25 0 6 (sCa t i)=bif decide (i < (↑(List.map Cf.t t).length:Int)) then bV (List.map Cf.t t) i fun e=>chk (e.cells.length==6&& !e.aV) (iO N 52 [e] fun b=>bif !b then aj.ok (Ex.ret,{tmps:=slots 80 [(2,PV.t (i64 i)),(3,PV.t (i64 2))],heap:=[]}) else aj.ok (Ex.norm,sCa t (IntKind.i64.wrap (i+1)))) else aj.ok (Ex.exit 1,{tmps:=slots 80 [(1,PV.ptr 0 0)],heap:=[ah.box 22 1 (PV.t (T.sl 6 (List.map Cf.t t)))]}):=by kernel_rfl
theorem ac3 (N:Nat) (i e:Int):aS env N 25 0 6 (aY env 25) (.ret) (⟨slots 80 [(2,.t (i64 i)),(3,.t (i64 e))],[]⟩)=aj.ok (T.au [i64 i,i64 e]):=by kernel_rfl
theorem WU (N:Nat) (t:List Cf):aS env N 25 0 6 (aY env 25) (.exit 1) (⟨slots 80 [(1,.ptr 0 0)],[.box 22 1 (.t (.sl 6 (t.map Cf.t)))]⟩)=bC env N 25 12 (sCb t 0):=by kernel_rfl
theorem Z4 (N:Nat) (i e:Int):aS env N 25 0 12 (aY env 25) (.ret) (⟨slots 80 [(2,.t (i64 i)),(3,.t (i64 e))],[]⟩)=aj.ok (T.au [i64 i,i64 e]):=by kernel_rfl
theorem TP (N:Nat) (t:List Cf):aS env N 25 0 12 (aY env 25) (.exit 3) (⟨slots 80 [(1,.ptr 0 0)],[.box 22 1 (.t (.sl 6 (t.map Cf.t)))]⟩)=cl N 55 [T.sl 6 (List.map Cf.t t),T.fn 56 [] []] fun x=>aG x 0 fun y=>aG x 1 fun y_1=>bT y_1 fun v=>bif v then aj.ok (T.au [y,i64 8]) else cl N 55 [T.sl 6 (List.map Cf.t t),T.fn 57 [] [(T.sl 6 (List.map Cf.t t)).ref]] fun x=>aG x 0 fun y=>aG x 1 fun pI=>bT pI fun v=>bif v then aj.ok (T.au [y,i64 9]) else cl N 55 [T.sl 6 (List.map Cf.t t),T.fn 58 [] [(T.sl 6 (List.map Cf.t t)).ref]] fun x=>aG x 0 fun y=>aG x 1 fun zJ=>bT zJ fun v=>bif v then aj.ok (T.au [y,i64 10]) else cl N 60 [T.sl 6 (List.map Cf.t t)] fun x=>aG x 0 fun y=>aG x 1 fun y_4=>bT y_4 fun v=>bif v then aj.ok (T.au [y,i64 11]) else aj.ok (T.au [i64 0,i64 0]):=by kernel_rfl
end
section
open Go.RowKit Go.Proofs
variable [Lv]
theorem QI (N:Nat) (t:List Cf) (i:Int):dO env N 25 [5] 0 2 (sCb t i)=bif decide (i < (↑(List.map Cf.t t).length:Int)) then aj.ok (Ex.norm,{tmps:=slots 80 [(1,PV.ptr 0 0),(36,PV.t (T.sl 6 (List.map Cf.t t))),(37,PV.t (i64 (↑(List.map Cf.t t).length:Int))),(38,PV.t (i64 i)),(39,PV.t (T.bool (decide (i < (↑(List.map Cf.t t).length:Int)))))],heap:=[ah.box 22 1 (PV.t (T.sl 6 (List.map Cf.t t)))]}) else aj.ok (Ex.exit 3,{tmps:=slots 80 [(1,PV.ptr 0 0),(36,PV.t (T.sl 6 (List.map Cf.t t))),(37,PV.t (i64 (↑(List.map Cf.t t).length:Int))),(38,PV.t (i64 i)),(39,PV.t (T.bool (decide (i < (↑(List.map Cf.t t).length:Int)))))],heap:=[ah.box 22 1 (PV.t (T.sl 6 (List.map Cf.t t)))]}):=by kernel_rfl
def akC (t:List Cf) (i:Int):St:=⟨slots 80 [(1,.ptr 0 0),(36,.t (.sl 6 (t.map Cf.t))),(37,.t (i64 (t.map Cf.t).length)),(38,.t (i64 i)),(39,.t (.bool true))],[.box 22 1 (.t (.sl 6 (t.map Cf.t)))]⟩
theorem XB (N:Nat) (t:List Cf) (i:Int):dO env N 25 [5,2] 0 1 (akC t i)=bV (List.map Cf.t t) i fun e=>chk (e.cells.length==6&& !e.aV) (aj.ok (Ex.norm,{tmps:=slots 80 [(1,PV.ptr 0 0),(6,PV.t (i64 i)),(7,PV.ptr 1 0),(36,PV.t (T.sl 6 (List.map Cf.t t))),(37,PV.t (i64 (↑(List.map Cf.t t).length:Int))),(38,PV.t (i64 i)),(39,PV.t (T.bool true)),(40,PV.t (i64 i)),(41,PV.rp 6 e 0),(42,PV.t e)],heap:=[ah.box 22 1 (PV.t (T.sl 6 (List.map Cf.t t))),ah.box 56 6 (PV.t e)]})):=by kernel_rfl
def akD (t:List Cf) (i:Int) (c:Cf):St:=⟨slots 80 [(1,.ptr 0 0),(6,.t (i64 i)),(7,.ptr 1 0),(36,.t (.sl 6 (t.map Cf.t))),(37,.t (i64 (t.map Cf.t).length)),(38,.t (i64 i)),(39,.t (.bool true)),(40,.t (i64 i)),(41,.rp 6 c.t 0),(42,.t c.t)],[.box 22 1 (.t (.sl 6 (t.map Cf.t))),.box 56 6 (.t c.t)]⟩
theorem zCB (N:Nat) (t:List Cf) (i:Int) (c:Cf):(oW env N 25 [5,2] 1 2 (akD t i c) (Je env N 25 [] 5 4 3 1))=chk (decide (0≤i)&&decide (i≤(↑(List.map Cf.t t).length:Int))) (iO N 53 [T.sl 6 (List.drop 0 (List.take i.toNat (List.map Cf.t t))),T.fn 54 [] [c.t.ref]] fun v=>bif v then aj.ok (Ex.ret,{tmps:=slots 80 [(2,PV.t (i64 i)),(3,PV.t (i64 7))],heap:=[]}) else aj.ok (Ex.norm,{tmps:=slots 80 [(1,PV.ptr 0 0),(36,PV.t (T.sl 6 (List.map Cf.t t))),(37,PV.t (i64 (↑(List.map Cf.t t).length:Int))),(38,PV.t (i64 (IntKind.i64.wrap (i+1))))],heap:=[ah.box 22 1 (PV.t (T.sl 6 (List.map Cf.t t)))]})):=by kernel_rfl
end
section
def uT (t:List Cf) (a:Int):Option Nat:=t.findIdx? fun c=>c.a==a
theorem J6 {t:List Cf} {a:Int} {j:Nat} (h:uT t a=some j):j < t.length:=(List.findIdx?_eq_some_iff_getElem.1 h).1
def jT (t:List Cf) (i:Nat):List Nat:=match t[i]? with
 |some c=>c.s.filterMap fun s=>if s.r=3 then uT t s.a else none
 |none=>[]
theorem aa4 {t:List Cf} {i j:Nat} (h:j∈jT t i):j < t.length:=by
 unfold jT at h
 split at h
 · obtain⟨s,_,h2⟩:=List.mem_filterMap.1 h
   split at h2
   · exact J6 h2
   · cases h2
 · cases h
inductive Up (t:List Cf) (i:Nat):Nat→Prop
 |one {j:Nat}:j∈jT t i→Up t i j
 |more {j m:Nat}:Up t i j→m∈jT t j→Up t i m
theorem Up.lt {t:List Cf} {i j:Nat} (h:Up t i j):j < t.length:=by cases h<;>exact aa4 ‹_›
structure Work (t:List Cf) (i:Nat) (wait gone:Nat→Prop):Prop where
 up:∀ j,wait j∨gone j→Up t i j
 own:∀ j∈jT t i,wait j∨gone j
 next:∀ j,gone j→∀ m∈jT t j,wait m∨gone m
theorem Work.done {t:List Cf} {i:Nat} {wait gone:Nat→Prop} (h:Work t i wait gone) (hw:∀ j,¬ wait j) (j:Nat):gone j↔Up t i j:=by
 constructor
 · exact fun hg=>h.up j (.inr hg)
 · intro hu
   induction hu with
   |one hj=>exact(h.own _ hj).resolve_left (hw _)
   |more _ hm ih=>exact(h.next _ ih _ hm).resolve_left (hw _)
theorem Work.step {t:List Cf} {i j:Nat} {wait gone:Nat→Prop} (h:Work t i wait gone) (hj:wait j):Work t i (fun m=>(wait m∧m≠j)∨(m∈jT t j∧ ¬ (gone m∨m=j))) (fun m=>gone m∨m=j) where
 up m hm:=by
  rcases hm with (⟨hm,_⟩|⟨hm,_⟩)|(hm|rfl)
  · exact h.up m (.inl hm)
  · exact .more (h.up j (.inl hj)) hm
  · exact h.up m (.inr hm)
  · exact h.up m (.inl hj)
 own m hm:=by
  rcases h.own m hm with hm|hm
  · by_cases e:m=j
    · exact .inr (.inr e)
    · exact .inl (.inl ⟨hm,e⟩)
  · exact .inr (.inl hm)
 next k hk m hm:=by
  rcases hk with hk|rfl
  · rcases h.next k hk m hm with hm'|hm'
    · by_cases e:m=j
      · exact .inr (.inr e)
      · exact .inl (.inl ⟨hm',e⟩)
    · exact .inr (.inl hm')
  · by_cases e:gone m∨m=k
    · exact .inr e
    · exact .inl (.inr ⟨hm,e⟩)
def SN (t:List Cf) (i:Nat) (p:Nat→Bool):Nat→Bool:=fun b=>p b||(List.range t.length).any fun a=>(a==i||p a)&&(jT t a).contains b
def oD (t:List Cf) (i:Nat):Nat→Nat→Bool
 |0=>fun _=>false
 |n+1=>SN t i (oD t i n)
theorem qF {t:List Cf} {i b:Nat} {p:Nat→Bool}:SN t i p b=true↔p b=true∨∃ a,a < t.length∧(a=i∨p a=true)∧b∈jT t a:=by
 unfold SN
 simp[List.any_eq_true,and_assoc]
theorem EW {t:List Cf} {i:Nat}:∀ (n b:Nat),oD t i n b=true→Up t i b
 |0,b,h=>by cases h
 |n+1,b,h=>by
  rcases qF.1 h with h|⟨a,_,rfl|h,hb⟩
  · exact EW n b h
  · exact .one hb
  · exact .more (EW n a h) hb
theorem Fh {p q:Nat→Bool} (hpq:∀ x,p x=true→q x=true):∀ (l:List Nat),(l.filter p).length≤(l.filter q).length∧((∃ x∈l,q x=true∧p x=false)→(l.filter p).length < (l.filter q).length)
 | []=>⟨Nat.le_refl _,fun⟨_,h,_⟩=>by cases h⟩
 |a::l=>by
  obtain⟨h1,h2⟩:=Fh hpq l
  have e:∀ r:Nat→Bool,((a::l).filter r).length=(if r a=true then 1 else 0)+(l.filter r).length:=fun r=>by
   rw[List.filter_cons]
   split<;>simp<;>omega
  rw[e,e]
  refine⟨?_,?_⟩
  · by_cases ha:p a=true
    · rw[if_pos ha,if_pos (hpq a ha)]; omega
    · rw[if_neg ha]; split<;>omega
  · rintro⟨x,hx,hq,hp⟩
    rcases List.mem_cons.1 hx with rfl|hx
    · rw[if_neg (by rw[hp]; simp),if_pos hq]; omega
    · have:=h2 ⟨x,hx,hq,hp⟩
      by_cases ha:p a=true
      · rw[if_pos ha,if_pos (hpq a ha)]; omega
      · rw[if_neg ha]; split<;>omega
def Shut (t:List Cf) (i:Nat) (p:Nat→Bool):Prop:=∀ b,SN t i p b=true→p b=true
theorem abe {t:List Cf} {i:Nat}:∀ n,Shut t i (oD t i n)∨n≤((List.range t.length).filter (oD t i n)).length
 |0=> .inr (Nat.zero_le _)
 |n+1=>by
  by_cases h:Shut t i (oD t i n)
  · refine .inl fun b hb=>?_
    have hle:∀ x,oD t i (n+1) x=true→oD t i n x=true:=h
    refine qF.2 (.inl ?_)
    rcases qF.1 hb with hb|⟨a,ha,hp,hb⟩
    · exact hle b hb
    · exact h b (qF.2 (.inr ⟨a,ha,hp.imp id (hle a),hb⟩))
  · have h0:=(abe n).resolve_left h
    obtain⟨b,hb1,hb2⟩:∃ b,SN t i (oD t i n) b=true∧oD t i n b=false:=by
     unfold Shut at h
     simp only[Classical.not_forall] at h
     obtain⟨b,h1,h2⟩:=h
     exact⟨b,h1,by simpa using h2⟩
    refine .inr ?_
    have hlt:b < t.length:=by
     rcases qF.1 hb1 with h1|⟨a,_,_,h1⟩
     · rw[hb2] at h1; cases h1
     · exact aa4 h1
    have:=(Fh (p:=oD t i n) (q:=oD t i (n+1)) (fun x hx=>qF.2 (.inl hx)) (List.range t.length)).2 ⟨b,List.mem_range.2 hlt,hb1,hb2⟩
    omega
theorem MO {t:List Cf} {i:Nat}:Shut t i (oD t i t.length):=by
 rcases abe (t:=t) (i:=i) t.length with h|h
 · exact h
 · intro b hb
   have hlt:b < t.length:=(EW (t.length+1) b hb).lt
   have hall:(List.range t.length).filter (oD t i t.length)=List.range t.length:=by
    refine List.filter_sublist.eq_of_length_le ?_
    rw[List.length_range]; exact h
   have:=List.filter_eq_self.1 hall b (List.mem_range.2 hlt)
   exact this
theorem steps_iff {t:List Cf} {i:Nat} (hi:i < t.length) {b:Nat}:oD t i t.length b=true↔Up t i b:=by
 constructor
 · exact EW _ _
 · intro hu
   induction hu with
   |one h=>exact MO _ (qF.2 (.inr ⟨i,hi,.inl rfl,h⟩))
   |more hu h ih=>exact MO _ (qF.2 (.inr ⟨_,hu.lt,.inr ih,h⟩))
noncomputable def zG (t:List Cf):Option Nat:=(List.range t.length).find? fun i=>oD t i t.length i
end
section
open Go.RowKit Go.Proofs
variable [Lv]
def atJ (t:List Cf):Prop:=bZ Cf.ok t
theorem ku {t:List Cf} (h:bZ Cf.ok t):(T.sl 6 (t.map Cf.t)).wf=true:=dG (fun _ h=>Cf.ok.wf h) h
theorem aeF {M:Nat} {l:List Cf} {g:FuncId} {cs:List T} {q:Cf→Bool} (hM:big+1≤M) (hl:bZ Cf.ok l) (hw:T.wfs cs=true) (hm:env.mode g=0) (hq:∀ r∈l,ak env M g (r.t::cs)= .ok (.bool (q r))):
 ak env (M+1) 85 [.sl 6 (l.map Cf.t),.fn g [] cs]= .ok (i64 (rV (l.findIdx? q))):=by
 rw[q85,aZ (dN (ku hl) (xu hw))]
 exact Ec Cf.t (S:=agP l _) q (by have:=hl.1; omega) hl.1 (aob M l _) (adk M) (Xr M) fun x hx K=>(lS hm).trans (aF (hq x hx))
theorem alu {M:Nat} {l:List Cf} {g:FuncId} {cs:List T} {q:Cf→Bool} (hM:big+2≤M) (hl:bZ Cf.ok l) (hw:T.wfs cs=true) (hm:env.mode g=0) (hq:∀ m,M≤m+1→∀ r∈l,ak env m g (r.t::cs)= .ok (.bool (q r))):
 ak env (M+1) 53 [.sl 6 (l.map Cf.t),.fn g [] cs]= .ok (.bool (l.any q)):=by
 obtain⟨m,rfl⟩:=dL (show 1≤M by omega)
 rw[q53,aZ (dN (ku hl) (xu hw)),nI (aeF (by omega) hl hw hm (hq m (Nat.le_refl _))),wP,qI]
theorem alG {M:Nat} {c:Cf} {a:Int} (h:c.ok) (ha:aT a=true):ak env (M+1) 86 [c.t,.ref (i64 a)]= .ok (.bool (c.a==a)):=by
 rw[q86,aZ (dN h.wf (lG (bg ha)))]
theorem aeC {M:Nat} {t:List Cf} {a:Int} (hM:big+2≤M) (ht:bZ Cf.ok t) (ha:aT a=true):ak env (M+1) 50 [.sl 6 (t.map Cf.t),i64 a]= .ok (.au [i64 (((uT t a).getD 0:Nat):Int),.bool (uT t a).isSome]):=by
 obtain⟨m,rfl⟩:=dL (show 1≤M by omega)
 rw[q50,aZ (dN (ku ht) (bg ha)),aF (aeF (q:=fun c=>c.a==a) (by omega) ht (gQ (lG (bg ha))) rfl fun c hc=>by
  obtain⟨m,rfl⟩:=dL (show 1≤m by omega); exact alG (ht.2 c hc) ha)]
 simp only[bW,U3,wP]
 rfl
def iI (t:List Cf) (i k:Int):Option (Nat×Nat):=if 0≤i∧0≤k then(match t[i.toNat]? with
 |some c=>(match c.s[k.toNat]? with
  |some s=>(match uT t s.a with
   |some j=>(match t[j]? with|some d=>(idxOf d c.a).map fun m=>(j,m)|none=>none)
   |none=>none)
  |none=>none)
 |none=>none) else none
def Et (r:Option (Nat×Nat)):Int:=((r.map (·.1)).getD 0:Nat)
def Eu (r:Option (Nat×Nat)):Int:=((r.map (·.2)).getD 0:Nat)
def Yk (r:Option (Nat×Nat)):T:= .au [i64 (Et r),i64 (Eu r),.bool r.isSome]
theorem Uc (c:Cf):c.t.ay 5 1 false= .sl 4 (c.s.map Sd.t):=rfl
theorem apM (c:Cf):c.t.ay 0 1 false=i64 c.a:=rfl
theorem anX (s:Sd):s.t.ay 0 1 false=i64 s.a:=rfl
theorem J5 {t:List Cf} {i k:Nat} {c:Cf} {s:Sd} (hc:t[i]? =some c) (hs:c.s[k]? =some s):iI t i k=(match uT t s.a with
 |some j=>(match t[j]? with|some d=>(idxOf d c.a).map fun m=>(j,m)|none=>none)
 |none=>none):=by
 unfold iI
 rw[if_pos ⟨by omega,by omega⟩,Int.toNat_natCast,Int.toNat_natCast,hc]
 simp only[hs]
theorem Pn {M:Nat} {t:List Cf} {i k:Int} (hM:big+6≤M) (ht:bZ Cf.ok t) (hi:aT i=true) (hk:aT k=true):ak env (M+1) 23 [.sl 6 (t.map Cf.t),i64 i,i64 k]= .ok (Yk (iI t i k)):=by
 obtain⟨m,rfl⟩:=dL (show 1≤M by omega)
 rw[q23,aZ (BP (ku ht) (bg hi) (bg hk))]
 have hnone:iI t i k=none→aj.ok (T.au [i64 0,i64 0,T.bool false])=aj.ok (Yk (iI t i k)):=fun h=>by rw[h]; rfl
 by_cases h0:i < 0
 · rw[decide_eq_true h0]; exact hnone (by unfold iI; rw[if_neg (by omega)])
 rw[decide_eq_false h0]
 by_cases h1:i≥t.length
 · rw[decide_eq_true (by rw[List.length_map]; omega)]
   refine hnone ?_
   unfold iI
   rw[List.getElem?_eq_none (by omega)]
   split<;>rfl
 rw[decide_eq_false (by rw[List.length_map]; omega)]
 by_cases h2:k < 0
 · rw[decide_eq_true h2]; exact hnone (by unfold iI; rw[if_neg (by omega)])
 rw[decide_eq_false h2]
 obtain⟨i,rfl⟩:∃ n:Nat,i=n:=⟨i.toNat,by omega⟩
 obtain⟨k,rfl⟩:∃ n:Nat,k=n:=⟨k.toNat,by omega⟩
 have hc:t[i]? =some t[i]:=List.getElem?_eq_getElem (by omega)
 have hco:=ht.2 _ (List.mem_of_getElem? hc)
 generalize t[i]=c at hc hco
 simp only[cond_false,aA (aC hc),Uc,gY]
 by_cases h3:(k:Int)≥c.s.length
 · rw[decide_eq_true (by rw[List.length_map]; omega)]
   refine hnone ?_
   unfold iI
   rw[if_pos ⟨by omega,by omega⟩,Int.toNat_natCast,Int.toNat_natCast,hc]
   simp only[]
   rw[List.getElem?_eq_none (by omega)]
 rw[decide_eq_false (by rw[List.length_map]; omega)]
 have hs:c.s[k]? =some c.s[k]:=List.getElem?_eq_getElem (by omega)
 have hso:=hco.s.2 _ (List.mem_of_getElem? hs)
 generalize c.s[k]=s at hs hso
 simp only[cond_false,qW,if_true]
 rw[aA (aC hs),anX,aF (aeC (by omega) ht hso.a),J5 hc hs]
 cases hf:uT t s.a with
 |none=>rfl
 |some j=>
  have hj:=J6 hf
  have hd:t[j]? =some t[j]:=List.getElem?_eq_getElem hj
  have hdo:=ht.2 _ (List.mem_of_getElem? hd)
  generalize t[j]=d at hd hdo
  simp only[aG,List.getElem?_cons_zero,List.getElem?_cons_succ,Option.getD_some,Option.isSome_some,bT,Bool.not_true,cond_false,pJ,aA (aC hd),apM,hd]
  rw[aF (Po (by omega) hdo hco.a)]
  cases hx:idxOf d c.a with
  |none=>rfl
  |some m'=>
   have e:fK d c.a=(m':Int):=by unfold fK; rw[hx]; rfl
   simp only[e,aG,List.getElem?_cons_zero,List.getElem?_cons_succ,Option.isSome_some,bT,Bool.not_true,cond_false]; rfl
def fG (l:List Nat):List T:=l.map fun(j:Nat)=>i64 (j:Int)
def NZ (t:List Cf) (r:List Nat) (s:Sd):List Nat:=match (if s.r=3 then uT t s.a else none) with|some j=>r++ [j]|none=>r
theorem Qj (t:List Cf):∀ (l:List Sd) (r:List Nat),l.foldl (NZ t) r=r++l.filterMap fun s=>if s.r=3 then uT t s.a else none
 | [],r=>by simp
 |s::l,r=>by
  rw[List.foldl_cons,Qj t l,List.filterMap_cons]
  unfold NZ
  cases (if s.r=3 then uT t s.a else none)<;>simp
theorem acr {t:List Cf} {s:Sd} {r:List Nat}:(NZ t r s).length≤r.length+1:=by
 unfold NZ
 split<;>simp
theorem aeG {M i:Nat} {t:List Cf} {c:Cf} (hM:big+4≤M) (ht:bZ Cf.ok t) (hc:t[i]? =some c) (hs:(c.s.length+1)*8≤big):ak env (M+1) 95 [.sl 6 (t.map Cf.t),i64 i]= .ok (.sl 1 (fG (jT t i))):=by
 obtain⟨m,rfl⟩:=dL (show 1≤M by omega)
 have hb:=ht.1
 have hbg:=aQ
 have hi:i < t.length:=(List.getElem?_eq_some_iff.1 hc).1
 have hco:=ht.2 c (List.mem_of_getElem? hc)
 rw[q95,aZ (dN (ku ht) (bg (iR (by omega)))),aA (aC hc)]
 simp only[Uc,gY]
 have it:=(lW (B:=aH env (m+1) 95 0 3) (S:=fun r k=>sPv t c.s (fG r) (k:Nat)) (X:=fun r=>⟨slots 39 [(5,.own 0)],[.row 3 1 (fG r)]⟩) (id:=0) (fun r k=>r.length≤k) (NZ t) c.s (n:=m+1) [] (by omega)
  (fun r k s hx hr=>⟨?_,Nat.le_trans acr (by omega)⟩) (fun r hr=>?_) (Nat.le_refl _)).1
 · refine(aU it).trans ?_
   rw[Xv,Qj]
   unfold jT
   rw[hc]; rfl
 · have hk:=(List.getElem?_eq_some_iff.1 hx).1
   have hso:=hco.s.2 s (List.mem_of_getElem? hx)
   have hw:=wrap_succ (show k≤big by omega)
   rw[ajE,decide_eq_true (by rw[List.length_map]; omega)]
   simp only[cond_true]
   rw[aA (aC hx),show(s.t.cells.length==4&& !s.t.aV)=true from rfl,aI,anX,aF (aeC (by omega) ht hso.a)]
   unfold NZ
   cases hf:uT t s.a with
   |none=>
    simp only[aG,List.getElem?_cons_zero,List.getElem?_cons_succ,Option.isSome_none,bT,cond_false,hw]
    cases hr3:decide (s.r=3) with
    |true=>rw[if_pos (of_decide_eq_true hr3)]
    |false=>rw[if_neg (of_decide_eq_false hr3)]
   |some j=>
    simp only[aG,List.getElem?_cons_zero,List.getElem?_cons_succ,Option.isSome_some,bT,cond_true,Option.getD_some,NJ,bW,hw]
    by_cases h3:s.r=3
    · rw[if_pos h3,beq_iff_eq.2 h3,cond_true]
      have hl:(fG r).length=r.length:=by simp[fG]
      show chk _ (chk _ (aj.ok _))=_
      rw[decide_eq_true (show((fG r).length+1)*8≤140737488355328 by rw[hl]; omega)]
      show aj.ok (Ex.norm,sPv t c.s (fG r++ [i64 j]) _)=_
      simp only[fG,List.map_append,List.map_cons,List.map_nil]
    · rw[if_neg h3,beq_eq_false_iff_ne.2 h3,cond_false]
 · rw[ajE,decide_eq_false (by rw[List.length_map]; omega)]
   rfl
end
section
open Go.RowKit Go.Proofs
variable [Lv]
def sSz (m i:Int):St:=⟨slots 14 [(3,.t (i64 m)),(4,.t (i64 i))],[]⟩
def sHa (l:List Int) (n i:Int):St:=⟨slots 18 [(0,.t (.sl 1 (ints l))),(1,.t (i64 n)),(5,.t (i64 i))],[]⟩
def sPk (l:List Ru) (v:Vw) (i:Int):St:=⟨slots 24 [(0,.t (.sl 6 (l.map Ru.t))),(3,.ptr 0 0),(4,.ptr 1 0),(6,.t (i64 i))],[.box 137 4 (.t v.t),.box 123 6 (.t (T.agg [i64 0,i64 0,i64 0,i64 0,i64 0,i64 0]))]⟩
def sRu (l:List Ru) (b:Bool) (i:Int):St:=⟨slots 22 [(0,.t (.sl 6 (l.map Ru.t))),(1,.t (.bool b)),(5,.t (i64 i))],[]⟩
def sOw (l:List Px) (i:Int):St:=⟨slots 34 [(0,.t (.sl 2 (l.map Px.t))),(3,.t (i64 i))],[]⟩
def acK (l:List Px) (i k:Int):St:=⟨slots 34 [(0,.t (.sl 2 (l.map Px.t))),(3,.t (i64 i)),(4,.t (i64 k))],[]⟩
def sSi (l:List Sd) (a i:Int):St:=⟨slots 70 [(0,.t (.sl 4 (l.map Sd.t))),(1,.t (i64 a)),(5,.t (i64 i))],[]⟩
def agW (l:List Sd) (a i:Int) (s:Sd) (k:Int):St:=⟨slots 70 [(0,.t (.sl 4 (l.map Sd.t))),(1,.t (i64 a)),(5,.t (i64 i)),(6,.ptr 0 0),(7,.t (i64 k))],[.box 86 4 (.t s.t)]⟩
def sPs (p:Pa) (i:Int):St:=⟨slots 59 [(1,.ptr 0 0),(3,.t (i64 i))],[.box 42 4 (.t p.t)]⟩
def sHb (l:List Int) (n i:Int):St:=⟨slots 18 [(0,.t (.sl 1 (ints l))),(1,.t (i64 n)),(5,.t (i64 i))],[]⟩
theorem q75 (N:Nat) (a b:Rt):ak env (N+1) 75 [a.t,b.t]=W [a.t,b.t] (bif a.n==b.n then bif a.f==b.f then cl N 99 [a.p.t,b.p.t] fun x=>aj.ok x else rB false else rB false):=by kernel_rfl
end
section
open Go.RowKit Go.Proofs
variable [Lv]
end
section
open Go.RowKit Go.Proofs
variable [Lv]
def sSP (a b:Pa) (i:Int):St:=⟨slots 52 [(2,.ptr 0 0),(3,.ptr 1 0),(5,.t (i64 i))],[.box 42 4 (.t a.t),.box 42 4 (.t b.t)]⟩
theorem q99 (N:Nat) (a b:Pa):ak env (N+1) 99 [a.t,b.t]=W [a.t,b.t] (bif a.o !=b.o then rB false else bif a.h !=b.h then rB false else bif a.c !=b.c then rB false else bif (↑(ints a.s).length:Int) !=(↑(ints b.s).length:Int) then rB false else bC env N 99 4 {tmps:=slots 52 [(2,PV.ptr 0 0),(3,PV.ptr 1 0),(5,PV.t (i64 0))],heap:=[ah.box 42 4 (PV.t a.t),ah.box 42 4 (PV.t b.t)]}):=by kernel_rfl
theorem adK (N:Nat) (a b:Pa) (i:Int):aH env N 99 0 4 (sSP a b i)=bif decide (i < (↑(ints a.s).length:Int)) then bV (ints a.s) i fun e=>bV (ints b.s) i fun e_1=>iT IntKind.i64 e fun a_1=>iT IntKind.i64 e_1 fun b_1=>bif a_1 !=b_1 then aj.ok (Ex.ret,{tmps:=slots 52 [(4,PV.t (T.bool false))],heap:=[]}) else aj.ok (Ex.norm,sSP a b (IntKind.i64.wrap (i+1))) else aj.ok (Ex.exit 0,{tmps:=slots 52 [],heap:=[]}):=by kernel_rfl
theorem Xx (N:Nat) (H:List ah):aS env N 99 0 4 (aY env 99) (.exit 0) (⟨slots 52 [],H⟩)=rB true:=by kernel_rfl
theorem adn (N:Nat) (H:List ah) (v:Bool):aS env N 99 0 4 (aY env 99) (.ret) (⟨slots 52 [(4,.t (.bool v))],H⟩)=rB v:=by kernel_rfl
end
section
open Go.RowKit Go.Proofs
variable [Lv]
theorem acR {M:Nat} {a b:Pa} (hM:big+1≤M) (ha:a.s.length≤big) (hs:a.s.length=b.s.length):bC env M 99 4 (sSP a b 0)=rB (decide (a.s=b.s)):=by
 have hit:=fH (B:=aH env M 99 0 4) (S:=fun i=>sSP a b i) (R:=fun _=>⟨slots 52 [(4,.t (.bool false))],[]⟩) (X:=⟨slots 52 [],[]⟩) (id:=0) (fun i=> !(a.s[i]? ==b.s[i]?)) a.s.length 0 M (by omega)
  (fun j h0 h1 hp=>by
   have hj:j < a.s.length:=by omega
   have e1:a.s[j]? =some a.s[j]:=List.getElem?_eq_getElem hj
   have e2:b.s[j]? =some (b.s[j]'(by omega)):=List.getElem?_eq_getElem (by omega)
   rw[adK,decide_eq_true (by rw[aX,List.length_map]; omega)]
   simp only[cond_true]
   rw[aA (jm e1),aA (jm e2)]
   simp only[bW]
   rw[e1,e2] at hp
   have:(a.s[j] !=b.s[j]'(by omega))=true:=by simpa using hp
   rw[this]; rfl)
  (fun j h0 h1 hp=>by
   have hj:j < a.s.length:=by omega
   have e1:a.s[j]? =some a.s[j]:=List.getElem?_eq_getElem hj
   have e2:b.s[j]? =some (b.s[j]'(by omega)):=List.getElem?_eq_getElem (by omega)
   rw[adK,decide_eq_true (by rw[aX,List.length_map]; omega)]
   simp only[cond_true]
   rw[aA (jm e1),aA (jm e2)]
   simp only[bW]
   rw[e1,e2] at hp
   have:(a.s[j] !=b.s[j]'(by omega))=false:=by simpa using hp
   rw[this,wrap_succ (show j≤big by omega)]; rfl)
  (by rw[Nat.zero_add,adK,decide_eq_false (by rw[aX,List.length_map]; omega)]; rfl)
 cases hk:dI (fun i=> !(a.s[i]? ==b.s[i]?)) 0 a.s.length with
 |some j=>
  rw[hk] at hit
  obtain⟨_,hj,hp⟩:=jB hk
  refine(aU hit).trans ((adn M [] false).trans ?_)
  rw[decide_eq_false]
  intro he
  rw[he] at hp
  simp at hp
 |none=>
  rw[hk] at hit
  refine(aU hit).trans ((Xx M []).trans ?_)
  rw[decide_eq_true]
  refine List.ext_getElem? fun i=>?_
  rcases Nat.lt_or_ge i a.s.length with hi|hi
  · have:=iG hk i (by omega) (by omega)
    simpa using this
  · rw[List.getElem?_eq_none hi,List.getElem?_eq_none (by omega)]
theorem alP {M:Nat} {a b:Pa} (hM:big+1≤M) (ha:a.ok) (hb:b.ok):ak env (M+1) 99 [a.t,b.t]= .ok (.bool (decide (a=b))):=by
 have e:decide (a=b)=(decide (a.o=b.o)&&(decide (a.h=b.h)&&(decide (a.c=b.c)&&decide (a.s=b.s)))):=by
  rw[Bool.eq_iff_iff]
  simp only[decide_eq_true_eq,Bool.and_eq_true]
  obtain⟨o,s,h,c⟩:=a
  obtain⟨o',s',h',c'⟩:=b
  simp only[Pa.mk.injEq]
  constructor
  · rintro⟨h1,h2,h3,h4⟩; exact⟨h1,h3,h4,h2⟩
  · rintro⟨h1,h3,h4,h2⟩; exact⟨h1,h2,h3,h4⟩
 rw[e,q99,aZ (dN ha.wf hb.wf)]
 by_cases h1:a.o=b.o
 case neg=>rw[bne_iff_ne.2 h1,decide_eq_false h1]; rfl
 by_cases h2:a.h=b.h
 case neg=>rw[h1,bne_self_eq_false,bne_iff_ne.2 h2,decide_eq_false h2]; simp
 by_cases h3:a.c=b.c
 case neg=>rw[h1,h2,bne_self_eq_false,bne_self_eq_false,bne_iff_ne.2 h3,decide_eq_false h3]; simp
 rw[h1,h2,h3,bne_self_eq_false,bne_self_eq_false,bne_self_eq_false]
 simp only[cond_false,decide_true,Bool.true_and]
 rw[aX,aX,List.length_map,List.length_map]
 by_cases h4:a.s.length=b.s.length
 · rw[h4,bne_self_eq_false]
   exact acR hM ha.l h4
 · rw[bne_iff_ne.2 (show(a.s.length:Int)≠(b.s.length:Int) by omega),decide_eq_false (fun h=>h4 (by rw[h]))]; rfl
end
section
open Go.RowKit Go.Proofs
def adW (n:Int):Int:=2 ^ (32 - max n 0).toNat
theorem yG {α κ:Type} [DecidableEq κ] {kf:α→κ} {q:α→Bool}:∀ {l:List α} {s:List κ},jh kf q s l=true↔∀ (i:Nat) (x:α),l[i]? =some x→(s++(l.take i).map kf).contains (kf x)=false∧q x=true
 | [],s=>by simp[jh]
 |y::l,s=>by
  unfold jh
  rw[Bool.and_eq_true,Bool.and_eq_true,yG]
  constructor
  · rintro⟨h1,h2,h3⟩ i x hx
    cases i with
    |zero=>
     simp only[List.getElem?_cons_zero,Option.some.injEq] at hx
     subst hx
     refine⟨?_,h2⟩
     simpa using h1
    |succ i=>
     have:=h3 i x (by simpa using hx)
     rw[List.take_succ_cons,List.map_cons]
     rw[List.append_assoc] at this
     exact this
  · intro h
    have h0:=h 0 y rfl
    refine⟨by simpa using h0.1,h0.2,fun i x hx=>?_⟩
    have:=h (i+1) x (by simpa using hx)
    rw[List.take_succ_cons,List.map_cons] at this
    rw[List.append_assoc]
    exact this
variable [Lv]
end
section
open Go.RowKit Go.Proofs
def Nr (l:List Px) (i:Nat):Bool:=match l[i]? with|some x=> !dA x||(l.take i).contains x|none=>false
def Dj (l:List Sd) (a:Int) (i:Nat):Bool:=match l[i]? with|some s=> !(oQ s&& !(s.a==a))||((l.take i).map Sd.a).contains s.a|none=>false
variable [Lv]
theorem kU {N:Nat} {f:FuncId} {r q:Nat} {s s':St} {e:Ex} (h:bH (nR env N f 0 r q) N s= .ok (e,s')):nY env N f r q s=pR env N f 0 r q e s':=by
 unfold nY; rw[h]; rfl
theorem alA {M:Nat} {a b:Rt} (hM:big+3≤M) (ha:a.ok) (hb:b.ok):ak env (M+1) 75 [a.t,b.t]= .ok (.bool (decide (a=b))):=by
 obtain⟨m,rfl⟩:=dL (show 1≤M by omega)
 have e:decide (a=b)=(decide (a.n=b.n)&&(decide (a.f=b.f)&&decide (a.p=b.p))):=by
  rw[Bool.eq_iff_iff]
  simp only[decide_eq_true_eq,Bool.and_eq_true]
  obtain⟨n,p,f⟩:=a
  obtain⟨n',p',f'⟩:=b
  simp only[Rt.mk.injEq]
  constructor
  · rintro⟨h1,h2,h3⟩; exact⟨h1,h3,h2⟩
  · rintro⟨h1,h3,h2⟩; exact⟨h1,h2,h3⟩
 rw[e,q75,aZ (dN ha.wf hb.wf)]
 by_cases h1:a.n=b.n
 case neg=>rw[beq_eq_false_iff_ne.2 h1,decide_eq_false h1]; rfl
 by_cases h2:a.f=b.f
 case neg=>rw[beq_iff_eq.2 h1,beq_eq_false_iff_ne.2 h2,decide_eq_true h1,decide_eq_false h2]; rfl
 rw[beq_iff_eq.2 h1,beq_iff_eq.2 h2,decide_eq_true h1,decide_eq_true h2]
 simp only[cond_true,Bool.true_and]
 rw[aF (alP (by omega) ha.p hb.p)]
end
end Go.aP
