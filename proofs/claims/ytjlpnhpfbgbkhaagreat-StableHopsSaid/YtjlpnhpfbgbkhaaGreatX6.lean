/- The texts of a proof, one behind the other: an interpreter and its soundness, what the functions of the program answer, and plain laws on that. -/
import Derived.Test.YtjlpnhpfbgbkhaaGreatX5
import Derived.Test.YtjlpnhpfbgbkhaaGreatX2
import Derived.Test.YtjlpnhpfbgbkhaaGreatK10
import Derived.Test.YtjlpnhpfbgbkhaaGreatX4
set_option linter.unusedVariables false
set_option linter.unusedSimpArgs false
set_option linter.unnecessarySimpa false
set_option linter.unusedSectionVars false
set_option maxRecDepth 100000
namespace Go.aP
section
open Go.RowKit Go.Proofs
variable [Lv]
def Cm (t:List Cf) (i:Nat):Nat:=((t[i]?).map fun c=>c.s.length).getD 0
def Yo (t:List Cf) (q:Nat→Nat→Bool) (i:Nat):Bool:=(dI (q i) 0 (Cm t i)).isSome
def xX (t:List Cf) (q:Nat→Nat→Bool):Option Nat:=dI (Yo t q) 0 t.length
def G5 (r:Option Nat):T:= .au [i64 ((r.getD 0:Nat):Int),.bool r.isSome]
theorem aeI {t:List Cf} (ht:bZ Cf.ok t) (hs:∀ c∈t,c.s.length≤big) {i k:Int}:aT (Et (iI t i k))=true∧aT (Eu (iI t i k))=true:=by
 have hb:=ht.1
 cases h:iI t i k with
 |none=>exact⟨by decide,by decide⟩
 |some p=>
  obtain⟨j,m⟩:=p
  unfold iI at h
  split at h
  · split at h
    · split at h
      · rename_i s _
        split at h
        · rename_i j' hj
          split at h
          · rename_i d hd
            rw[Option.map_eq_some_iff] at h
            obtain⟨m',h1,h2⟩:=h
            injection h2 with h2 h3
            subst h2; subst h3
            have hjl:=J6 hj
            have hm:m' < d.s.length:=by
             unfold idxOf at h1
             exact(List.findIdx?_eq_some_iff_getElem.1 h1).1
            have:=hs d (List.mem_of_getElem? hd)
            exact⟨iR (by show j'≤big; omega),iR (by show m'≤big; omega)⟩
          · cases h
        · cases h
      · cases h
    · cases h
  · cases h
theorem XQ {M:Nat} {t:List Cf} {g:FuncId} {cs:List T} {q:Nat→Nat→Bool} (hM:big+8≤M) (ht:bZ Cf.ok t) (hw:T.wfs cs=true) (hm:env.mode g=0)
 (hq:∀ (i k:Nat) (c:Cf) (s:Sd),t[i]? =some c→c.s[k]? =some s→ak env M g ([i64 i,i64 k,i64 (Et (iI t i k)),i64 (Eu (iI t i k)),.bool (iI t i k).isSome]++cs)= .ok (.bool (q i k))):
 ak env (M+1) 55 [.sl 6 (t.map Cf.t),.fn g [] cs]= .ok (G5 (xX t q)):=by
 have hb:=ht.1
 have hbg:=aQ
 obtain⟨m,rfl⟩:=dL (show 1≤M by omega)
 rw[q55,aZ (dN (ku ht) (xu hw))]
 have inner:∀ (i:Nat) (c:Cf),t[i]? =some c→nY env (m+1) 55 2 5 (sEb t (.fn g [] cs) i ((c.s.map Sd.t).length:Int) 0)=bif Yo t q i then .ok (.ret,⟨slots 43 [(4,.t (i64 i)),(5,.t (.bool true))],[]⟩) else .ok (.norm,sEa t (.fn g [] cs) ((i+1:Nat):Int)):=fun i c hc=>by
  have hco:=ht.2 c (List.mem_of_getElem? hc)
  have hcl:=hco.s.1
  have hi:i < t.length:=(List.getElem?_eq_some_iff.1 hc).1
  have rd:∀ k,k < c.s.length→nR env (m+1) 55 0 2 5 (sEb t (.fn g [] cs) i ((c.s.map Sd.t).length:Int) (k:Nat))=bif q i k then .ok (.ret,⟨slots 43 [(4,.t (i64 i)),(5,.t (.bool true))],[]⟩) else .ok (.norm,sEb t (.fn g [] cs) i ((c.s.map Sd.t).length:Int) ((k+1:Nat):Int)):=fun k hk=>by
   have hs:c.s[k]? =some c.s[k]:=List.getElem?_eq_getElem hk
   rw[aal,decide_eq_true (by rw[List.length_map]; omega)]
   simp only[cond_true]
   rw[aF (Pn (by omega) ht (iR (by omega)) (iR (by omega)))]
   simp only[Yk,aG,List.getElem?_cons_zero,List.getElem?_cons_succ]
   refine(lS hm).trans ?_
   rw[List.nil_append,aF (hq i k c _ hc hs),wrap_succ (show k≤big by omega)]
   rfl
  have it:=fH (B:=nR env (m+1) 55 0 2 5) (S:=fun k=>sEb t (.fn g [] cs) i ((c.s.map Sd.t).length:Int) (k:Nat)) (R:=fun _=>⟨slots 43 [(4,.t (i64 i)),(5,.t (.bool true))],[]⟩) (X:=sEa t (.fn g [] cs) i) (id:=2) (q i) c.s.length 0 (m+1) (by omega)
   (fun k h0 h1 hp=>by rw[rd k (by omega),hp]; rfl) (fun k h0 h1 hp=>by rw[rd k (by omega),hp]; rfl)
   (by rw[Nat.zero_add,aal,decide_eq_false (by rw[List.length_map]; omega)]; rfl)
  have hn:Cm t i=c.s.length:=by unfold Cm; rw[hc]; rfl
  unfold Yo
  rw[hn]
  cases hk:dI (q i) 0 c.s.length with
  |some k=>rw[hk] at it; exact(kU it).trans (Xh (m+1) i)
  |none=>
   rw[hk] at it
   refine(kU it).trans ((OH (m+1) t _ i).trans ?_)
   rw[wrap_succ (show i≤big by omega)]; first|done|rfl
 have it:=fH (B:=aH env (m+1) 55 0 2) (S:=fun i=>sEa t (.fn g [] cs) (i:Nat)) (R:=fun i=>⟨slots 43 [(4,.t (i64 i)),(5,.t (.bool true))],[]⟩) (X:=⟨slots 43 [],[]⟩) (id:=0) (Yo t q) t.length 0 (m+1) (by omega)
  (fun i h0 h1 hp=>by
   have hc:t[i]? =some t[i]:=List.getElem?_eq_getElem (by omega)
   rw[adJ,decide_eq_true (by rw[List.length_map]; omega)]
   simp only[cond_true]
   rw[aA (aC hc)]
   simp only[Uc,gY]
   rw[inner i _ hc,hp]; rfl)
  (fun i h0 h1 hp=>by
   have hc:t[i]? =some t[i]:=List.getElem?_eq_getElem (by omega)
   rw[adJ,decide_eq_true (by rw[List.length_map]; omega)]
   simp only[cond_true]
   rw[aA (aC hc)]
   simp only[Uc,gY]
   rw[inner i _ hc,hp]; rfl)
  (by rw[Nat.zero_add,adJ,decide_eq_false (by rw[List.length_map]; omega)]; rfl)
 unfold xX
 cases hk:dI (Yo t q) 0 t.length with
 |some i=>rw[hk] at it; exact(aU it).trans (adf (m+1) i)
 |none=>rw[hk] at it; exact(aU it).trans (Xi (m+1))
def OO (t:List Cf) (i:Nat):Bool:=match t[i]? with|some c=> !dF c|none=>false
def Ob (c d:Cf):Bool:=d.a==c.a||d.d==c.d
def AV (t:List Cf) (i:Nat):Bool:=match t[i]? with|some c=>(t.take i).any (Ob c)|none=>false
def Yz (t:List Cf) (i k:Nat):Int:=(((t[i]?).bind fun c=>c.s[k]?).map Sd.r).getD 0
def IZ (t:List Cf) (i k:Nat):Bool:=(iI t i k).isNone
def N8 (t:List Cf) (i k:Nat):Bool:=match iI t i k with|some (j,m)=>Yz t i k+Yz t j m !=4|none=>false
def N7 (t:List Cf) (i k:Nat):Bool:=match iI t i k with|some (j,_)=>(match t[i]?,t[j]? with|some c,some d=> !uN c d|_,_=>false)|none=>false
noncomputable def qY (t:List Cf):Nat×Int:=if t.length=0 then(0,1) else if 8 < t.length then(0,4) else match dI (OO t) 0 t.length with
 |some i=>(i,2)
 |none=>match dI (AV t) 0 t.length with
  |some i=>(i,7)
  |none=>match xX t (IZ t) with
   |some i=>(i,8)
   |none=>match xX t (N8 t) with
    |some i=>(i,9)
    |none=>match xX t (N7 t) with
     |some i=>(i,10)
     |none=>match zG t with
      |some i=>(i,11)
      |none=>(0,0)
theorem alv {M:Nat} {c d:Cf} (h:c.ok) (h':d.ok):ak env (M+1) 54 [d.t,.ref c.t]= .ok (.bool (Ob c d)):=by
 rw[q54,aZ (dN h'.wf (lG h.wf))]
 unfold Ob
 cases d.a==c.a<;>rfl
theorem Bj {t:List Cf} {q:Nat→Nat→Bool} (h:xX t q=none) {i k:Nat} {c:Cf} {s:Sd} (hc:t[i]? =some c) (hs:c.s[k]? =some s):q i k=false:=by
 have h1:=iG h i (Nat.zero_le _) (by have:=(List.getElem?_eq_some_iff.1 hc).1; omega)
 unfold Yo at h1
 have h2:dI (q i) 0 (Cm t i)=none:=by
  cases hh:dI (q i) 0 (Cm t i) with
  |none=>rfl
  |some _=>rw[hh] at h1; cases h1
 have hn:Cm t i=c.s.length:=by unfold Cm; rw[hc]; rfl
 rw[hn] at h2
 exact iG h2 k (Nat.zero_le _) (by have:=(List.getElem?_eq_some_iff.1 hs).1; omega)
theorem Lc {m:Nat} {t:List Cf} {j:Nat} {c:Cf} (hM:big+4≤m) (ht:bZ Cf.ok t) (hc:t[j]? =some c):aH env (m+1) 25 0 12 (sCb t j)=bif AV t j then .ok (.ret,⟨slots 80 [(2,.t (i64 j)),(3,.t (i64 7))],[]⟩) else .ok (.norm,sCb t ((j+1:Nat):Int)):=by
 have hb:=ht.1
 have hj:j < t.length:=(List.getElem?_eq_some_iff.1 hc).1
 have hco:=ht.2 c (List.mem_of_getElem? hc)
 have e:nS env (m+1) 25 [] 5=aH env (m+1) 25 0 12:=by kernel_rfl
 rw[←e]
 have h1:dO env (m+1) 25 ([]++ [5]) 0 2 (sCb t j)= .ok (.norm,akC t j):=by
  refine(QI (m+1) t j).trans ?_
  rw[decide_eq_true (by rw[List.length_map]; omega)]; rfl
 have h2:dO env (m+1) 25 (([]++ [5])++ [2]) 0 1 (akC t j)= .ok (.norm,akD t j c):=by
  refine(XB (m+1) t j).trans ?_
  rw[aA (aC hc)]; rfl
 have h3:oW env (m+1) 25 (([]++ [5])++ [2]) 1 2 (akD t j c) (Je env (m+1) 25 [] 5 4 3 1)=bif AV t j then .ok (.ret,⟨slots 80 [(2,.t (i64 j)),(3,.t (i64 7))],[]⟩) else .ok (.norm,sCb t ((j+1:Nat):Int)):=by
  refine(zCB (m+1) t j c).trans ?_
  have hl:bZ Cf.ok (t.take j):=⟨by rw[List.length_take]; omega,fun x hx=>ht.2 x (List.mem_of_mem_take hx)⟩
  have hd:(decide (0≤(j:Int))&&decide ((j:Int)≤((t.map Cf.t).length:Int)))=true:=by rw[decide_eq_true (by omega),decide_eq_true (by rw[List.length_map]; omega)]; rfl
  rw[hd,aI,Int.toNat_natCast,List.drop_zero,←List.map_take]
  rw[bD (alu (q:=Ob c) (by omega) hl (gQ (lG hco.wf)) rfl fun m' hm' d hd=>by
   obtain⟨m',rfl⟩:=dL (show 1≤m' by omega); exact alv hco (hl.2 d hd)),wrap_succ (show j≤big by omega)]
  have:AV t j=(t.take j).any (Ob c):=by unfold AV; rw[hc]
  rw[this]
  rfl
 cases hu:AV t j with
 |true=>
  rw[hu] at h3
  exact Gv (a:=2) (b:=1) (k1:=2) (k2:=1) (id:=4) (c:=gV ((aN env 25 [5]).getD 2 .skip)) (by kernel_rfl) (by kernel_rfl) (by kernel_rfl) (by kernel_rfl) (by kernel_rfl) h1 h2 h3
 |false=>
  rw[hu] at h3
  exact Gv (a:=2) (b:=1) (k1:=2) (k2:=1) (id:=4) (c:=gV ((aN env 25 [5]).getD 2 .skip)) (by kernel_rfl) (by kernel_rfl) (by kernel_rfl) (by kernel_rfl) (by kernel_rfl) h1 h2 h3
def asi (t:List Cf):St:=⟨slots 80 [(1,.ptr 0 0),(36,.t (.sl 6 (t.map Cf.t))),(37,.t (i64 (t.map Cf.t).length)),(38,.t (i64 (t.length:Int))),(39,.t (.bool false))],[.box 22 1 (.t (.sl 6 (t.map Cf.t)))]⟩
theorem Vy {c:Cf} (h:dF c=true) {s:Sd} (hs:s∈c.s):1≤s.r∧s.r≤3:=by
 have:=sG h hs
 unfold oQ at this
 simp only[Bool.and_eq_true,decide_eq_true_eq] at this
 omega
theorem QY {t:List Cf} {i k j m:Nat} {c:Cf} {s:Sd} (hc:t[i]? =some c) (hs:c.s[k]? =some s) (h:iI t i k=some (j,m)):∃ d u,t[j]? =some d∧d.s[m]? =some u∧d.a=s.a∧u.a=c.a∧uT t s.a=some j∧idxOf d c.a=some m:=by
 rw[J5 hc hs] at h
 cases hf:uT t s.a with
 |none=>rw[hf] at h; cases h
 |some j'=>
  rw[hf] at h
  simp only at h
  cases hd:t[j']? with
  |none=>rw[hd] at h; cases h
  |some d=>
   rw[hd] at h
   simp only[Option.map_eq_some_iff,Prod.mk.injEq] at h
   obtain⟨m',h1,h2,h3⟩:=h
   subst h2; subst h3
   obtain⟨g1,g2,_⟩:=List.findIdx?_eq_some_iff_getElem.1 (show d.s.findIdx? (fun s=>s.a==c.a)=some m' from h1)
   obtain⟨k1,k2,_⟩:=List.findIdx?_eq_some_iff_getElem.1 (show t.findIdx? (fun c=>c.a==s.a)=some j' from hf)
   have hde:d=t[j']:=by rw[List.getElem?_eq_getElem k1] at hd; injection hd with hd; exact hd.symm
   exact⟨d,_,hd,List.getElem?_eq_getElem g1,by rw[hde]; simpa using k2,by simpa using g2,rfl,h1⟩
theorem alh {M:Nat} {t:List Cf} (hM:big+40≤M) (ht:bZ Cf.ok t) (hs:∀ c∈t,c.s.length≤big)
 (hring:∀ m,ak env m 60 [.sl 6 (t.map Cf.t)]= .ok (G5 (zG t))∨8 < t.length∨(∃ c∈t,dF c=false)):
 ak env (M+1) 25 [.sl 6 (t.map Cf.t)]= .ok (.au [i64 ((qY t).1:Int),i64 (qY t).2]):=by
 have hb:=ht.1
 have hbg:=aQ
 obtain⟨m,rfl⟩:=dL (show 1≤M by omega)
 rw[q25,aZ (gQ (ku ht))]
 unfold qY
 by_cases h0:t.length=0
 · rw[if_pos h0,beq_iff_eq.2 (show((t.map Cf.t).length:Int)=0 by rw[List.length_map]; omega)]; rfl
 rw[if_neg h0,beq_eq_false_iff_ne.2 (show((t.map Cf.t).length:Int)≠0 by rw[List.length_map]; omega),cond_false]
 by_cases h8:8 < t.length
 · rw[if_pos h8,decide_eq_true (show((t.map Cf.t).length:Int) > 8 by rw[List.length_map]; omega)]; rfl
 rw[if_neg h8,decide_eq_false (show ¬ ((t.map Cf.t).length:Int) > 8 by rw[List.length_map]; omega),cond_false]
 have it:=fH (B:=aH env (m+1) 25 0 6) (S:=fun i=>sCa t (i:Nat)) (R:=fun i=>⟨slots 80 [(2,.t (i64 i)),(3,.t (i64 2))],[]⟩) (X:=⟨slots 80 [(1,.ptr 0 0)],[.box 22 1 (.t (.sl 6 (t.map Cf.t)))]⟩) (id:=1) (OO t) t.length 0 (m+1) (by omega)
  (fun i _ h1 hp=>by
   have hc:t[i]? =some t[i]:=List.getElem?_eq_getElem (by omega)
   unfold OO at hp; rw[hc] at hp
   rw[adI,decide_eq_true (by rw[List.length_map]; omega)]
   simp only[cond_true]
   rw[aA (aC hc),show(t[i].t.cells.length==6&& !t[i].t.aV)=true from rfl,aI,bD (Cb (by omega) (ht.2 _ (List.mem_of_getElem? hc)))]
   simp only at hp
   rw[hp]; rfl)
  (fun i _ h1 hp=>by
   have hc:t[i]? =some t[i]:=List.getElem?_eq_getElem (by omega)
   unfold OO at hp; rw[hc] at hp
   rw[adI,decide_eq_true (by rw[List.length_map]; omega)]
   simp only[cond_true]
   rw[aA (aC hc),show(t[i].t.cells.length==6&& !t[i].t.aV)=true from rfl,aI,bD (Cb (by omega) (ht.2 _ (List.mem_of_getElem? hc)))]
   simp only at hp
   rw[hp,wrap_succ (show i≤big by omega)]; rfl)
  (by rw[Nat.zero_add,adI,decide_eq_false (by rw[List.length_map]; omega)]; rfl)
 cases hk0:dI (OO t) 0 t.length with
 |some i=>rw[hk0] at it; exact(aU it).trans (ac3 (m+1) i 2)
 |none=>
 rw[hk0] at it
 refine(aU it).trans ((WU (m+1) t).trans ?_)
 have adP:∀ c∈t,dF c=true:=fun c hc=>by
  obtain⟨i,hi,rfl⟩:=List.getElem_of_mem hc
  have:=iG hk0 i (Nat.zero_le _) (by omega)
  unfold OO at this
  rw[List.getElem?_eq_getElem hi] at this
  simpa using this
 have it2:=fH (B:=aH env (m+1) 25 0 12) (S:=fun i=>sCb t (i:Nat)) (R:=fun i=>⟨slots 80 [(2,.t (i64 i)),(3,.t (i64 7))],[]⟩) (X:=⟨slots 80 [(1,.ptr 0 0)],[.box 22 1 (.t (.sl 6 (t.map Cf.t)))]⟩) (id:=3) (AV t) t.length 0 (m+1) (by omega)
  (fun i _ h1 hp=>by rw[Lc (by omega) ht (List.getElem?_eq_getElem (by omega)),hp]; rfl)
  (fun i _ h1 hp=>by rw[Lc (by omega) ht (List.getElem?_eq_getElem (by omega)),hp]; rfl)
  (by
   rw[Nat.zero_add]
   have e:nS env (m+1) 25 [] 5=aH env (m+1) 25 0 12:=by kernel_rfl
   rw[←e]
   have h1:dO env (m+1) 25 ([]++ [5]) 0 2 (sCb t t.length)= .ok (.exit 3,asi t):=by
    refine(QI (m+1) t t.length).trans ?_
    rw[decide_eq_false (by rw[List.length_map]; omega)]; rfl
   exact KY (a:=2) (by kernel_rfl) h1 (by kernel_rfl))
 cases hk1:dI (AV t) 0 t.length with
 |some i=>rw[hk1] at it2; exact(aU it2).trans (Z4 (m+1) i 7)
 |none=>
 rw[hk1] at it2
 refine(aU it2).trans ((TP (m+1) t).trans ?_)
 have anh:∀ n:Nat,n≤big→aT (n:Int)=true:=fun n h=>iR h
 have wf5:∀ (i k:Nat) (c:Cf) (s:Sd),t[i]? =some c→c.s[k]? =some s→aT (i:Int)=true∧aT (k:Int)=true∧aT (Et (iI t i k))=true∧aT (Eu (iI t i k))=true:=fun i k c s hc hk=>by
  have h1:=(List.getElem?_eq_some_iff.1 hc).1
  have h2:=(List.getElem?_eq_some_iff.1 hk).1
  have h3:=hs c (List.mem_of_getElem? hc)
  exact⟨anh _ (by omega),anh _ (by omega),(aeI ht hs).1,(aeI ht hs).2⟩
 rw[aF (XQ (q:=IZ t) (by omega) ht rfl rfl fun i k c s hc hk=>by
  obtain⟨w1,w2,w3,w4⟩:=wf5 i k c s hc hk
  obtain⟨m,rfl⟩:=dL (show 1≤m by omega)
  show ak env (m+1) 56 [i64 i,i64 k,i64 (Et (iI t i k)),i64 (Eu (iI t i k)),.bool (iI t i k).isSome]=_
  rw[q56,aZ (by simp[T.wfs,T.wf,w1,w2,w3,w4])]
  unfold IZ
  cases iI t i k<;>rfl)]
 cases hk2:xX t (IZ t) with
 |some i=>rfl
 |none=>
 simp only[G5,aG,List.getElem?_cons_zero,List.getElem?_cons_succ,Option.isSome_none,bT,cond_false]
 have anc:∀ (i k:Nat) (c:Cf) (s:Sd),t[i]? =some c→c.s[k]? =some s→∃ j mm d u,iI t i k=some (j,mm)∧t[j]? =some d∧d.s[mm]? =some u:=fun i k c s hc hk=>by
  have h1:=Bj hk2 hc hk
  unfold IZ at h1
  cases hf:iI t i k with
  |none=>rw[hf] at h1; cases h1
  |some p=>
   obtain⟨d,u,g1,g2,_⟩:=QY (j:=p.1) (m:=p.2) hc hk hf
   exact⟨p.1,p.2,d,u,rfl,g1,g2⟩
 have hwt:(T.ref (.sl 6 (t.map Cf.t))).wf=true:=lG (ku ht)
 rw[aF (XQ (q:=N8 t) (by omega) ht (gQ hwt) rfl fun i k c s hc hk=>by
  obtain⟨w1,w2,w3,w4⟩:=wf5 i k c s hc hk
  obtain⟨m,rfl⟩:=dL (show 1≤m by omega)
  obtain⟨j,mm,d,u,hf,hd,hu⟩:=anc i k c s hc hk
  show ak env (m+1) 57 [i64 i,i64 k,i64 (Et (iI t i k)),i64 (Eu (iI t i k)),.bool (iI t i k).isSome,.ref (.sl 6 (t.map Cf.t))]=_
  rw[q57,aZ (by simp only[T.wfs,hwt]; simp[T.wf,w1,w2,w3,w4])]
  unfold N8 Yz
  rw[hf]
  simp only[Et,Eu,Option.map_some,Option.getD_some]
  rw[aA (aC hc),Uc]
  simp only[qW,if_true]
  rw[aA (aC hk),aA (aC hd),Uc]
  simp only[qW,if_true]
  rw[aA (aC hu),NJ,NJ]
  simp only[bW]
  obtain⟨r1,r2⟩:=Vy (adP c (List.mem_of_getElem? hc)) (List.mem_of_getElem? hk)
  obtain⟨r3,r4⟩:=Vy (adP d (List.mem_of_getElem? hd)) (List.mem_of_getElem? hu)
  rw[wrap64 (by omega),hc,hd]
  simp only[Option.bind_some,hk,hu,Option.map_some,Option.getD_some])]
 cases hk3:xX t (N8 t) with
 |some i=>rfl
 |none=>
 simp only[G5,aG,List.getElem?_cons_zero,List.getElem?_cons_succ,Option.isSome_none,bT,cond_false]
 rw[aF (XQ (q:=N7 t) (by omega) ht (gQ hwt) rfl fun i k c s hc hk=>by
  obtain⟨w1,w2,w3,w4⟩:=wf5 i k c s hc hk
  obtain⟨m,rfl⟩:=dL (show 1≤m by omega)
  obtain⟨j,mm,d,u,hf,hd,hu⟩:=anc i k c s hc hk
  show ak env (m+1) 58 [i64 i,i64 k,i64 (Et (iI t i k)),i64 (Eu (iI t i k)),.bool (iI t i k).isSome,.ref (.sl 6 (t.map Cf.t))]=_
  rw[q58,aZ (by simp only[T.wfs,hwt]; simp[T.wf,w1,w2,w3,w4])]
  unfold N7
  rw[hf]
  simp only[Et,Eu,Option.map_some,Option.getD_some]
  rw[aA (aC hc),aA (aC hd),hc,hd]
  obtain⟨m,rfl⟩:=dL (show 1≤m by omega)
  rw[bD (alx (by omega) (ht.2 c (List.mem_of_getElem? hc)) (ht.2 d (List.mem_of_getElem? hd)))])]
 cases hk4:xX t (N7 t) with
 |some i=>rfl
 |none=>
 simp only[G5,aG,List.getElem?_cons_zero,List.getElem?_cons_succ,Option.isSome_none,bT,cond_false]
 have hr:=(hring (m+1)).resolve_right (by
  rintro(h|⟨c,hc,h⟩)
  · exact h8 h
  · rw[adP c hc] at h; cases h)
 rw[aF hr]
 cases zG t<;>rfl
end
section
open Go.RowKit Go.Proofs
theorem Ia {α κ:Type} [DecidableEq κ] {kf:α→κ} {q:α→Bool}:∀ (l:List α) (s:List κ),jh kf q s l=true→(∀ x∈l,kf x∉s)∧(l.map kf).Nodup
 | [],s,_=>⟨by simp,by simp⟩
 |a::l,s,h=>by
  unfold jh at h
  simp only[Bool.and_eq_true,Bool.not_eq_true'] at h
  obtain⟨h1,_,h3⟩:=h
  obtain⟨g1,g2⟩:=Ia l _ h3
  have h1:kf a∉s:=by simpa using h1
  refine⟨fun x hx=>?_,?_⟩
  · rcases List.mem_cons.1 hx with rfl|hx
    · exact h1
    · exact fun hm=>g1 x hx (List.mem_append_left _ hm)
  · rw[List.map_cons,List.nodup_cons]
    refine⟨fun hm=>?_,g2⟩
    obtain⟨x,hx,e⟩:=List.mem_map.1 hm
    exact g1 x hx (by rw[e]; simp)
theorem Fj {α:Type} {p:α→Bool} {l:List α} {i:Nat} {a:α} (hi:l[i]? =some a) (ha:p a=true) (hu:∀ j b,l[j]? =some b→p b=true→j=i):l.findIdx? p=some i:=by
 rw[List.findIdx?_eq_some_iff_getElem]
 obtain⟨h1,h2⟩:=List.getElem?_eq_some_iff.1 hi
 refine⟨h1,by rw[h2]; exact ha,fun j hj=>?_⟩
 cases hp:p l[j] with
 |false=>simp
 |true=>exact absurd (hu j _ (List.getElem?_eq_getElem (by omega)) hp) (by omega)
structure nP (t:List Cf):Prop where
 one:1≤t.length
 most:t.length≤8
 sane:∀ c∈t,dF c=true
 used:∀ (i j:Nat) (c d:Cf),t[i]? =some c→t[j]? =some d→j < i→d.a≠c.a∧d.d≠c.d
 side:∀ (i k:Nat) (c:Cf) (s:Sd),t[i]? =some c→c.s[k]? =some s→∃ (j m:Nat) (d:Cf) (u:Sd),iI t i k=some (j,m)∧t[j]? =some d∧d.s[m]? =some u∧j≠i∧u.a=c.a∧u.r+s.r=4∧uN c d=true∧iI t j m=some (i,k)
variable [Lv]
theorem Q7 {t:List Cf} (h:(qY t).2=0):nP t:=by
 unfold qY at h
 by_cases h0:t.length=0
 · rw[if_pos h0] at h; simp at h
 rw[if_neg h0] at h
 by_cases h8:8 < t.length
 · rw[if_pos h8] at h; simp at h
 rw[if_neg h8] at h
 cases e0:dI (OO t) 0 t.length with
 |some i=>rw[e0] at h; simp at h
 |none=>
 cases e1:dI (AV t) 0 t.length with
 |some i=>rw[e0,e1] at h; simp at h
 |none=>
 cases e2:xX t (IZ t) with
 |some i=>rw[e0,e1,e2] at h; simp at h
 |none=>
 cases e3:xX t (N8 t) with
 |some i=>rw[e0,e1,e2,e3] at h; simp at h
 |none=>
 cases e4:xX t (N7 t) with
 |some i=>rw[e0,e1,e2,e3,e4] at h; simp at h
 |none=>
 have sane:∀ c∈t,dF c=true:=fun c hc=>by
  obtain⟨i,hi,rfl⟩:=List.getElem_of_mem hc
  have:=iG e0 i (Nat.zero_le _) (by omega)
  unfold OO at this
  rw[List.getElem?_eq_getElem hi] at this
  simpa using this
 have used:∀ (i j:Nat) (c d:Cf),t[i]? =some c→t[j]? =some d→j < i→d.a≠c.a∧d.d≠c.d:=fun i j c d hc hd hj=>by
  have hi:=(List.getElem?_eq_some_iff.1 hc).1
  have:=iG e1 i (Nat.zero_le _) (by omega)
  unfold AV at this
  rw[hc] at this
  have:=List.any_eq_false.1 this d (by
   have:(t.take i)[j]? =some d:=by rw[List.getElem?_take_of_lt hj]; exact hd
   exact List.mem_of_getElem? this)
  unfold Ob at this
  simpa using this
 refine⟨by omega,by omega,sane,used,fun i k c s hc hs=>?_⟩
 have g2:=Bj e2 hc hs
 unfold IZ at g2
 cases hf:iI t i k with
 |none=>rw[hf] at g2; cases g2
 |some p=>
  obtain⟨j,m⟩:=p
  obtain⟨d,u,hd,hu,h1,h2,h3,h4⟩:=QY hc hs hf
  have g3:=Bj e3 hc hs
  have g4:=Bj e4 hc hs
  unfold N8 Yz at g3
  unfold N7 at g4
  rw[hf] at g3 g4
  simp only[hc,hd,Option.bind_some,hs,hu,Option.map_some,Option.getD_some] at g3 g4
  have hsc:=sane c (List.mem_of_getElem? hc)
  unfold dF at hsc
  simp only[Bool.and_eq_true] at hsc
  obtain⟨f1,f2⟩:=Ia _ _ hsc.2.2.2.2.2.2.2.2
  have hne:j≠i:=fun e=>by
   subst e
   rw[hc] at hd
   simp only[Option.some.injEq] at hd
   exact f1 s (List.mem_of_getElem? hs) (by rw[←h1,←hd]; simp)
  refine⟨j,m,d,u,rfl,hd,hu,hne,h2,?_,by simpa using g4,?_⟩
  · have:s.r+u.r=4:=by simpa using g3
    omega
  · rw[J5 hd hu,h2]
    have ei:uT t c.a=some i:=Fj hc (by simp) fun x b hx hb=>by
     have hb:b.a=c.a:=by simpa using hb
     rcases Nat.lt_trichotomy x i with hl|hl|hl
     · exact absurd hb (used i x c b hc hx hl).1
     · exact hl
     · exact absurd hb.symm (used x i b c hx hc hl).1
    have ek:idxOf c d.a=some k:=Fj hs (by simp[h1]) fun x b hx hb=>by
     have hb:b.a=s.a:=by rw[←h1]; simpa using hb
     have g:∀ y z (b1 b2:Sd),c.s[y]? =some b1→c.s[z]? =some b2→y < z→b1.a=b2.a→False:=fun y z b1 b2 hy hz hl e=>by
      have hw:=List.pairwise_iff_getElem.1 f2 y z (by rw[List.length_map]; exact(List.getElem?_eq_some_iff.1 hy).1) (by rw[List.length_map]; exact(List.getElem?_eq_some_iff.1 hz).1) hl
      simp only[List.getElem_map,(List.getElem?_eq_some_iff.1 hy).2,(List.getElem?_eq_some_iff.1 hz).2] at hw
      exact hw e
     rcases Nat.lt_trichotomy x k with hl|hl|hl
     · exact(g x k b s hx hs hl hb).elim
     · exact hl
     · exact(g k x s b hs hx hl hb.symm).elim
    simp only[ei,hc,ek,Option.map_some]
end
section
open Go.RowKit Go.Proofs
variable [Lv]
theorem Vz {p:Nat→Bool} {i k:Nat}:(dI p i k).isNone=true↔∀ j,i≤j→j < i+k→p j=false:=by
 constructor
 · exact fun h=>iG (Option.isNone_iff_eq_none.1 h)
 · intro h
   cases hs:dI p i k with
   |none=>rfl
   |some j=>
    obtain⟨a,b,c⟩:=jB hs
    rw[h j a b] at c; cases c
def Ub (l:List Ch) (i:Nat):Bool:=match l[i]? with
 |some e=> !dA e.x||(decide (0 < i)&&match l[i - 1]? with|some d=>decide (kC d.x e.x≥0)|none=>false)
 |none=>false
def sK (l:List Ch):Bool:=(dI (Ub l) 0 l.length).isNone
theorem uU {l:List Ch}:sK l=true↔E5 l∧∀ e∈l,dA e.x=true:=by
 have hr:E5 l↔uO (l.map fun e=>(⟨e.x,⟨0,[],0,0⟩⟩:En))=true:=by rw[yu]; unfold E5 mG; rw[List.pairwise_map]
 rw[hr]
 unfold sK uO
 rw[Vz,Vz,List.length_map]
 have key:∀ j,1≤j→j < l.length→Og (l.map fun e=>(⟨e.x,⟨0,[],0,0⟩⟩:En)) j=decide (kC (l[j - 1]!).x (l[j]!).x≥0):=fun j h1 h2=>by
  unfold Og
  rw[List.getElem?_map,List.getElem?_map,List.getElem?_eq_getElem (by omega),List.getElem?_eq_getElem h2,getElem!_pos l (j - 1) (by omega),getElem!_pos l j h2]
  rfl
 have key2:∀ j,j < l.length→Ub l j=(!dA (l[j]!).x||(decide (0 < j)&&decide (kC (l[j - 1]!).x (l[j]!).x≥0))):=fun j h2=>by
  unfold Ub
  rw[List.getElem?_eq_getElem h2,List.getElem?_eq_getElem (show j - 1 < l.length by omega),getElem!_pos l (j - 1) (by omega),getElem!_pos l j h2]
 constructor
 · intro h
   refine⟨fun j h1 h2=>?_,fun e he=>?_⟩
   · have:=h j (by omega) (by omega)
     rw[key2 j (by omega),decide_eq_true (show 0 < j by omega),Bool.true_and,Bool.or_eq_false_iff] at this
     rw[key j h1 (by omega),this.2]
   · obtain⟨j,hj,rfl⟩:=List.getElem_of_mem he
     have:=h j (by omega) (by omega)
     rw[key2 j hj,Bool.or_eq_false_iff,getElem!_pos l j hj] at this
     simpa using this.1
 · rintro⟨h1,h2⟩ j _ hj
   rw[key2 j (by omega),h2 _ (by rw[getElem!_pos l j (by omega)]; exact List.getElem_mem _)]
   by_cases h0:0 < j
   · have:=h1 j (by omega) (by omega)
     rw[key j (by omega) (by omega)] at this
     rw[this]; simp
   · rw[decide_eq_false h0]; rfl
def xC (c:Cf) (k:Int) (l:List Ch):List En:=if sK l=true then l.filterMap fun e=>(mM c k e.x e.r).map (En.mk e.x) else[]
theorem Aj {c:Cf} {k:Int} {l:List Ch} {e:En}:e∈xC c k l↔sK l=true∧∃ r,(⟨e.x,r⟩:Ch)∈l∧mM c k e.x r=some e.p:=by
 unfold xC
 by_cases h:sK l=true
 · rw[if_pos h,List.mem_filterMap]
   constructor
   · rintro⟨a,ha,h2⟩
     obtain⟨p,hp,rfl⟩:=Option.map_eq_some_iff.1 h2
     exact⟨h,a.r,ha,hp⟩
   · rintro⟨_,r,hr,hp⟩
     exact⟨_,hr,by rw[hp]; rfl⟩
 · rw[if_neg h]
   simp[h]
theorem ady (c:Cf) (k:Int) (l:List Ch):sS (xC c k l)=true:=by
 rw[yO]
 refine⟨?_,fun e he=>?_⟩
 · unfold xC
   by_cases h:sK l=true
   · rw[if_pos h]
     refine List.Pairwise.filterMap _ (fun a b hab a' h1 b' h2=>?_) (uU.1 h).1
     obtain⟨_,_,rfl⟩:=Option.map_eq_some_iff.1 h1
     obtain⟨_,_,rfl⟩:=Option.map_eq_some_iff.1 h2
     exact hab
   · rw[if_neg h]; exact List.Pairwise.nil
 · obtain⟨hg,r,hr,hp⟩:=Aj.1 he
   exact⟨(uU.1 hg).2 _ hr,(vF hp).2.2.1⟩
theorem J9 {c:Cf} {k:Int} {l:List Ch} {x:Px}:qo (xC c k l) x=if sK l=true then(mW l x).bind (mM c k x) else none:=by
 refine Option.ext fun p=>?_
 rw[pq,LH (ady c k l),Aj]
 by_cases h:sK l=true
 · rw[if_pos h,Option.bind_eq_some_iff]
   constructor
   · rintro⟨_,r,hr,hp⟩
     exact⟨r,(GK (uU.1 h).1).2 hr,hp⟩
   · rintro⟨r,hr,hp⟩
     exact⟨h,r,(GK (uU.1 h).1).1 hr,hp⟩
 · rw[if_neg h]; simp[h]
theorem VO (c:Cf) (k:Int) (l:List Ch):(xC c k l).length≤l.length:=by
 unfold xC
 split
 · exact List.length_filterMap_le _ _
 · exact Nat.zero_le _
def pO (t:List Cf) (L:List (List Ch)) (i k:Nat):List En:=match iI t i k with
 |some (j,m)=>(match t[j]? with|some d=>xC d m (L.getD j [])|none=>[])
 |none=>[]
def jU (t:List Cf) (L:List (List Ch)) (i:Nat) (c:Cf):List (List En):=(List.range c.s.length).map (pO t L i)
def nextR (t:List Cf) (L:List (List Ch)):List (List Ch):=if t.length≤8 then t.zipIdx.map fun p=>kH p.1 (jU t L p.2 p.1) else[]
def oh (t:List Cf):List (List Ch):=if t.length≤8 then t.map fun c=>kH c (c.s.map fun _=>[]) else[]
theorem pz {t:List Cf} {L:List (List Ch)} (h8:t.length≤8):(nextR t L).length=t.length:=by unfold nextR; rw[if_pos h8]; simp
theorem yj {t:List Cf} {L:List (List Ch)} {i:Nat} {c:Cf} (h8:t.length≤8) (hc:t[i]? =some c):(nextR t L)[i]? =some (kH c (jU t L i c)):=by
 unfold nextR
 rw[if_pos h8,List.getElem?_map,List.getElem?_zipIdx,hc]
 simp
def yx (t:List Cf) (x:Px) (i j:Nat) (r' r:Rt):Prop:=∃ (c d:Cf) (k m:Nat) (q:Pa),t[i]? =some c∧t[j]? =some d∧iI t i k=some (j,m)∧mM d m x r'=some q∧wQ c k x q=some r
theorem aeL {c:Cf} {k:Nat} {x:Px} {q:Pa} {r:Rt} (h:wQ c k x q=some r):k < c.s.length:=by
 obtain⟨_,_,_,i,s,m,u,e,h2,_⟩:=mY h
 omega
def CJ (t:List Cf) (x:Px) (i:Nat) (r:Rt):Prop:=∃ c,t[i]? =some c∧dF c=true∧x∈c.w∧r=uI c.d
theorem vY {t:List Cf} {L:List (List Ch)} {i:Nat} {c:Cf} {x:Px} {r:Rt} (hL:∀ j,sK (L.getD j [])=true) (hc:t[i]? =some c):r∈gq c (jU t L i c) x↔CJ t x i r∨∃ j r',mW (L.getD j []) x=some r'∧yx t x i j r' r:=by
 rw[nH]
 constructor
 · rintro⟨h0,⟨hw,hr⟩|⟨k,l,p,hk,hl,hp,hi⟩⟩
   · exact .inl ⟨c,hc,h0,hw,hr⟩
   · unfold jU at hl
     rw[List.getElem?_map,List.getElem?_range hk] at hl
     simp only[Option.map_some,Option.some.injEq] at hl
     subst hl
     unfold pO at hp
     cases hf:iI t i k with
     |none=>rw[hf] at hp; exact absurd (pq.1 hp) (fun h=>absurd (lX h) (by simp))
     |some q=>
      obtain⟨j,m⟩:=q
      rw[hf] at hp
      simp only at hp
      cases hd:t[j]? with
      |none=>rw[hd] at hp; exact absurd (pq.1 hp) (fun h=>absurd (lX h) (by simp))
      |some d=>
       rw[hd] at hp
       simp only at hp
       rw[J9,if_pos (hL j),Option.bind_eq_some_iff] at hp
       obtain⟨r',h1,h2⟩:=hp
       exact .inr ⟨j,r',h1,c,d,k,m,p,hc,hd,hf,h2,hi⟩
 · rintro(⟨c',hc',h0,hw,hr⟩|⟨j,r',h1,c',d,k,m,q,hc',hd,hf,h2,hi⟩)
   · rw[hc] at hc'; cases hc'
     exact⟨h0,.inl ⟨hw,hr⟩⟩
   · rw[hc] at hc'; cases hc'
     have hk:=aeL hi
     refine⟨(mY hi).1,.inr ⟨k,pO t L i k,q,hk,?_,?_,hi⟩⟩
     · unfold jU
       rw[List.getElem?_map,List.getElem?_range hk]; rfl
     · unfold pO
       rw[hf]
       simp only[hd]
       rw[J9,if_pos (hL j),h1]
       exact h2
theorem Qh {c:Cf} {x:Px} (h:dF c=true) (hx:x∈c.w):dA x=true:=by
 have hf:jh id dA [] c.w=true:=by
  unfold dF at h
  simp only[Bool.and_eq_true] at h
  exact h.2.2.2.2.2.2.2.1
 obtain⟨i,hi,rfl⟩:=List.getElem_of_mem hx
 exact((yG.1 hf) i _ (List.getElem?_eq_getElem hi)).2
theorem Xy {c:Cf} {t:List (List En)} {x:Px} {r:Rt} (h:r∈gq c t x):dA x=true:=by
 obtain⟨h0,⟨hw,_⟩|⟨k,l,p,_,_,_,hi⟩⟩:=nH.1 h
 · exact Qh h0 hw
 · exact(mY hi).2.1
theorem afy (c:Cf) (t:List (List En)):sK (kH c t)=true:=uU.2 ⟨sN c t,fun e he=>Xy (kR (yV.1 he)).1⟩
theorem afn:sK []=true:=rfl
theorem Qd {t:List Cf} {L:List (List Ch)} (j:Nat):sK ((nextR t L).getD j [])=true:=by
 rw[List.getD_eq_getElem?_getD]
 cases h:(nextR t L)[j]? with
 |none=>exact afn
 |some l=>
  have hm:=List.mem_of_getElem? h
  unfold nextR at hm
  split at hm
  · obtain⟨p,_,rfl⟩:=List.mem_map.1 hm
    exact afy _ _
  · cases hm
end
section
open Go.RowKit Go.Proofs
variable [Lv]
theorem AP:∀ (n:Nat) (l:List Nat),l.Nodup→(∀ x∈l,x < n)→l.length≤n
 |0,[],_,_=>Nat.le_refl _
 |0,x::l,_,h=>absurd (h x List.mem_cons_self) (Nat.not_lt_zero _)
 |n+1,l,hn,h=>by
  by_cases hm:n∈l
  · have h1:=AP n (l.erase n) (hn.erase n) fun x hx=>by
     have h2:=h x (List.mem_of_mem_erase hx)
     have h3:x≠n:=fun e=>by rw[e] at hx; exact(List.Nodup.not_mem_erase hn) hx
     omega
    rw[List.length_erase_of_mem hm] at h1
    omega
  · exact Nat.le_succ_of_le (AP n l hn fun x hx=>by
     have h2:=h x hx
     have h3:x≠n:=fun e=>hm (e ▸ hx)
     omega)
section
variable {t:List Cf} {x:Px}
structure Jv (t:List Cf) (x:Px) (f g:Nat→Option Rt):Prop where
 from_:∀ i r,g i=some r→CJ t x i r∨∃ j r',f j=some r'∧yx t x i j r' r
 best:∀ i r,g i=some r→∀ r0,(CJ t x i r0∨∃ j r',f j=some r'∧yx t x i j r' r0)→iM r r0≤0
 some_:∀ i r0,(CJ t x i r0∨∃ j r',f j=some r'∧yx t x i j r' r0)→∃ r,g i=some r
theorem CJ.lt {i:Nat} {r:Rt} (h:CJ t x i r):i < t.length:=by obtain⟨c,hc,_⟩:=h; exact(List.getElem?_eq_some_iff.1 hc).1
theorem yx.lt {i j:Nat} {r' r:Rt} (h:yx t x i j r' r):i < t.length∧j < t.length:=by
 obtain⟨c,d,k,m,q,hc,hd,_⟩:=h
 exact⟨(List.getElem?_eq_some_iff.1 hc).1,(List.getElem?_eq_some_iff.1 hd).1⟩
def EZ (t:List Cf) (x:Px) (j:Nat) (r:Rt):Prop:=∀ d,t[j]? =some d→(∃ k p,wQ d k x p=some r)∨r=uI d.d
theorem CJ.live {i:Nat} {r:Rt} (h:CJ t x i r):EZ t x i r:=fun d hd=>by
 obtain⟨c,hc,_,_,hr⟩:=h
 rw[hc] at hd; cases hd; exact .inr hr
theorem yx.live {i j:Nat} {r' r:Rt} (h:yx t x i j r' r):EZ t x i r:=fun d hd=>by
 obtain⟨c,_,k,m,q,hc,_,_,_,hi⟩:=h
 rw[hc] at hd; cases hd; exact .inl ⟨_,_,hi⟩
theorem Jv.live {f g:Nat→Option Rt} (h:Jv t x f g) {i:Nat} {r:Rt} (hr:g i=some r):EZ t x i r:=by
 rcases h.from_ i r hr with ho|⟨_,_,_,he⟩
 · exact ho.live
 · exact he.live
theorem Pv {i k j m:Nat} {c d:Cf} (hc:t[i]? =some c) (hd:t[j]? =some d) (hk:k < c.s.length) (hf:iI t i k=some (j,m)):∃ s u,c.s[k]? =some s∧d.s[m]? =some u∧d.a=s.a∧u.a=c.a∧idxOf d c.a=some m:=by
 have hs:c.s[k]? =some c.s[k]:=List.getElem?_eq_getElem hk
 obtain⟨d',u,h1,h2,h3,h4,_,h6⟩:=QY hc hs hf
 rw[hd] at h1; cases h1
 exact⟨_,u,hs,h2,h3,h4,h6⟩
theorem yx.worse (hg:nP t) {i j:Nat} {r' r:Rt} (h:yx t x i j r' r) (hl:EZ t x j r'):iM r' r < 0:=by
 obtain⟨c,d,k,m,q,hc,hd,hf,ho,hi⟩:=h
 obtain⟨s,u,hs,hu,h1,h2,h3⟩:=Pv hc hd (aeL hi) hf
 obtain⟨j',m',d',u',a1,a2,a3,_,_,_,_,a8⟩:=hg.side i k c s hc hs
 rw[hf] at a1; cases a1
 obtain⟨i',k',c',s',b1,b2,_,_,_,_,b7,_⟩:=hg.side j m d u hd hu
 rw[a8] at b1; cases b1
 rw[hc] at b2; cases b2
 obtain⟨s2,_,hs2,_,g1,_,g3⟩:=Pv hd hc (List.getElem?_eq_some_iff.1 hu).1 a8
 have e1:fK d c.a=(m:Int):=by unfold fK; rw[h3]; rfl
 have e2:fK c d.a=(k:Int):=by unfold fK; rw[g3]; rfl
 refine adz b7 (hl d hd) (q:=q) (x:=x) ?_ ?_
 · rw[e1]; exact ho
 · rw[e2]; exact hi
theorem yx.path {i j:Nat} {r' r:Rt} (h:yx t x i j r' r) {c d:Cf} (hc:t[i]? =some c) (hd:t[j]? =some d):d.a∈r.p.s∧(∀ n∈r'.p.s,n∈r.p.s)∧c.a∉r.p.s:=by
 obtain⟨c',d',k,m,q,hc',hd',hf,ho,hi⟩:=h
 rw[hc] at hc'; cases hc'
 rw[hd] at hd'; cases hd'
 obtain⟨_,_,_,_,h5,h6,_⟩:=vC hi
 obtain⟨_,_,_,_,_,_,_,n,h1,_,h3⟩:=vF ho
 rw[h5,h3]
 rw[h3] at h6
 refine⟨?_,fun n hn=>List.mem_append_right _ hn,fun hm=>?_⟩
 · refine List.mem_append_left _ ?_
   rw[List.mem_replicate]; exact⟨by omega,rfl⟩
 · have:=List.contains_iff_mem.2 hm
   rw[this] at h6; cases h6
def qX (S:List Nat) (a:Nat→Option Rt) (T:Nat) (ρ:Nat→Nat→Option Rt):Prop:=∀ i∈S,∀ s,T≤s→ρ s i=a i
def uP (t:List Cf) (x:Px) (S:List Nat) (a:Nat→Option Rt) (u:Nat) (r:Rt):Prop:=CJ t x u r∨∃ j∈S,∃ r',a j=some r'∧yx t x u j r' r
def Yb (C:Option Rt) (r:Rt):Prop:=∀ b,C=some b→ ¬ iM b r≤0
theorem chain {ρ:Nat→Nat→Option Rt} {S:List Nat} {a:Nat→Option Rt} {T:Nat} {C:Option Rt} (hg:nP t) (hρ:∀ s,Jv t x (ρ s) (ρ (s+1))) (hlive:∀ s j r,ρ s j=some r→EZ t x j r) (hlt:∀ s j r,ρ s j=some r→j < t.length) (hS:qX S a T ρ)
 (hC:∀ u r,u∉S→uP t x S a u r→ ¬ Yb C r):∀ (d v:Nat) (r:Rt),v∉S→ρ (T+d) v=some r→Yb C r→∃ ch:List Nat,ch.length=d∧(∀ w∈ch,w < t.length∧w∉S)∧ch.Nodup∧v∉ch∧∀ w∈ch,∀ e,t[w]? =some e→e.a∈r.p.s
 |0,v,r,_,_,_=>⟨[],rfl,by simp,List.nodup_nil,by simp,by simp⟩
 |d+1,v,r,hv,hr,hb=>by
  rcases(hρ (T+d)).from_ v r hr with ho|⟨j,r',hj,he⟩
  · exact absurd hb (hC v r hv (.inl ho))
  · by_cases hjS:j∈S
    · rw[hS j hjS (T+d) (by omega)] at hj
      exact absurd hb (hC v r hv (.inr ⟨j,hjS,r',hj,he⟩))
    · have hw:=he.worse hg (hlive _ _ _ hj)
      have hb':Yb C r':=fun b hbC h=>hb b hbC (vP h (by omega))
      obtain⟨ch,h1,h2,h3,h4,h5⟩:=chain hg hρ hlive hlt hS hC d j r' hjS hj hb'
      obtain⟨hv1,hj1⟩:=he.lt
      have hc:t[v]? =some t[v]:=List.getElem?_eq_getElem hv1
      have hd:t[j]? =some t[j]:=List.getElem?_eq_getElem hj1
      obtain⟨p1,p2,p3⟩:=he.path hc hd
      have hin:∀ w∈j::ch,∀ e,t[w]? =some e→e.a∈r.p.s:=fun w hw e hwe=>by
       rcases List.mem_cons.1 hw with rfl|hw
       · rw[hd] at hwe; cases hwe; exact p1
       · exact p2 _ (h5 w hw e hwe)
      refine⟨j::ch,by simp[h1],fun w hw=>?_,List.nodup_cons.2 ⟨h4,h3⟩,fun hm=>p3 (hin v hm _ hc),hin⟩
      rcases List.mem_cons.1 hw with rfl|hw
      · exact⟨hj1,hjS⟩
      · exact h2 w hw
theorem flushed {ρ:Nat→Nat→Option Rt} {S:List Nat} {a:Nat→Option Rt} {T:Nat} {C:Option Rt} (hg:nP t) (hρ:∀ s,Jv t x (ρ s) (ρ (s+1))) (hlive:∀ s j r,ρ s j=some r→EZ t x j r) (hlt:∀ s j r,ρ s j=some r→j < t.length) (hS:qX S a T ρ)
 (hC:∀ u r,u∉S→uP t x S a u r→ ¬ Yb C r) {s v:Nat} {r:Rt} (hs:T+t.length≤s) (hv:v∉S) (hr:ρ s v=some r):¬ Yb C r:=fun hb=>by
 obtain⟨d,rfl⟩:∃ d,s=T+d:=⟨s - T,by omega⟩
 obtain⟨ch,h1,h2,h3,h4,_⟩:=chain hg hρ hlive hlt hS hC d v r hv hr hb
 have:=AP t.length (v::ch) (List.nodup_cons.2 ⟨h4,h3⟩) fun w hw=>by
  rcases List.mem_cons.1 hw with rfl|hw
  · exact hlt _ _ _ hr
  · exact(h2 w hw).1
 rw[List.length_cons] at this
 omega
structure Ar (t:List Cf) (x:Px) (ρ:Nat→Nat→Option Rt):Prop where
 turn:∀ s,Jv t x (ρ s) (ρ (s+1))
 live:∀ s j r,ρ s j=some r→EZ t x j r
 lt:∀ s j r,ρ s j=some r→j < t.length
theorem CJ.dA {i:Nat} {r:Rt} (h:CJ t x i r):dA x=true:=by obtain⟨c,_,h0,hx,_⟩:=h; exact Qh h0 hx
theorem yx.dA {i j:Nat} {r' r:Rt} (h:yx t x i j r' r):dA x=true:=by obtain⟨_,_,_,_,_,_,_,_,_,hi⟩:=h; exact(mY hi).2.1
theorem uP.dA {S:List Nat} {a:Nat→Option Rt} {u:Nat} {r:Rt} (h:uP t x S a u r):Go.aP.dA x=true:=by
 rcases h with h|⟨_,_,_,_,h⟩
 · exact h.dA
 · exact h.dA
theorem uP.lt {S:List Nat} {a:Nat→Option Rt} {u:Nat} {r:Rt} (h:uP t x S a u r):u < t.length:=by
 rcases h with h|⟨_,_,_,_,h⟩
 · exact h.lt
 · exact h.lt.1
def CG (t:List Cf) (x:Px) (S:List Nat) (a:Nat→Option Rt):List (List Ch):=(List.range t.length).map fun j=>if j∈S then(match a j with|some r=>[⟨x,r⟩]|none=>[]) else[]
theorem MP {S:List Nat} {a:Nat→Option Rt} (hS:∀ i∈S,i < t.length) (j:Nat):mW ((CG t x S a).getD j []) x=if j∈S then a j else none:=by
 unfold CG
 rw[List.getD_eq_getElem?_getD,List.getElem?_map]
 by_cases hj:j < t.length
 · rw[List.getElem?_range hj]
   simp only[Option.map_some,Option.getD_some]
   split
   · cases a j with
     |none=>rfl
     |some r=>simp[mW]
   · rfl
 · rw[List.getElem?_eq_none (by rw[List.length_range]; omega),if_neg (fun h=>hj (hS j h))]; rfl
theorem WQ {S:List Nat} {a:Nat→Option Rt} (hx:Go.aP.dA x=true) (j:Nat):sK ((CG t x S a).getD j [])=true:=by
 unfold CG
 rw[List.getD_eq_getElem?_getD,List.getElem?_map]
 by_cases hj:j < t.length
 · rw[List.getElem?_range hj]
   simp only[Option.map_some,Option.getD_some]
   split
   · cases a j with
     |none=>rfl
     |some r=>exact uU.2 ⟨by simp[E5],fun e he=>by rw[List.mem_singleton.1 he]; exact hx⟩
   · rfl
 · rw[List.getElem?_eq_none (by rw[List.length_range]; omega)]; rfl
theorem KX {l:List Rt} (h:oO l=none):l= []:=by
 cases l with
 |nil=>rfl
 |cons a l=>cases h
theorem ae2 {S:List Nat} {a:Nat→Option Rt} (hS:∀ i∈S,i < t.length):(∀ u r,u∉S→ ¬ uP t x S a u r)∨∃ u r,u∉S∧uP t x S a u r∧∀ v q,v∉S→uP t x S a v q→iM r q≤0:=by
 by_cases hx:Go.aP.dA x=true
 case neg=>exact .inl fun u r _ h=>hx h.dA
 have key:∀ (u:Nat) (c:Cf) (r:Rt),t[u]? =some c→(r∈gq c (jU t (CG t x S a) u c) x↔uP t x S a u r):=fun u c r hc=>by
  rw[vY (WQ hx) hc]
  unfold uP
  constructor
  · rintro(h|⟨j,r',h1,h2⟩)
    · exact .inl h
    · rw[MP hS] at h1
      split at h1
      · rename_i hj; exact .inr ⟨j,hj,r',h1,h2⟩
      · cases h1
  · rintro(h|⟨j,hj,r',h1,h2⟩)
    · exact .inl h
    · exact .inr ⟨j,r',by rw[MP hS,if_pos hj]; exact h1,h2⟩
 have key2:∀ r,r∈((List.range t.length).filter fun u=> !decide (u∈S)).flatMap (fun u=>match t[u]? with|some c=>gq c (jU t (CG t x S a) u c) x|none=>[])↔∃ u,u∉S∧uP t x S a u r:=fun r=>by
  rw[List.mem_flatMap]
  constructor
  · rintro⟨u,hu,hr⟩
    rw[List.mem_filter] at hu
    have huS:u∉S:=by simpa using hu.2
    cases hc:t[u]? with
    |none=>rw[hc] at hr; cases hr
    |some c=>rw[hc] at hr; exact⟨u,huS,(key u c r hc).1 hr⟩
  · rintro⟨u,hu,hr⟩
    have hul:=hr.lt
    have hc:t[u]? =some t[u]:=List.getElem?_eq_getElem hul
    refine⟨u,List.mem_filter.2 ⟨List.mem_range.2 hr.lt,by simpa using hu⟩,?_⟩
    rw[hc]
    exact(key u _ r hc).2 hr
 generalize ((List.range t.length).filter fun u=> !decide (u∈S)).flatMap (fun u=>match t[u]? with|some c=>gq c (jU t (CG t x S a) u c) x|none=>[])=l at key2
 cases hb:oO l with
 |none=>
  rw[KX hb] at key2
  exact .inl fun u r hu h=>by have:=(key2 r).2 ⟨u,hu,h⟩; cases this
 |some r=>
  obtain⟨h1,h2⟩:=kR hb
  obtain⟨u,hu,h3⟩:=(key2 r).1 h1
  exact .inr ⟨u,r,hu,h3,fun v q hv hq=>h2 q ((key2 q).2 ⟨v,hv,hq⟩)⟩
theorem WJ {ρ:Nat→Nat→Option Rt} {S:List Nat} {a:Nat→Option Rt} {T u:Nat} {r:Rt} (hg:nP t) (hρ:Ar t x ρ) (hS:qX S a T ρ) (hu:u∉S) (hc:uP t x S a u r) (hm:∀ v q,v∉S→uP t x S a v q→iM r q≤0) {s:Nat} (hs:T+t.length+1≤s):ρ s u=some r:=by
 obtain⟨s,rfl⟩:∃ k,s=k+1:=⟨s - 1,by omega⟩
 have hfl:∀ v q,v∉S→ρ s v=some q→iM r q≤0:=fun v q hv hq=>by
  have:=flushed (C:=some r) hg hρ.turn hρ.live hρ.lt hS (fun v q hv hq hb=>hb r rfl (hm v q hv hq)) (show T+t.length≤s by omega) hv hq
  unfold Yb at this
  simp only[Option.some.injEq] at this
  by_cases h:iM r q≤0
  · exact h
  · exact absurd (fun b hb=>by subst hb; exact h) this
 have hc':CJ t x u r∨∃ j r',ρ s j=some r'∧yx t x u j r' r:=by
  rcases hc with h|⟨j,hj,r',h1,h2⟩
  · exact .inl h
  · exact .inr ⟨j,r',by rw[hS j hj s (by omega)]; exact h1,h2⟩
 obtain⟨q,hq⟩:=(hρ.turn s).some_ u r hc'
 have h1:=(hρ.turn s).best u q hq r hc'
 have h2:iM r q≤0:=by
  rcases(hρ.turn s).from_ u q hq with h|⟨j,r',h3,h4⟩
  · exact hm u q hu (.inl h)
  · by_cases hj:j∈S
    · rw[hS j hj s (by omega)] at h3
      exact hm u q hu (.inr ⟨j,hj,r',h3,h4⟩)
    · have:=h4.worse hg (hρ.live _ _ _ h3)
      exact vP (hfl j r' hj h3) (by omega)
 rw[hq,O0 h1 h2]
theorem settle {ρ σ:Nat→Nat→Option Rt} {S:List Nat} {a:Nat→Option Rt} {T:Nat} (hg:nP t) (hρ:Ar t x ρ) (hσ:Ar t x σ) (hn:S.Nodup) (hl:∀ i∈S,i < t.length) (h1:qX S a T ρ) (h2:qX S a T σ) (hk:S.length < t.length):
 ∃ S' a',S'.Nodup∧(∀ i∈S',i < t.length)∧S.length < S'.length∧qX S' a' (T+t.length+1) ρ∧qX S' a' (T+t.length+1) σ:=by
 rcases ae2 (x:=x) (a:=a) hl with h|⟨u,r,hu,hc,hm⟩
 · have hno:∀ {τ:Nat→Nat→Option Rt},Ar t x τ→qX S a T τ→qX (List.range t.length) (fun i=>if i∈S then a i else none) (T+t.length+1) τ:=fun {τ} hτ hS i hi s hs=>by
    show τ s i=if i∈S then a i else none
    by_cases hiS:i∈S
    · rw[if_pos hiS]; exact hS i hiS s (by omega)
    · rw[if_neg hiS]
      cases hv:τ s i with
      |none=>rfl
      |some q=>exact absurd (fun b hb=>by cases hb) (flushed (C:=none) hg hτ.turn hτ.live hτ.lt hS (fun v q hv hq=>absurd hq (h v q hv)) (show T+t.length≤s by omega) hiS hv)
   exact⟨List.range t.length,_,List.nodup_range,fun i hi=>List.mem_range.1 hi,by rw[List.length_range]; exact hk,hno hρ h1,hno hσ h2⟩
 · have hyes:∀ {τ:Nat→Nat→Option Rt},Ar t x τ→qX S a T τ→qX (u::S) (fun i=>if i=u then some r else a i) (T+t.length+1) τ:=fun {τ} hτ hS i hi s hs=>by
    show τ s i=if i=u then some r else a i
    by_cases hiu:i=u
    · rw[if_pos hiu,hiu]; exact WJ hg hτ hS hu hc hm hs
    · rw[if_neg hiu]
      exact hS i ((List.mem_cons.1 hi).resolve_left hiu) s (by omega)
   exact⟨u::S,_,List.nodup_cons.2 ⟨hu,hn⟩,fun i hi=>(List.mem_cons.1 hi).elim (fun e=>e ▸ hc.lt) (hl i),by simp,hyes hρ h1,hyes hσ h2⟩
theorem settles {ρ σ:Nat→Nat→Option Rt} (hg:nP t) (hρ:Ar t x ρ) (hσ:Ar t x σ):∀ k,k≤t.length→∃ S a,S.Nodup∧(∀ i∈S,i < t.length)∧k≤S.length∧qX S a (k*(t.length+1)) ρ∧qX S a (k*(t.length+1)) σ
 |0,_=>⟨[],fun _=>none,List.nodup_nil,by simp,Nat.zero_le _,fun i h=>(by cases h),fun i h=>(by cases h)⟩
 |k+1,hk=>by
  obtain⟨S,a,h1,h2,h3,h4,h5⟩:=settles hg hρ hσ k (by omega)
  have e:(k+1)*(t.length+1)=k*(t.length+1)+t.length+1:=by rw[Nat.succ_mul]; omega
  rw[e]
  by_cases hS:k+1≤S.length
  · exact⟨S,a,h1,h2,hS,fun i hi s hs=>h4 i hi s (by omega),fun i hi s hs=>h5 i hi s (by omega)⟩
  · obtain⟨S',a',g1,g2,g3,g4,g5⟩:=settle hg hρ hσ h1 h2 h4 h5 (by omega)
    exact⟨S',a',g1,g2,by omega,g4,g5⟩
theorem ZB {ρ σ:Nat→Nat→Option Rt} (hg:nP t) (hρ:Ar t x ρ) (hσ:Ar t x σ) {s:Nat} (hs:t.length*(t.length+1)≤s) (i:Nat):ρ s i=σ s i:=by
 obtain⟨S,a,h1,h2,h3,h4,h5⟩:=settles hg hρ hσ t.length (Nat.le_refl _)
 by_cases hi:i < t.length
 · have hiS:i∈S:=Classical.byContradiction fun hn=>by
    have:=AP t.length (i::S) (List.nodup_cons.2 ⟨hn,h1⟩) fun w hw=>(List.mem_cons.1 hw).elim (fun e=>e ▸ hi) (h2 w)
    rw[List.length_cons] at this
    omega
   rw[h4 i hiS s hs,h5 i hiS s hs]
 · cases h:ρ s i with
   |some r=>exact absurd (hρ.lt _ _ _ h) hi
   |none=>
    cases h':σ s i with
    |some r=>exact absurd (hσ.lt _ _ _ h') hi
    |none=>rfl
end
def yY {α:Type} (f:α→α):Nat→α→α
 |0,a=>a
 |n+1,a=>f (yY f n a)
theorem aaN {α:Type} (f:α→α) (m:Nat) (a:α):∀ n,yY f (m+n) a=yY f n (yY f m a)
 |0=>rfl
 |n+1=>by show f (yY f (m+n) a)=f (yY f n (yY f m a)); rw[aaN f m a n]
def Uj (t:List Cf) (x:Px) (L:List (List Ch)) (s i:Nat):Option Rt:=mW ((yY (nextR t) (s+1) L).getD i []) x
theorem yw {t:List Cf} {x:Px} {L:List (List Ch)} (h8:t.length≤8) {s i:Nat} {c:Cf} (hc:t[i]? =some c):Uj t x L s i=oO (gq c (jU t (yY (nextR t) s L) i c) x):=by
 unfold Uj
 show mW ((nextR t (yY (nextR t) s L)).getD i []) x=_
 rw[List.getD_eq_getElem?_getD,yj h8 hc,Option.getD_some,Q5]
theorem Rw {t:List Cf} {x:Px} {L:List (List Ch)} (h8:t.length≤8) {s i:Nat} {r:Rt} (h:Uj t x L s i=some r):i < t.length:=by
 refine Classical.byContradiction fun hi=>?_
 unfold Uj at h
 have e:yY (nextR t) (s+1) L=nextR t (yY (nextR t) s L):=rfl
 rw[e,List.getD_eq_getElem?_getD,List.getElem?_eq_none (by rw[pz h8]; omega)] at h
 cases h
theorem Vx {t:List Cf} (hg:nP t) (x:Px) (L:List (List Ch)):Ar t x (Uj t x L) where
 lt s j r h:=Rw hg.most h
 live s j r h d hd:=by
  rw[yw hg.most hd] at h
  rcases(nH.1 (kR h).1).2 with ⟨_,hr⟩|⟨_,_,_,_,_,_,hi⟩
  · exact .inr hr
  · exact .inl ⟨_,_,hi⟩
 turn s:=by
  have hgd:∀ j,sK ((yY (nextR t) (s+1) L).getD j [])=true:=fun j=>Qd j
  refine⟨fun i r h=>?_,fun i r h r0 h0=>?_,fun i r0 h0=>?_⟩
  · have hi:=Rw hg.most h
    have hc:t[i]? =some t[i]:=List.getElem?_eq_getElem hi
    rw[yw hg.most hc] at h
    exact(vY hgd hc).1 (kR h).1
  · have hi:=Rw hg.most h
    have hc:t[i]? =some t[i]:=List.getElem?_eq_getElem hi
    rw[yw hg.most hc] at h
    exact(kR h).2 _ ((vY hgd hc).2 h0)
  · have hi:i < t.length:=by
     rcases h0 with h|⟨_,_,_,h⟩
     · exact h.lt
     · exact h.lt.1
    have hc:t[i]? =some t[i]:=List.getElem?_eq_getElem hi
    rw[yw hg.most hc]
    have hm:=(vY hgd hc).2 h0
    cases hb:oO (gq t[i] (jU t (yY (nextR t) (s+1) L) i t[i]) x) with
    |some r=>exact⟨r,rfl⟩
    |none=>rw[KX hb] at hm; cases hm
theorem conv {t:List Cf} (hg:nP t) (L L':List (List Ch)) {s:Nat} (hs:t.length*(t.length+1)≤s):yY (nextR t) (s+1) L=yY (nextR t) (s+1) L':=by
 refine List.ext_getElem? fun i=>?_
 have e:∀ L,yY (nextR t) (s+1) L=nextR t (yY (nextR t) s L):=fun _=>rfl
 by_cases hi:i < t.length
 · have hc:t[i]? =some t[i]:=List.getElem?_eq_getElem hi
   have h:∀ x,Uj t x L s i=Uj t x L' s i:=fun x=>ZB hg (Vx hg x L) (Vx hg x L') hs i
   rw[e,e,yj hg.most hc,yj hg.most hc]
   congr 1
   refine G9 (sN _ _) (sN _ _) fun a=>?_
   have h:=h a.x
   rw[yw hg.most hc,yw hg.most hc] at h
   rw[yV,yV,h]
 · rw[e,e,List.getElem?_eq_none (by rw[pz hg.most]; omega),List.getElem?_eq_none (by rw[pz hg.most]; omega)]
end
end Go.aP
