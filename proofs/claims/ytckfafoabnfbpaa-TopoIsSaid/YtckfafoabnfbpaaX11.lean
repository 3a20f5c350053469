/- The texts of a proof, one behind the other: an interpreter and its soundness, what the functions of the program answer, and plain laws on that. -/
import Derived.Test.YtckfafoabnfbpaaX10
import Derived.Test.YtckfafoabnfbpaaX1
import Derived.Test.YtckfafoabnfbpaaK10
set_option linter.unusedVariables false
set_option linter.unusedSimpArgs false
set_option linter.unnecessarySimpa false
set_option linter.unusedSectionVars false
set_option maxRecDepth 100000
namespace Go.aO
section
open Go.RowKit Go.Proofs
variable [Lv]
theorem yG {m i:Nat} {e:Int} {t:List Cf} {c:Cf} (ht:dN Cf.ok t) (hc:t[i]? =some c) (he:aS e=true):aB env (m+1) 37 [.sl 6 (t.map Cf.t),i64 i,i64 e]=bif e==0 then jJ m 54 [c.t] fun b=>rB !b else bif e==1 then eG env m 37 6 (sJw t i c 0) else eG env m 37 12 (Bh t i e c 0):=by
 have hb:=ht.1
 have hi:=(List.getElem?_eq_some_iff.1 hc).1
 rw[q37,dA (FY (jR ht) (bC (fQ (by omega))) (bC he)),aF (aI hc),show(c.t.cells.length==6&& !c.t.dS)=true from rfl,bD]
 rfl
theorem adw {M i:Nat} {t:List Cf} {c:Cf} (hM:big+70≤M) (ht:dN Cf.ok t) (hc:t[i]? =some c):aB env (M+1) 37 [.sl 6 (t.map Cf.t),i64 i,i64 0]= .ok (.bool (xk t i)):=by
 obtain⟨m,rfl⟩:=gV (show 1≤M by omega)
 rw[yG ht hc rfl,show((0:Int)==0)=true from rfl,cond_true,dM (NC (by omega) (ht.2 _ (List.mem_of_getElem? hc)))]
 unfold xk
 rw[hc]
theorem adx {M i:Nat} {t:List Cf} {c:Cf} (hM:big+70≤M) (ht:dN Cf.ok t) (hc:t[i]? =some c):aB env (M+1) 37 [.sl 6 (t.map Cf.t),i64 i,i64 1]= .ok (.bool (o8 t i)):=by
 have hb:=ht.1
 have hi:=(List.getElem?_eq_some_iff.1 hc).1
 rw[yG ht hc rfl,show((1:Int)==0)=false from rfl,show((1:Int)==1)=true from rfl,cond_false,cond_true]
 have hu:o8 t i=(t.take i).any (vS c):=by unfold o8; rw[hc]
 rw[hu]
 have it:=rU (B:=aT env M 37 0 6) (S:=fun k=>sJw t i c k) (R:=⟨slots 95 [(6,.t (.bool true))],[]⟩) (X:=⟨slots 95 [],[]⟩) (id:=0) (vS c) (t.take i) (n:=M) (by rw[List.length_take]; omega) (fun j d hx=>by
  have hj:j < i:=by have:=(List.getElem?_eq_some_iff.1 hx).1; rw[List.length_take] at this; omega
  have hx':t[j]? =some d:=by rw[List.getElem?_take,if_pos hj] at hx; exact hx
  have d0:d.t.ah 0 1 false=i64 d.a:=rfl
  have d1:d.t.ah 1 1 false=i64 d.d:=rfl
  rw[aaH,decide_eq_true (by omega)]
  simp only[cond_true,aF (aI hx'),d0,d1,bM]
  rw[wrap_succ (show j≤big by omega)]
  unfold vS
  cases d.a==c.a<;>cases d.d==c.d<;>rfl)
  (by rw[List.length_take,Nat.min_eq_left (by omega),aaH,decide_eq_false (by omega)]; rfl)
 cases hc:(t.take i).any (vS c) with
 |true=>rw[hc] at it; exact(aN it).trans (SB M true)
 |false=>rw[hc] at it; exact(aN it).trans (MC M)
theorem yH {M i:Nat} {e:Int} {t:List Cf} {c:Cf} {q:Nat→Nat→Bool} (hM:big+70≤M) (ht:dN Cf.ok t) (hc:t[i]? =some c) (he:aS e=true) (h0:e≠0) (h1:e≠1)
 (rd:∀ (k:Nat) (s:Sd),c.s[k]? =some s→aT env M 37 0 12 (Bh t i e c k)=bif q i k then .ok (.ret,⟨slots 95 [(6,.t (.bool true))],[]⟩) else .ok (.norm,Bh t i e c (k+1:Nat)))
 (hx:aT env M 37 0 12 (Bh t i e c c.s.length)= .ok (.exit 2,⟨slots 95 [],[]⟩)):
 aB env (M+1) 37 [.sl 6 (t.map Cf.t),i64 i,i64 e]= .ok (.bool (sG t q i)):=by
 have hco:=ht.2 _ (List.mem_of_getElem? hc)
 have hsl:=hco.s.1
 rw[yG ht hc he,beq_eq_false_iff_ne.2 h0,beq_eq_false_iff_ne.2 h1,cond_false,cond_false]
 have hn:sN t i=c.s.length:=by unfold sN; rw[hc]; rfl
 unfold sG
 rw[hn]
 have it:=fZ (B:=aT env M 37 0 12) (S:=fun k=>Bh t i e c k) (R:=fun _=>⟨slots 95 [(6,.t (.bool true))],[]⟩) (X:=⟨slots 95 [],[]⟩) (id:=2) (q i) c.s.length 0 M (by omega)
  (fun k _ hk hp=>by rw[rd k _ (List.getElem?_eq_getElem (by omega)),hp]; rfl) (fun k _ hk hp=>by rw[rd k _ (List.getElem?_eq_getElem (by omega)),hp]; rfl)
  (by rw[Nat.zero_add]; exact hx)
 cases hk:dH (q i) 0 c.s.length with
 |some j=>rw[hk] at it; exact(aN it).trans (Pm M true)
 |none=>rw[hk] at it; exact(aN it).trans (Jv M)
theorem ady {M i:Nat} {t:List Cf} {c:Cf} (hM:big+70≤M) (ht:dN Cf.ok t) (hc:t[i]? =some c):aB env (M+1) 37 [.sl 6 (t.map Cf.t),i64 i,i64 2]= .ok (.bool (sG t (nM t) i)):=by
 obtain⟨m,rfl⟩:=gV (show 1≤M by omega)
 have hb:=ht.1
 have hbg:=bH
 have hi:=(List.getElem?_eq_some_iff.1 hc).1
 have hsl:=(ht.2 _ (List.mem_of_getElem? hc)).s.1
 refine yH hM ht hc rfl (by decide) (by decide) (fun k s hk=>?_) ?_
 · have hkl:=(List.getElem?_eq_some_iff.1 hk).1
   rw[TU,decide_eq_true (by rw[List.length_map]; omega),cond_true,aV (Hr (by omega) ht (fQ (by omega)) (fQ (by omega))),wrap_succ (show k≤big by omega)]
   unfold nM
   cases iE t i k<;>rfl
 · rw[TU,decide_eq_false (by rw[List.length_map]; omega)]; rfl
theorem adz {M i:Nat} {t:List Cf} {c:Cf} (hM:big+70≤M) (ht:dN Cf.ok t) (hc:t[i]? =some c) (CG:∀ c∈t,dZ c=true) (hk2:lG t (nM t)=none):aB env (M+1) 37 [.sl 6 (t.map Cf.t),i64 i,i64 3]= .ok (.bool (sG t (rY t) i)):=by
 obtain⟨m,rfl⟩:=gV (show 1≤M by omega)
 have hb:=ht.1
 have hbg:=bH
 have hi:=(List.getElem?_eq_some_iff.1 hc).1
 have hsl:=(ht.2 _ (List.mem_of_getElem? hc)).s.1
 refine yH hM ht hc rfl (by decide) (by decide) (fun k s hk=>?_) ?_
 · have hkl:=(List.getElem?_eq_some_iff.1 hk).1
   rw[JM,decide_eq_true (by rw[List.length_map]; omega),cond_true,aV (Hr (by omega) ht (fQ (by omega)) (fQ (by omega))),wrap_succ (show k≤big by omega)]
   have hm:=pJ hk2 hc hk
   unfold rY Jj
   unfold nM at hm
   cases hf:iE t i k with
   |none=>rw[hf] at hm; cases hm
   |some p=>
    obtain⟨j,mm⟩:=p
    obtain⟨d,u,hd,hu,_⟩:=CV hc hk hf
    simp only[AO,yT,yU,Option.map_some,Option.getD_some,aH,List.getElem?_cons_zero,List.getElem?_cons_succ,qB]
    rw[aF (aI hd),uX]
    simp only[nD,if_true]
    rw[aF (aI hu),aF (aI hk),uh,uh]
    simp only[bM,hc,hd,Option.bind_some,hk,hu,Option.map_some,Option.getD_some]
    obtain⟨r1,r2⟩:=Eb (CG c (List.mem_of_getElem? hc)) (List.mem_of_getElem? hk)
    rw[wrap64 (by omega)]
    have e:(u.r !=4 - s.r)=(s.r+u.r !=4):=by
     rw[Bool.eq_iff_iff,bne_iff_ne,bne_iff_ne]; omega
    rw[e]
 · rw[JM,decide_eq_false (by rw[List.length_map]; omega)]; rfl
theorem adA {M i:Nat} {t:List Cf} {c:Cf} (hM:big+90≤M) (ht:dN Cf.ok t) (hc:t[i]? =some c) (hk2:lG t (nM t)=none):aB env (M+1) 37 [.sl 6 (t.map Cf.t),i64 i,i64 4]= .ok (.bool (sG t (rX t) i)):=by
 obtain⟨m,rfl⟩:=gV (show 1≤M by omega)
 have hb:=ht.1
 have hbg:=bH
 have hi:=(List.getElem?_eq_some_iff.1 hc).1
 have hsl:=(ht.2 _ (List.mem_of_getElem? hc)).s.1
 refine yH (by omega) ht hc rfl (by decide) (by decide) (fun k s hk=>?_) ?_
 · have hkl:=(List.getElem?_eq_some_iff.1 hk).1
   rw[JO,decide_eq_true (by rw[List.length_map]; omega),cond_true,aV (Hr (by omega) ht (fQ (by omega)) (fQ (by omega))),wrap_succ (show k≤big by omega)]
   have hm:=pJ hk2 hc hk
   unfold rX
   unfold nM at hm
   cases hf:iE t i k with
   |none=>rw[hf] at hm; cases hm
   |some p=>
    obtain⟨j,mm⟩:=p
    obtain⟨d,u,hd,hu,_⟩:=CV hc hk hf
    simp only[AO,yT,yU,Option.map_some,Option.getD_some,aH,List.getElem?_cons_zero,List.getElem?_cons_succ,qB]
    rw[aF (aI hd),dM (acv (by omega) (ht.2 _ (List.mem_of_getElem? hc)) (ht.2 _ (List.mem_of_getElem? hd)))]
    simp only[hc,hd]
 · rw[JO,decide_eq_false (by rw[List.length_map]; omega)]; rfl
theorem oP {m e:Nat} {err:Int} {t:List Cf} {w:Nat→Bool} (hM:big+70≤m) (ht:dN Cf.ok t) (he:e < 5) (hget:[i64 2,i64 7,i64 8,i64 9,i64 10].getD e T.dh=i64 err) (hw:∀ i,i < t.length→aB env m 37 [.sl 6 (t.map Cf.t),i64 i,i64 e]= .ok (.bool (w i))):
 aT env m 17 0 7 (sJc t e)=match dH w 0 t.length with|some i=> .ok (.ret,⟨slots 44 [(2,.t (i64 (i:Int))),(3,.t (i64 err))],[]⟩)|none=> .ok (.norm,sJc t (e+1:Nat)):=by
 have hb:=ht.1
 rw[aaB,decide_eq_true (by omega),cond_true]
 have it:=fZ (B:=kE env m 17 0 7 10) (S:=fun i=>ael t e i) (R:=fun i=>⟨slots 44 [(2,.t (i64 (i:Int))),(3,.t (i64 err))],[]⟩) (X:=sJc t e) (id:=2) w t.length 0 m (by omega)
  (fun i _ hi hp=>by
   rw[DV,decide_eq_true (by rw[List.length_map]; omega),cond_true,dM (hw i (by omega)),hp,cond_true,decide_eq_true (by omega),decide_eq_true (by omega),Int.toNat_natCast,hget]; rfl)
  (fun i _ hi hp=>by
   rw[DV,decide_eq_true (by rw[List.length_map]; omega),cond_true,dM (hw i (by omega)),hp,cond_false,wrap_succ (show i≤big by omega)]; rfl)
  (by rw[Nat.zero_add,DV,decide_eq_false (by rw[List.length_map]; omega)]; rfl)
 cases hk:dH w 0 t.length with
 |some j=>rw[hk] at it; exact(iW it).trans (Jt m j err)
 |none=>
  rw[hk] at it
  refine(iW it).trans ((FW m t e).trans ?_)
  rw[wrap_succ (show e≤big by have:=bH; omega)]; rfl
theorem acd {M:Nat} {t:List Cf} (hM:big+92≤M) (ht:dN Cf.ok t):aB env (M+1) 17 [.sl 6 (t.map Cf.t)]= .ok (.ak [i64 ((kY t).1:Int),i64 (kY t).2]):=by
 have hb:=ht.1
 have hbg:=bH
 obtain⟨m,rfl⟩:∃ m,M=m+8:=⟨M - 8,by omega⟩
 rw[q17,dA (jD (jR ht))]
 unfold kY
 by_cases h0:t.length=0
 · rw[if_pos h0,beq_iff_eq.2 (show((t.map Cf.t).length:Int)=0 by rw[List.length_map]; omega)]; rfl
 rw[if_neg h0,beq_eq_false_iff_ne.2 (show((t.map Cf.t).length:Int)≠0 by rw[List.length_map]; omega),cond_false]
 by_cases h8:8 < t.length
 · rw[if_pos h8,decide_eq_true (show((t.map Cf.t).length:Int) > 8 by rw[List.length_map]; omega)]; rfl
 rw[if_neg h8,decide_eq_false (show ¬ ((t.map Cf.t).length:Int) > 8 by rw[List.length_map]; omega),cond_false]
 have ck:∀ {β:Type} (K:aj β),jk (T.DC 1) [i64 2,i64 7,i64 8,i64 9,i64 10] K=K:=fun K=>rfl
 rw[ck]
 have hc:∀ i,i < t.length→t[i]? =some t[i]! :=fun i hi=>by rw[List.getElem?_eq_getElem hi,getElem!_pos t i hi]
 have r0:=oP (m:=m+8) (e:=0) (err:=2) (w:=xk t) (by omega) ht (by decide) rfl fun i hi=>adw (by omega) ht (hc i hi)
 cases hk0:dH (xk t) 0 t.length with
 |some i=>rw[hk0] at r0; exact(aN (iV r0)).trans (sO (m+8) i 2)
 |none=>
 rw[hk0] at r0
 have CG:∀ c∈t,dZ c=true:=fun c hc=>by
  obtain⟨i,hi,rfl⟩:=List.getElem_of_mem hc
  have:=iI hk0 i (Nat.zero_le _) (by omega)
  unfold xk at this
  rw[List.getElem?_eq_getElem hi] at this
  simpa using this
 have r1:=oP (m:=m+8) (e:=1) (err:=7) (w:=o8 t) (by omega) ht (by decide) rfl fun i hi=>adx (by omega) ht (hc i hi)
 cases hk1:dH (o8 t) 0 t.length with
 |some i=>rw[hk1] at r1; exact(aN ((bJ r0).trans (iV r1))).trans (sO (m+8) i 7)
 |none=>
 rw[hk1] at r1
 have r2:=oP (m:=m+8) (e:=2) (err:=8) (w:=sG t (nM t)) (by omega) ht (by decide) rfl fun i hi=>ady (by omega) ht (hc i hi)
 have e2:lG t (nM t)=dH (sG t (nM t)) 0 t.length:=rfl
 cases hk2:lG t (nM t) with
 |some i=>rw[←e2,hk2] at r2; exact(aN ((bJ r0).trans ((bJ r1).trans (iV r2)))).trans (sO (m+8) i 8)
 |none=>
 rw[←e2,hk2] at r2
 have r3:=oP (m:=m+8) (e:=3) (err:=9) (w:=sG t (rY t)) (by omega) ht (by decide) rfl fun i hi=>adz (by omega) ht (hc i hi) CG hk2
 have e3:lG t (rY t)=dH (sG t (rY t)) 0 t.length:=rfl
 cases hk3:lG t (rY t) with
 |some i=>rw[←e3,hk3] at r3; exact(aN ((bJ r0).trans ((bJ r1).trans ((bJ r2).trans (iV r3))))).trans (sO (m+8) i 9)
 |none=>
 rw[←e3,hk3] at r3
 have r4:=oP (m:=m+8) (e:=4) (err:=10) (w:=sG t (rX t)) (by omega) ht (by decide) rfl fun i hi=>adA (by omega) ht (hc i hi) hk2
 have e4:lG t (rX t)=dH (sG t (rX t)) 0 t.length:=rfl
 cases hk4:lG t (rX t) with
 |some i=>rw[←e4,hk4] at r4; exact(aN ((bJ r0).trans ((bJ r1).trans ((bJ r2).trans ((bJ r3).trans (iV r4)))))).trans (sO (m+8) i 10)
 |none=>
 rw[←e4,hk4] at r4
 have r5:aT env (m+8) 17 0 7 (sJc t (4+1:Nat))= .ok (.exit 0,⟨slots 44 [(0,.t (.sl 6 (t.map Cf.t)))],[]⟩):=by rw[aaB]; rfl
 refine(aN ((bJ r0).trans ((bJ r1).trans ((bJ r2).trans ((bJ r3).trans ((bJ r4).trans (iH r5))))))).trans ((LX (m+8) t).trans ?_)
 rw[aV (Ua (by omega) ht)]
 cases nN t<;>rfl
end
section
open Go.RowKit Go.Proofs
variable [Lv]
theorem ahl (N:Nat) (t:List Cf) (a i k:Int) (Kc:St→aj T):Oj env N 3 0 8 (qX env 3 [.t (.sl 6 (t.map Cf.t)),.t (i64 a),.t (i64 i),.t (i64 k)]) Kc=cl N 10 [] fun x=>cl N 11 [T.sl 6 (List.map Cf.t t)] fun x_1=>bT x_1 fun b=>bif !b then aj.ok x else cl N 12 [T.sl 6 (List.map Cf.t t),i64 a] fun x_2=>aH x_2 0 fun y=>aH x_2 1 fun y_1=>cl N 13 [T.sl 6 (List.map Cf.t t),i64 a] fun x_3=>aH x_3 0 fun sZ=>aH x_3 1 fun Cc=>cl N 14 [T.sl 6 (List.map Cf.t t),i64 i,i64 k] fun x_4=>aH x_4 0 fun Qq=>aH x_4 1 fun UK=>aH x_4 2 fun y_6=>cl N 15 [T.sl 6 (List.map Cf.t t),i64 i,i64 k] fun x_5=>aH x_5 0 fun y_7=>aH x_5 1 fun y_8=>aH x_5 2 fun y_9=>Kc {tmps:=[PV.t (T.sl 6 (List.map Cf.t t)),PV.t (i64 a),PV.t (i64 i),PV.t (i64 k),PV.ak [],PV.ak [],PV.ak [],PV.ak [],PV.t (T.bool false),PV.t x,PV.t y,PV.t y_1,PV.t sZ,PV.t Cc,PV.t Qq,PV.t UK,PV.t y_6,PV.t y_7,PV.t y_8,PV.t y_9,PV.ak [],PV.ak [],PV.ak [],PV.ak [],PV.ak [],PV.ak [],PV.ak [],PV.ak [],PV.t x,PV.t (T.sl 6 (List.map Cf.t t)),PV.t x_1,PV.t (T.bool !b),PV.ak [],PV.t x_2,PV.t (T.sl 6 (List.map Cf.t t)),PV.t (i64 a),PV.t x_2,PV.t y,PV.t y_1,PV.t x_3,PV.t (T.sl 6 (List.map Cf.t t)),PV.t (i64 a),PV.t x_3,PV.t sZ,PV.t Cc,PV.t x_4,PV.t (T.sl 6 (List.map Cf.t t)),PV.t (i64 i),PV.t (i64 k),PV.t x_4,PV.t Qq,PV.t UK,PV.t y_6,PV.t x_5,PV.t (T.sl 6 (List.map Cf.t t)),PV.t (i64 i),PV.t (i64 k),PV.t x_5,PV.t y_7,PV.t y_8,PV.t y_9,PV.ak [],PV.ak [],PV.ak [],PV.ak [],PV.ak [],PV.ak [],PV.ak [],PV.ak [],PV.ak [],PV.ak [],PV.ak [],PV.ak [],PV.ak [],PV.ak [],PV.ak [],PV.ak [],PV.ak [],PV.ak [],PV.ak [],PV.ak [],PV.ak [],PV.ak [],PV.ak [],PV.ak [],PV.ak [],PV.ak [],PV.ak [],PV.ak [],PV.ak [],PV.ak [],PV.ak [],PV.ak [],PV.ak [],PV.ak [],PV.ak [],PV.ak [],PV.ak [],PV.ak [],PV.ak [],PV.ak [],PV.ak [],PV.ak [],PV.ak [],PV.ak [],PV.ak [],PV.ak [],PV.ak [],PV.ak [],PV.ak [],PV.ak [],PV.ak [],PV.ak [],PV.ak [],PV.ak [],PV.ak [],PV.ak [],PV.ak [],PV.ak [],PV.ak [],PV.ak [],PV.ak [],PV.ak [],PV.ak [],PV.ak [],PV.ak [],PV.ak [],PV.ak [],PV.ak [],PV.ak [],PV.ak [],PV.ak [],PV.ak [],PV.ak [],PV.ak [],PV.ak [],PV.ak [],PV.ak [],PV.ak []],heap:=[]}:=by kernel_rfl
def Wi (t:List Cf) (a i k:Int) (b c:Bool) (d:Nat→PV):St:=⟨[.t (.sl 6 (t.map Cf.t)),d 1,d 2,d 3,d 4,d 5,d 6,d 7,d 8,.t (.bool true),.t (i64 a),.t (.bool b),.t (i64 a),.t (.bool b),.t (i64 i),.t (i64 k),.t (.bool c),.t (i64 i),.t (i64 k),.t (.bool c),d 20,d 21,d 22,d 23,d 24,d 25,d 26,d 27,d 28,d 29,d 30,d 31,d 32,d 33,d 34,d 35,d 36,d 37,d 38,d 39,d 40,d 41,d 42,d 43,d 44,d 45,d 46,d 47,d 48,d 49,d 50,d 51,d 52,d 53,d 54,d 55,d 56,d 57,d 58,d 59,d 60,d 61,d 62,d 63,d 64,d 65,d 66,d 67,d 68,d 69,d 70,d 71,d 72,d 73,d 74,d 75,d 76,d 77,d 78,d 79,d 80,d 81,d 82,d 83,d 84,d 85,d 86,d 87,d 88,d 89,d 90,d 91,d 92,d 93,d 94,d 95,d 96,d 97,d 98,d 99,d 100,d 101,d 102,d 103,d 104,d 105,d 106,d 107,d 108,d 109,d 110,d 111,d 112,d 113,d 114,d 115,d 116,d 117,d 118,d 119,d 120,d 121,d 122,d 123,d 124,d 125,d 126,d 127,d 128,d 129,d 130,d 131,d 132,d 133,d 134,d 135,d 136,d 137,d 138],[]⟩
def TK (t:List Cf) (i k:Int) (d:Nat→PV):St:=⟨[.t (.sl 6 (t.map Cf.t)),d 1,d 2,d 3,d 4,d 5,d 6,d 7,d 8,.t (.bool true),d 10,d 11,d 12,d 13,d 14,d 15,d 16,d 17,d 18,d 19,.t (i64 i),.t (i64 k),.t (i64 i),.t (i64 k),d 24,d 25,d 26,d 27,d 28,d 29,d 30,d 31,d 32,d 33,d 34,d 35,d 36,d 37,d 38,d 39,d 40,d 41,d 42,d 43,d 44,d 45,d 46,d 47,d 48,d 49,d 50,d 51,d 52,d 53,d 54,d 55,d 56,d 57,d 58,d 59,d 60,d 61,d 62,d 63,d 64,d 65,d 66,d 67,d 68,d 69,d 70,d 71,d 72,d 73,d 74,d 75,d 76,d 77,d 78,d 79,d 80,d 81,d 82,d 83,d 84,d 85,d 86,d 87,d 88,d 89,d 90,d 91,d 92,d 93,d 94,d 95,d 96,d 97,d 98,d 99,d 100,d 101,d 102,d 103,d 104,d 105,d 106,d 107,d 108,d 109,d 110,d 111,d 112,d 113,d 114,d 115,d 116,d 117,d 118,d 119,d 120,d 121,d 122,d 123,d 124,d 125,d 126,d 127,d 128,d 129,d 130,d 131,d 132,d 133,d 134,d 135,d 136,d 137,d 138],[]⟩
theorem ahm (N:Nat) (t:List Cf) (a i k:Int) (b c:Bool) (d:Nat→PV) (Kc:St→aj T):Oj env N 3 8 4 (Wi t a i k b c d) Kc=bif a !=a then rB false else bif !(b==b&&true) then rB false else bif i !=i then rB false else bif k !=k then rB false else bif !(c==c&&true) then rB false else cl N 16 [T.sl 6 (List.map Cf.t t)] fun x=>aH x 0 fun y=>aH x 1 fun y_1=>cl N 17 [T.sl 6 (List.map Cf.t t)] fun x_1=>aH x_1 0 fun sZ=>aH x_1 1 fun Cc=>Kc {tmps:=[PV.t (T.sl 6 (List.map Cf.t t)),d 1,d 2,d 3,d 4,d 5,d 6,d 7,d 8,PV.t (T.bool true),PV.t (i64 a),PV.t (T.bool b),PV.t (i64 a),PV.t (T.bool b),PV.t (i64 i),PV.t (i64 k),PV.t (T.bool c),PV.t (i64 i),PV.t (i64 k),PV.t (T.bool c),PV.t y,PV.t y_1,PV.t sZ,PV.t Cc,d 24,d 25,d 26,d 27,d 28,d 29,d 30,d 31,d 32,d 33,d 34,d 35,d 36,d 37,d 38,d 39,d 40,d 41,d 42,d 43,d 44,d 45,d 46,d 47,d 48,d 49,d 50,d 51,d 52,d 53,d 54,d 55,d 56,d 57,d 58,d 59,d 60,PV.t (i64 a),PV.t (i64 a),PV.t (T.bool (a !=a)),PV.t (T.bool false),PV.t (T.bool b),PV.t (T.bool b),PV.t (T.bool !(b==b&&true)),PV.t (T.bool !(b==b&&true)),PV.t (T.bool false),PV.t (i64 i),PV.t (i64 i),PV.t (T.bool (i !=i)),PV.t (T.bool (i !=i)),PV.t (T.bool false),PV.t (i64 k),PV.t (i64 k),PV.t (T.bool (k !=k)),PV.t (T.bool (k !=k)),PV.t (T.bool false),PV.t (T.bool c),PV.t (T.bool c),PV.t (T.bool !(c==c&&true)),PV.t (T.bool !(c==c&&true)),PV.t x,PV.t (T.sl 6 (List.map Cf.t t)),PV.t x,PV.t y,PV.t y_1,PV.t x_1,PV.t (T.sl 6 (List.map Cf.t t)),PV.t x_1,PV.t sZ,PV.t Cc,d 94,d 95,d 96,d 97,d 98,d 99,d 100,d 101,d 102,d 103,d 104,d 105,d 106,d 107,d 108,d 109,d 110,d 111,d 112,d 113,d 114,d 115,d 116,d 117,d 118,d 119,d 120,d 121,d 122,d 123,d 124,d 125,d 126,d 127,d 128,d 129,d 130,d 131,d 132,d 133,d 134,d 135,d 136,d 137,d 138],heap:=[]}:=by kernel_rfl
theorem ae4 (N:Nat) (t:List Cf) (i k:Int) (d:Nat→PV):zD env N 3 12 (TK t i k d)=bif decide ((↑(List.map Cf.t t).length:Int) > 8) then bif i==i then rB (k==k) else rB false else cl N 18 [T.sl 6 (List.map Cf.t t)] fun x=>aH x 0 fun y=>aH x 1 fun y_1=>cl N 19 [T.sl 6 (List.map Cf.t t)] fun x=>aH x 0 fun sZ=>aH x 1 fun Cc=>bif i==i then bif k==k then iT IntKind.i64 y fun a=>iT IntKind.i64 sZ fun b=>bif a==b then match T.fA [1] [y_1] [Cc] with|some b=>rB b|none=>aj.stuck else rB false else rB false else rB false:=by kernel_rfl
end
section
open Go.RowKit Go.Proofs
theorem OC {t:List Cf} (h:Cm t=true):pY t:=fun c hc=>by
 unfold Cm at h
 simp only[Bool.and_eq_true,List.all_eq_true,decide_eq_true_eq] at h
 have:=h.1 c hc
 unfold vI at this
 simp only[Bool.and_eq_true,decide_eq_true_eq] at this
 have hb:=bH
 omega
theorem Po {m:Nat} {t:List Cf} {i k:Int} {d:Nat→PV} (hM:big+110≤m) (ht:dN Cf.ok t) (hr:pY t):zD env m 3 12 (TK t i k d)= .ok (.bool true):=by
 obtain⟨m,rfl⟩:=gV (show 1≤m by omega)
 refine(ae4 (m+1) t i k d).trans ?_
 rw[beq_self_eq_true,beq_self_eq_true]
 cases decide (((t.map Cf.t).length:Int) > 8) with
 |true=>rfl
 |false=>
  rw[cond_false,aV (Nu ht hr)]
  simp only[wM,aH,List.getElem?_cons_zero,List.getElem?_cons_succ]
  rw[aV (Ua (by omega) ht)]
  simp only[wM,aH,List.getElem?_cons_zero,List.getElem?_cons_succ,cond_true,bM]
  rw[beq_self_eq_true]
  simp only[T.fA,cond_true,Option.map_some,beq_self_eq_true,Bool.and_true]
theorem Pq {m:Nat} {t:List Cf} {a i k:Int} {b c:Bool} {d:Nat→PV} (hM:big+110≤m) (ht:dN Cf.ok t) (hr:pY t):zD env m 3 8 (Wi t a i k b c d)= .ok (.bool true):=by
 obtain⟨n,rfl⟩:=gV (show 1≤m by omega)
 refine(GR 4).trans ?_
 have key:∀ Kc:St→aj T,(∀ (x y:Int) (st:St),st=TK t x y (fun i=>st.tmps.getD i .junk)→Kc st= .ok (.bool true))→
  Oj env (n+1) 3 8 4 (Wi t a i k b c d) Kc= .ok (.bool true):=fun Kc hKc=>?_
 · exact key _ fun x y st hst=>by rw[hst]; exact Po (by omega) ht hr
 refine(ahm (n+1) t a i k b c d Kc).trans ?_
 have e1:∀ x:Int,(x !=x)=false:=fun x=>by simp
 rw[e1,e1,e1]
 have e2:∀ b:Bool,(!(b==b&&true))=false:=fun b=>by cases b<;>rfl
 rw[e2,e2]
 simp only[cond_false]
 rw[aV (rM (by omega) ht hr)]
 simp only[aH,List.getElem?_cons_zero,List.getElem?_cons_succ]
 rw[aV (acd (by omega) ht)]
 simp only[aH,List.getElem?_cons_zero,List.getElem?_cons_succ]
 exact hKc _ _ _ rfl
theorem aeT {M:Nat} {t:List Cf} {a i k:Int} (hM:big+120≤M) (ht:dN Cf.ok t) (ha:aS a=true) (hi:aS i=true) (hk:aS k=true):aB env (M+1) 3 [.sl 6 (t.map Cf.t),i64 a,i64 i,i64 k]= .ok (.bool true):=by
 obtain⟨m,rfl⟩:=gV (show 1≤M by omega)
 have hw:T.wfs [.sl 6 (t.map Cf.t),i64 a,i64 i,i64 k]=true:=by
  have h1:=jR ht; have h2:=bC ha; have h3:=bC hi; have h4:=bC hk
  simp only[T.wfs,h1,h2,h3,h4,Bool.and_self]
 refine(Oz rfl hw).trans ?_
 refine(GR 8).trans ?_
 have key:∀ Kc:St→aj T,(pY t→∀ (a i k:Int) (b c:Bool) (st:St),st=Wi t a i k b c (fun i=>st.tmps.getD i .junk)→Kc st= .ok (.bool true))→
  Oj env (m+1) 3 0 8 (qX env 3 [.t (.sl 6 (t.map Cf.t)),.t (i64 a),.t (i64 i),.t (i64 k)]) Kc= .ok (.bool true):=fun Kc hKc=>?_
 · exact key _ fun hr a i k b c st hst=>by rw[hst]; exact Pq (by omega) ht hr
 refine(ahl (m+1) t a i k Kc).trans ?_
 rw[aV (Nr (by omega)),aV (TY (by omega) ht)]
 simp only[WO]
 cases hf:Cm t with
 |false=>rfl
 |true=>
  simp only[Bool.not_true,cond_false]
  rw[aV (Hq (by omega) ht ha)]
  simp only[aH,List.getElem?_cons_zero,List.getElem?_cons_succ]
  rw[aV (Ns (by omega) ht ha)]
  simp only[aH,List.getElem?_cons_zero,List.getElem?_cons_succ]
  rw[aV (Dl (by omega) ht hi hk)]
  simp only[AO,aH,List.getElem?_cons_zero,List.getElem?_cons_succ]
  rw[aV (Hr (by omega) ht hi hk)]
  simp only[AO,aH,List.getElem?_cons_zero,List.getElem?_cons_succ]
  exact hKc (OC hf) _ _ _ _ _ _ rfl
end
end Go.aO
