/- The texts of a proof, one behind the other: an interpreter and its soundness, what the functions of the program answer, and plain laws on that. -/
import Derived.Test.YtjlpnhpfbgbkhaaGreatX10
import Derived.Test.YtjlpnhpfbgbkhaaGreatX2
import Derived.Test.YtjlpnhpfbgbkhaaGreatK9
import Derived.Test.YtjlpnhpfbgbkhaaGreatK10
import Derived.Test.YtjlpnhpfbgbkhaaGreatX5
import Derived.Test.YtjlpnhpfbgbkhaaGreatX1
set_option linter.unusedVariables false
set_option linter.unusedSimpArgs false
set_option linter.unnecessarySimpa false
set_option linter.unusedSectionVars false
set_option maxRecDepth 100000
namespace Go.aP
section
open Go.RowKit Go.Proofs
variable [Lv]
def sO (i:Nat):Cf:=⟨65001+(i:Int),167772161+(i:Int),90,1000,[],[]⟩
def aqo (own:List Px) (l:List Lk) (m i:Nat):List (Nat×PV):=[(1,.t (.sl 2 (own.map Px.t))),(2,.t (.sl 3 (l.map Lk.t))),(7,.ptr 0 0),(19,.t (i64 m)),(20,.t (i64 i))]
def YI (own:List Px) (l:List Lk) (m i:Nat) (H:List ah) (d:Nat→PV):St:=⟨zT 153 d (aqo own l m i),H⟩
def ajN (m:Nat) (t:List Cf) (W:List T):List ah:=(fO m t []).set 1 (.vec 56 6 m ((BU 2 t++zW (m - t.length)).set (6*(t.length - 1)+4) (.full 2 W)))
def akF (own:List Px) (l:List Lk) (m i:Nat) (H:List ah):St:=⟨slots 153 [(1,.t (.sl 2 (own.map Px.t))),(2,.t (.sl 3 (l.map Lk.t))),(7,.ptr 0 0),(8,.t (i64 i)),(19,.t (i64 m)),(20,.t (i64 i)),(41,.t (.bool true)),(42,.own 1),(43,.t (i64 i)),(44,.t (.sl 2 (own.map Px.t))),(45,.t (i64 i)),(46,.t (i64 i)),(47,.t (i64 ((i+1:Nat):Int))),(48,.t (i64 i)),(49,.t (i64 ((i+1:Nat):Int))),(50,.full 2 (((own.map Px.t).take (i+1)).drop i)),(51,.ig 1 6 i 0),(52,.ig 1 6 i 4)],H⟩
def adQ (t:List Cf) (W:List Px):List Cf:=t.take (t.length - 1)++(t.drop (t.length - 1)).map fun c=>{c with w:=W}
noncomputable def op5:Array Oper:=iU env 32 [3,2] 1
noncomputable def op8:Array Oper:=iU env 32 [3] 3
structure Yc (N:Nat) (own:List Px) (l:List Lk) (m:Nat) (t0:List Cf):Prop where
 n1:(bf env (aK env N) op5 (op5.toList.map fun o=>(o,false)) (NG own l m t0.length (fO m t0 [])) fun s=>(.ok s:aj St)).bind (fun s=>(.ok ⟨dP [1,2,7,8,19,20] s.tmps,qV 1 (6*t0.length+4) (Eh 1 (6*t0.length+5) s.heap)⟩:aj St))= .ok (NG own l m t0.length (fO m (t0++ [sO t0.length]) []))
structure Yd (N:Nat) (own:List Px) (l:List Lk) (m i:Nat) (t:List Cf):Prop where
 n3:dO env N 32 [3,2] 3 1 (anM own l m i (fO m t []))=chk (decide ((0:Int)≤((i+1:Nat):Int))&&decide (((i+1:Nat):Int)≤(((own.map Px.t).length:Nat):Int))) (.ok (.norm,akF own l m i (ajN m t (((own.map Px.t).take (i+1)).drop i))))
 n4:∀ (W:List Px) (d:Nat→PV),(bf env (aK env N) op8 (op8.toList.map fun o=>(o,false)) (YI own l m i (ajN m t (W.map Px.t)) d) fun s=>(.ok s:aj St)).bind (fun s=>(.ok ⟨dP [1,2,7,19,20] s.tmps,qV 1 (6*i+4) s.heap⟩:aj St))= .ok (sG1 own l m (adQ t W))
 n6:∀ (d:Nat→PV),(bf env (aK env N) op8 (op8.toList.map fun o=>(o,false)) (YI own l m i (fO m t []) d) fun s=>(.ok s:aj St)).bind (fun s=>(.ok ⟨dP [1,2,7,19,20] s.tmps,qV 1 (6*i+4) s.heap⟩:aj St))= .ok (sG1 own l m t)
 n5:canon 0 (dX env 32 [] 3).1 (sG1 own l m t)=sG1 own l m t
theorem aoo (N:Nat) (own:List Px) (l:List Lk):Yc N own l 3 []:=⟨by kernel_rfl⟩
theorem aor (N:Nat) (own:List Px) (l:List Lk) (c0:Cf):Yd N own l 3 0 [c0]:=⟨by kernel_rfl,fun W d=>by kernel_rfl,fun d=>by kernel_rfl,by kernel_rfl⟩
theorem aop (N:Nat) (own:List Px) (l:List Lk) (c0:Cf):Yc N own l 3 [c0]:=⟨by kernel_rfl⟩
theorem aos (N:Nat) (own:List Px) (l:List Lk) (c0 c1:Cf):Yd N own l 3 1 [c0,c1]:=⟨by kernel_rfl,fun W d=>by kernel_rfl,fun d=>by kernel_rfl,by kernel_rfl⟩
theorem aoq (N:Nat) (own:List Px) (l:List Lk) (c0 c1:Cf):Yc N own l 3 [c0,c1]:=⟨by kernel_rfl⟩
theorem aot (N:Nat) (own:List Px) (l:List Lk) (c0 c1 c2:Cf):Yd N own l 3 2 [c0,c1,c2]:=⟨by kernel_rfl,fun W d=>by kernel_rfl,fun d=>by kernel_rfl,by kernel_rfl⟩
theorem aov {N:Nat} {own:List Px} {l:List Lk}:∀ {m:Nat} {t:List Cf},t.length < m→m=3→Yc N own l m t
 |_,[],_,rfl=>aoo N own l
 |_,[c0],_,rfl=>aop N own l c0
 |_,[c0,c1],_,rfl=>aoq N own l c0 c1
 |_,_::_::_::_,h,rfl=>by simp at h<;>omega
theorem ajX {N:Nat} {own:List Px} {l:List Lk}:∀ {m i:Nat} {t:List Cf},t.length=i+1→t.length≤m→m=3→Yd N own l m i t
 |_,_,[c0],h,_,rfl=>by cases h; exact aor N own l c0
 |_,_,[c0,c1],h,_,rfl=>by cases h; exact aos N own l c0 c1
 |_,_,[c0,c1,c2],h,_,rfl=>by cases h; exact aot N own l c0 c1 c2
 |_,_,_::_::_::_::_,_,h,rfl=>by simp at h<;>omega
 |_,_,[],h,_,_=>by simp at h
end
section
open Go.RowKit
section
variable {E:Env} {n:Nat} {f:FuncId} {p:List Nat}
end
end
section
open Go.RowKit Go.Proofs
theorem jf.aoL {E:Env} {rc:Caller} {ops:Array Oper} (hrc:rc.Nat) (hc:fE E rc) {id:Nat} {st s':St} {Q:St→Prop} {live:List Nat} {g:List ah→List ah} (h:(bf E rc ops (ops.toList.map fun o=>(o,false)) st (fun s=>(.ok s:aj St))).bind (fun s=>(.ok ⟨dP live s.tmps,g s.heap⟩:aj St))= .ok s')
 (hg:∀ tm H,fB ⟨tm,H⟩ ⟨tm,g H⟩) (hQ:Q s'):jf E (.region id ops false) st Q:=by
 obtain⟨s1,h1,h2⟩:=bK h
 simp only[aj.ok.injEq] at h2
 refine jf.turn (Q':=fun s=>s=s1) (jf.run hrc hc h1 rfl) fun s hs=>?_
 subst hs
 exact⟨s',h2 ▸ (fB.keep live s.tmps s.heap).trans (hg _ _),hQ⟩
theorem ajT {c:Code} (h:drC c=false):∃ id,c= .region id (akv c) false:=by
 cases c with
 |region id ops dr=>simp only[drC] at h; subst h; exact⟨id,rfl⟩
 |_=>cases h
theorem rX {E:Env} {n:Nat} {f:FuncId} {p:List Nat} (he:nO E) {i:Nat} {st s':St} {Q:Ex→St→Prop} {live:List Nat} {g:List ah→List ah} (hd:drC ((aN E f p).getD i .skip)=false) (hl:i < (aN E f p).length)
 (h:(bf E (aK E n) (iU E f p i) ((iU E f p i).toList.map fun o=>(o,false)) st (fun s=>(.ok s:aj St))).bind (fun s=>(.ok ⟨dP live s.tmps,g s.heap⟩:aj St))= .ok s') (hg:∀ tm H,fB ⟨tm,H⟩ ⟨tm,g H⟩) (hQ:ay E n f p (i+1) s' Q):ay E n f p i st Q:=by
 obtain⟨n1,n2⟩:=yX he n
 have hc:fE E (aK E n):=uj he n1 n2
 obtain⟨id,e⟩:=ajT hd
 have hp:(aN E f p)[i]? =some (.region id (iU E f p i) false):=by
  rw[List.getD_eq_getElem?_getD,List.getElem?_eq_getElem hl] at e
  rw[List.getElem?_eq_getElem hl]
  simp only[Option.getD_some] at e
  rw[e]
  unfold iU
  rw[List.getD_eq_getElem?_getD,List.getElem?_eq_getElem hl]
  simp only[Option.getD_some]
 exact G8 hp ⟨_,_,_,rfl⟩ (jf.aoL n1 hc h hg hQ)
theorem Sr {E:Env} {n:Nat} {f:FuncId} {p:List Nat} {i:Nat} {st s:St} (hd:drC ((aN E f p).getD i .skip)=false) (hl:i < (aN E f p).length) (h:dO E n f p i 1 st= .ok (.norm,s)):bf E (aK E n) (iU E f p i) ((iU E f p i).toList.map fun o=>(o,false)) st (fun s=>(.ok s:aj St))= .ok s:=by
 obtain⟨id,e⟩:=ajT hd
 have hp:(aN E f p)[i]? =some (.region id (iU E f p i) false):=by
  rw[List.getD_eq_getElem?_getD,List.getElem?_eq_getElem hl] at e
  rw[List.getElem?_eq_getElem hl]
  simp only[Option.getD_some] at e
  rw[e]
  unfold iU
  rw[List.getD_eq_getElem?_getD,List.getElem?_eq_getElem hl]
  simp only[Option.getD_some]
 unfold dO at h
 rw[drop_one hp] at h
 have h:bf E (aK E n) (iU E f p i) ((iU E f p i).toList.map fun o=>(o,false)) st (fun s=>(.ok (.norm,s):aj (Ex×St)))= .ok (.norm,s):=h
 obtain⟨s1,h1,h2⟩:=Jk (fF E n) h
 simp only[aj.ok.injEq,Prod.mk.injEq,true_and] at h2
 rw[h1,h2]
theorem ZF {E:Env} {n:Nat} {f:FuncId} {p:List Nat} {i:Nat} {c:Operand} {a:Code} {st:St} (h:(aN E f p)[i]? =some (.cond c a .skip)) (hv:bP E.P st.tmps 0 c=some (.t (.bool false))):dO E n f p i 1 st= .ok (.norm,st):=by
 unfold dO
 rw[drop_one h]
 show dw E (aK E n) f (dU E f) n 0 (.cond c a .skip) st _=_
 simp only[dw,hv,aO,bT,cond_false]
 rfl
theorem Jt (tm:List PV) (H:List ah):fB ⟨tm,H⟩ ⟨tm,id H⟩:=fB.refl _
def XU (r:aj (Ex×St)):St:=match r with| .ok q=>q.2|_=>⟨[],[]⟩
def aoQ:Code→Code
 | .cond _ a _=>a
 |_=> .skip
variable [Lv]
def agK (own:List Px) (l:List Lk) (m i:Nat) (v:Bool) (H:List ah):St:=⟨slots 153 [(1,.t (.sl 2 (own.map Px.t))),(2,.t (.sl 3 (l.map Lk.t))),(7,.ptr 0 0),(8,.t (i64 i)),(19,.t (i64 m)),(20,.t (i64 i)),(41,.t (.bool v))],H⟩
def YH (own:List Px) (l:List Lk) (m:Nat) (t:List Cf) (b:Bool):St:=⟨slots 153 [(1,.t (.sl 2 (own.map Px.t))),(2,.t (.sl 3 (l.map Lk.t))),(7,.ptr 0 0),(19,.t (i64 m)),(20,.t (i64 t.length)),(21,.t (.bool b))],fO m t []⟩
theorem aaI (N:Nat) (own:List Px) (l:List Lk) (m:Nat) (t:List Cf):dO env N 32 [3] 0 2 (sG1 own l m t)=bif decide (((t.length:Nat):Int) < (m:Int)) then .ok (.norm,YH own l m t (decide (((t.length:Nat):Int) < (m:Int)))) else .ok (.exit 0,YH own l m t (decide (((t.length:Nat):Int) < (m:Int)))):=by kernel_rfl
theorem aoh (N:Nat) (own:List Px) (l:List Lk) (m:Nat) (t:List Cf) (b:Bool):(bf env (aK env N) (iU env 32 [3,2] 0) ((iU env 32 [3,2] 0).toList.map fun o=>(o,false)) (YH own l m t b) (fun s=>(.ok s:aj St))).bind (fun s=>(.ok ⟨dP [1,2,7,8,19,20] s.tmps,id s.heap⟩:aj St))= .ok (NG own l m t.length (fO m t [])):=by kernel_rfl
theorem Vd (own:List Px) (i:Nat):sQ own i={sO i with w:=Qg own i}:=rfl
theorem abR (t:List Cf) (c:Cf) (W:List Px):adQ (t++ [c]) W=t++ [{c with w:=W}]:=by
 unfold adQ
 rw[List.length_append,List.length_singleton,Nat.add_sub_cancel,List.take_left,List.drop_left]
 rfl
theorem aje (l i j:Nat) (tm:List PV) (H:List ah):fB ⟨tm,H⟩ ⟨tm,qV l i (Eh l j H)⟩:=(TY l j).trans (Dx l i)
theorem afg {N:Nat} (he:nO env) (hN:2≤N) {own:List Px} {l:List Lk} {m:Nat} {t:List Cf} {Q:Ex→St→Prop} (ho:bZ Px.ok own) (hm:m=3) (ht:t.length < m) (hQ:Q .norm (sG1 own l m (t++ [sQ own t.length]))):ay env N 32 [3] 0 (sG1 own l m t) Q:=by
 have hbg:=aQ
 have hol:=ho.1
 have h1:=aaI N own l m t
 rw[decide_eq_true (show((t.length:Nat):Int) < (m:Int) by omega)] at h1
 refine fD (e:= .norm) 2 h1 ?_
 refine oI (p:=[3]) (i:=2) (id:=1) (c:=gV ((aN env 32 [3]).getD 2 .skip)) (by kernel_rfl) (by kernel_rfl) ?_
 show ay env N 32 [3,2] 0 _ _
 refine rX (i:=0) he (by kernel_rfl) (of_decide_eq_true (by kernel_rfl)) (aoh N own l m t true) Jt ?_
 refine rX (i:=1) (g:=fun H=>qV 1 (6*t.length+4) (Eh 1 (6*t.length+5) H)) he (by kernel_rfl) (of_decide_eq_true (by kernel_rfl)) (aov (N:=N) (own:=own) (l:=l) ht hm).n1 (aje _ _ _) ?_
 have hlen:(t++ [sO t.length]).length=t.length+1:=by simp
 have hB:=ajX (N:=N) (own:=own) (l:=l) (i:=t.length) (t:=t++ [sO t.length]) hlen (by omega) hm
 have hend:∀ (H:List ah) (d:Nat→PV) (s:St),(bf env (aK env N) op8 (op8.toList.map fun o=>(o,false)) (YI own l m t.length H d) fun s=>(.ok s:aj St)).bind (fun s=>(.ok ⟨dP [1,2,7,19,20] s.tmps,qV 1 (6*t.length+4) s.heap⟩:aj St))= .ok s→Q .norm s→ay env N 32 [3] 3 (YI own l m t.length H d) Q:=fun H d s h hq=>by
  refine rX (i:=3) (g:=fun H=>qV 1 (6*t.length+4) H) he (by kernel_rfl) (of_decide_eq_true (by kernel_rfl)) h (fun tm H=>Dx _ _) ?_
  exact kW (by kernel_rfl) hq
 have e2:=asJ N own l m t.length (fO m (t++ [sO t.length]) [])
 have aj3:∀ v:Bool,dO env N 32 [3,2] 2 1 (NG own l m t.length (fO m (t++ [sO t.length]) []))= .ok (.norm,XU (dO env N 32 [3,2] 2 1 (NG own l m t.length (fO m (t++ [sO t.length]) []))))→dP [1,2,7,8,19,20,41] (XU (dO env N 32 [3,2] 2 1 (NG own l m t.length (fO m (t++ [sO t.length]) [])))).tmps=(agK own l m t.length v []).tmps→(XU (dO env N 32 [3,2] 2 1 (NG own l m t.length (fO m (t++ [sO t.length]) [])))).heap=fO m (t++ [sO t.length]) []→Qg own t.length=(if v then(match own[t.length]? with|some p=>[p]|none=>[]) else[])→(v=true→t.length < own.length)→
  ay env N 32 [3,2] 2 (NG own l m t.length (fO m (t++ [sO t.length]) [])) fun e st=>e.kP (ay env N 32 [3] (2+1) st Q) (fun j=>if j=1 then ay env N 32 [3] (2+1) st Q else Q (.exit j) st) (Q .ret st):=fun v h k1 k2 hw hv=>by
  have h5:=Sr (i:=2) (by kernel_rfl) (of_decide_eq_true (by kernel_rfl)) h
  refine rX (i:=2) (live:=[1,2,7,8,19,20,41]) (g:=id) (s':=agK own l m t.length v (fO m (t++ [sO t.length]) [])) he (by kernel_rfl) (of_decide_eq_true (by kernel_rfl)) (by rw[h5]; simp only[aj.bind_ok,k1,k2,id]; rfl) Jt ?_
  cases v with
  |false=>
   refine fD (e:= .norm) 1 (ZF (i:=3) (c:= .tmp 41) (a:=aoQ ((aN env 32 [3,2]).getD 3 .skip)) (by kernel_rfl) (by kernel_rfl)) (kW (by kernel_rfl) ?_)
   have hd:agK own l m t.length false (fO m (t++ [sO t.length]) [])=YI own l m t.length (fO m (t++ [sO t.length]) []) (dOf (agK own l m t.length false [])):=by kernel_rfl
   show ay env N 32 [3] 3 _ Q
   rw[hd]
   refine hend _ _ _ (hB.n6 _) ?_
   have:t++ [sQ own t.length]=t++ [sO t.length]:=by rw[Vd,hw]; rfl
   rw[this] at hQ; exact hQ
  |true=>
   have hi:=hv rfl
   have hp:own[t.length]? =some own[t.length]:=List.getElem?_eq_getElem hi
   have h3:=hB.n3
   have hdec:(decide ((0:Int)≤((t.length+1:Nat):Int))&&decide (((t.length+1:Nat):Int)≤(((own.map Px.t).length:Nat):Int)))=true:=by rw[decide_eq_true (by omega),decide_eq_true (by rw[List.length_map]; omega)]; rfl
   rw[hdec,aI] at h3
   have hys:((own.map Px.t).take (t.length+1)).drop t.length= [own[t.length]].map Px.t:=by
    rw[List.take_add_one,List.getElem?_map,hp]
    simp[List.drop_append,List.length_take,Nat.min_eq_left (Nat.le_of_lt hi)]
   refine fD (e:= .norm) 1 (show dO env N 32 [3,2] 3 1 (anM own l m t.length (fO m (t++ [sO t.length]) []))=_ from h3) (kW (by kernel_rfl) ?_)
   have hd:∀ H:List ah,akF own l m t.length H=YI own l m t.length H (dOf (akF own l m t.length [])):=fun H=>by kernel_rfl
   show ay env N 32 [3] 3 _ Q
   rw[hd,hys]
   refine hend _ _ _ (hB.n4 [own[t.length]] _) ?_
   rw[abR]
   rw[hp] at hw
   simp only[if_true] at hw
   rw[Vd,hw] at hQ
   exact hQ
 by_cases hi:t.length < own.length
 case neg=>
  have hw:Qg own t.length= []:=by unfold Qg; rw[List.getElem?_eq_none (by omega)]
  rw[decide_eq_false (by rw[List.length_map]; omega),cond_false] at e2
  refine aj3 false (by rw[e2]; rfl) (by rw[e2]; kernel_rfl) (by rw[e2]; rfl) hw (fun h=>by cases h)
 have hp:own[t.length]? =some own[t.length]:=List.getElem?_eq_getElem hi
 have hpo:=ho.2 _ (List.mem_of_getElem? hp)
 generalize own[t.length]=px at hp hpo
 obtain⟨n1,rfl⟩:∃ n1,N=n1+1:=⟨N - 1,by omega⟩
 rw[decide_eq_true (by rw[List.length_map]; omega),cond_true,aA (aC hp),aF (yD hpo (by omega))] at e2
 refine aj3 (dA px) (by rw[e2]; rfl) (by rw[e2]; kernel_rfl) (by rw[e2]; rfl) ?_ (fun _=>hi)
 unfold Qg
 rw[hp]
end
section
open Go.RowKit Go.Proofs
variable [Lv]
theorem asI (N:Nat) (c0 c1 c2:Cf) (l:List Lk) (j:Int) (b:Bool):(dO env (N+1) 32 [6,2] 0 3 ⟨slots 153 ((58,.t (.bool b))::BA l j),fO 3 [c0,c1,c2] []⟩)=bV (List.map Lk.t l) j fun e=>chk (e.cells.length==3&& !e.aV) (iT IntKind.i64 (e.ay 0 1 false) fun a=>bif decide (a≥0) then iT IntKind.i64 (e.ay 0 1 false) fun a=>bif !decide (a < 3) then aj.ok (Ex.exit 3,{tmps:=slots 153 [(7,PV.ptr 0 0),(9,PV.fn 71 [] [PV.ptr 0 0]),(11,PV.ptr 5 0),(55,PV.t (T.sl 3 (List.map Lk.t l))),(56,PV.t (i64 (↑(List.map Lk.t l).length:Int))),(57,PV.t (i64 j)),(58,PV.t (T.bool b)),(59,PV.rp 3 e 0),(60,PV.t e),(61,PV.fn 71 [] [PV.ptr 0 0]),(62,PV.ptr 5 0),(63,PV.t (e.ay 0 1 false)),(64,PV.t (T.bool (decide (a < 3)))),(65,PV.t (T.bool !decide (a < 3))),(66,PV.t (T.bool true)),(67,PV.au []),(68,PV.au []),(69,PV.au []),(70,PV.au []),(71,PV.au []),(72,PV.t (T.bool true)),(73,PV.t (T.bool true)),(74,PV.au []),(75,PV.au []),(76,PV.au []),(77,PV.au []),(78,PV.au []),(79,PV.t (T.bool true)),(80,PV.t (T.bool true)),(81,PV.au []),(82,PV.au []),(83,PV.au []),(84,PV.t (T.bool true)),(85,PV.t (T.bool true)),(86,PV.au []),(87,PV.au []),(88,PV.au []),(89,PV.t (T.bool true))],heap:=fO 3 [c0,c1,c2] [.box 67 3 (.t e)]}) else iT IntKind.i64 (e.ay 1 1 false) fun a_1=>bif decide (a_1≥0) then iT IntKind.i64 (e.ay 1 1 false) fun a_2=>bif !decide (a_2 < 3) then aj.ok (Ex.exit 3,{tmps:=slots 153 [(7,PV.ptr 0 0),(9,PV.fn 71 [] [PV.ptr 0 0]),(11,PV.ptr 5 0),(55,PV.t (T.sl 3 (List.map Lk.t l))),(56,PV.t (i64 (↑(List.map Lk.t l).length:Int))),(57,PV.t (i64 j)),(58,PV.t (T.bool b)),(59,PV.rp 3 e 0),(60,PV.t e),(61,PV.fn 71 [] [PV.ptr 0 0]),(62,PV.ptr 5 0),(63,PV.t (e.ay 0 1 false)),(64,PV.t (T.bool (decide (a < 3)))),(65,PV.t (T.bool !decide (a < 3))),(66,PV.t (T.bool false)),(67,PV.fn 71 [] [PV.ptr 0 0]),(68,PV.ptr 5 1),(69,PV.t (e.ay 1 1 false)),(70,PV.t (T.bool (decide (a_2 < 3)))),(71,PV.t (T.bool !decide (a_2 < 3))),(72,PV.t (T.bool !decide (a_2 < 3))),(73,PV.t (T.bool true)),(74,PV.au []),(75,PV.au []),(76,PV.au []),(77,PV.au []),(78,PV.au []),(79,PV.t (T.bool true)),(80,PV.t (T.bool true)),(81,PV.au []),(82,PV.au []),(83,PV.au []),(84,PV.t (T.bool true)),(85,PV.t (T.bool true)),(86,PV.au []),(87,PV.au []),(88,PV.au []),(89,PV.t (T.bool true))],heap:=fO 3 [c0,c1,c2] [.box 67 3 (.t e)]}) else iT IntKind.i64 (e.ay 0 1 false) fun XE=>iT IntKind.i64 (e.ay 1 1 false) fun b_1=>bif XE==b_1 then aj.ok (Ex.exit 3,{tmps:=slots 153 [(7,PV.ptr 0 0),(9,PV.fn 71 [] [PV.ptr 0 0]),(11,PV.ptr 5 0),(55,PV.t (T.sl 3 (List.map Lk.t l))),(56,PV.t (i64 (↑(List.map Lk.t l).length:Int))),(57,PV.t (i64 j)),(58,PV.t (T.bool b)),(59,PV.rp 3 e 0),(60,PV.t e),(61,PV.fn 71 [] [PV.ptr 0 0]),(62,PV.ptr 5 0),(63,PV.t (e.ay 0 1 false)),(64,PV.t (T.bool (decide (a < 3)))),(65,PV.t (T.bool !decide (a < 3))),(66,PV.t (T.bool false)),(67,PV.fn 71 [] [PV.ptr 0 0]),(68,PV.ptr 5 1),(69,PV.t (e.ay 1 1 false)),(70,PV.t (T.bool (decide (a_2 < 3)))),(71,PV.t (T.bool !decide (a_2 < 3))),(72,PV.t (T.bool !decide (a_2 < 3))),(73,PV.t (T.bool false)),(74,PV.ptr 5 0),(75,PV.t (e.ay 0 1 false)),(76,PV.ptr 5 1),(77,PV.t (e.ay 1 1 false)),(78,PV.t (T.bool (XE==b_1))),(79,PV.t (T.bool (XE==b_1))),(80,PV.t (T.bool true)),(81,PV.au []),(82,PV.au []),(83,PV.au []),(84,PV.t (T.bool true)),(85,PV.t (T.bool true)),(86,PV.au []),(87,PV.au []),(88,PV.au []),(89,PV.t (T.bool true))],heap:=fO 3 [c0,c1,c2] [.box 67 3 (.t e)]}) else iT IntKind.i64 (e.ay 2 1 false) fun a_4=>bif decide (a_4 < 1) then aj.ok (Ex.exit 3,{tmps:=slots 153 [(7,PV.ptr 0 0),(9,PV.fn 71 [] [PV.ptr 0 0]),(11,PV.ptr 5 0),(55,PV.t (T.sl 3 (List.map Lk.t l))),(56,PV.t (i64 (↑(List.map Lk.t l).length:Int))),(57,PV.t (i64 j)),(58,PV.t (T.bool b)),(59,PV.rp 3 e 0),(60,PV.t e),(61,PV.fn 71 [] [PV.ptr 0 0]),(62,PV.ptr 5 0),(63,PV.t (e.ay 0 1 false)),(64,PV.t (T.bool (decide (a < 3)))),(65,PV.t (T.bool !decide (a < 3))),(66,PV.t (T.bool false)),(67,PV.fn 71 [] [PV.ptr 0 0]),(68,PV.ptr 5 1),(69,PV.t (e.ay 1 1 false)),(70,PV.t (T.bool (decide (a_2 < 3)))),(71,PV.t (T.bool !decide (a_2 < 3))),(72,PV.t (T.bool !decide (a_2 < 3))),(73,PV.t (T.bool false)),(74,PV.ptr 5 0),(75,PV.t (e.ay 0 1 false)),(76,PV.ptr 5 1),(77,PV.t (e.ay 1 1 false)),(78,PV.t (T.bool (XE==b_1))),(79,PV.t (T.bool (XE==b_1))),(80,PV.t (T.bool false)),(81,PV.ptr 5 2),(82,PV.t (e.ay 2 1 false)),(83,PV.t (T.bool (decide (a_4 < 1)))),(84,PV.t (T.bool (decide (a_4 < 1)))),(85,PV.t (T.bool true)),(86,PV.au []),(87,PV.au []),(88,PV.au []),(89,PV.t (T.bool true))],heap:=fO 3 [c0,c1,c2] [.box 67 3 (.t e)]}) else iT IntKind.i64 (e.ay 2 1 false) fun a_5=>bif decide (a_5 > 3) then aj.ok (Ex.exit 3,{tmps:=slots 153 [(7,PV.ptr 0 0),(9,PV.fn 71 [] [PV.ptr 0 0]),(11,PV.ptr 5 0),(55,PV.t (T.sl 3 (List.map Lk.t l))),(56,PV.t (i64 (↑(List.map Lk.t l).length:Int))),(57,PV.t (i64 j)),(58,PV.t (T.bool b)),(59,PV.rp 3 e 0),(60,PV.t e),(61,PV.fn 71 [] [PV.ptr 0 0]),(62,PV.ptr 5 0),(63,PV.t (e.ay 0 1 false)),(64,PV.t (T.bool (decide (a < 3)))),(65,PV.t (T.bool !decide (a < 3))),(66,PV.t (T.bool false)),(67,PV.fn 71 [] [PV.ptr 0 0]),(68,PV.ptr 5 1),(69,PV.t (e.ay 1 1 false)),(70,PV.t (T.bool (decide (a_2 < 3)))),(71,PV.t (T.bool !decide (a_2 < 3))),(72,PV.t (T.bool !decide (a_2 < 3))),(73,PV.t (T.bool false)),(74,PV.ptr 5 0),(75,PV.t (e.ay 0 1 false)),(76,PV.ptr 5 1),(77,PV.t (e.ay 1 1 false)),(78,PV.t (T.bool (XE==b_1))),(79,PV.t (T.bool (XE==b_1))),(80,PV.t (T.bool false)),(81,PV.ptr 5 2),(82,PV.t (e.ay 2 1 false)),(83,PV.t (T.bool (decide (a_4 < 1)))),(84,PV.t (T.bool (decide (a_4 < 1)))),(85,PV.t (T.bool false)),(86,PV.ptr 5 2),(87,PV.t (e.ay 2 1 false)),(88,PV.t (T.bool (decide (a_5 > 3)))),(89,PV.t (T.bool (decide (a_5 > 3))))],heap:=fO 3 [c0,c1,c2] [.box 67 3 (.t e)]}) else aj.ok (Ex.norm,{tmps:=slots 153 [(7,PV.ptr 0 0),(9,PV.fn 71 [] [PV.ptr 0 0]),(11,PV.ptr 5 0),(55,PV.t (T.sl 3 (List.map Lk.t l))),(56,PV.t (i64 (↑(List.map Lk.t l).length:Int))),(57,PV.t (i64 j)),(58,PV.t (T.bool b)),(59,PV.rp 3 e 0),(60,PV.t e),(61,PV.fn 71 [] [PV.ptr 0 0]),(62,PV.ptr 5 0),(63,PV.t (e.ay 0 1 false)),(64,PV.t (T.bool (decide (a < 3)))),(65,PV.t (T.bool !decide (a < 3))),(66,PV.t (T.bool false)),(67,PV.fn 71 [] [PV.ptr 0 0]),(68,PV.ptr 5 1),(69,PV.t (e.ay 1 1 false)),(70,PV.t (T.bool (decide (a_2 < 3)))),(71,PV.t (T.bool !decide (a_2 < 3))),(72,PV.t (T.bool !decide (a_2 < 3))),(73,PV.t (T.bool false)),(74,PV.ptr 5 0),(75,PV.t (e.ay 0 1 false)),(76,PV.ptr 5 1),(77,PV.t (e.ay 1 1 false)),(78,PV.t (T.bool (XE==b_1))),(79,PV.t (T.bool (XE==b_1))),(80,PV.t (T.bool false)),(81,PV.ptr 5 2),(82,PV.t (e.ay 2 1 false)),(83,PV.t (T.bool (decide (a_4 < 1)))),(84,PV.t (T.bool (decide (a_4 < 1)))),(85,PV.t (T.bool false)),(86,PV.ptr 5 2),(87,PV.t (e.ay 2 1 false)),(88,PV.t (T.bool (decide (a_5 > 3)))),(89,PV.t (T.bool (decide (a_5 > 3))))],heap:=fO 3 [c0,c1,c2] [.box 67 3 (.t e)]}) else aj.ok (Ex.exit 3,{tmps:=slots 153 [(7,PV.ptr 0 0),(9,PV.fn 71 [] [PV.ptr 0 0]),(11,PV.ptr 5 0),(55,PV.t (T.sl 3 (List.map Lk.t l))),(56,PV.t (i64 (↑(List.map Lk.t l).length:Int))),(57,PV.t (i64 j)),(58,PV.t (T.bool b)),(59,PV.rp 3 e 0),(60,PV.t e),(61,PV.fn 71 [] [PV.ptr 0 0]),(62,PV.ptr 5 0),(63,PV.t (e.ay 0 1 false)),(64,PV.t (T.bool (decide (a < 3)))),(65,PV.t (T.bool !decide (a < 3))),(66,PV.t (T.bool false)),(67,PV.fn 71 [] [PV.ptr 0 0]),(68,PV.ptr 5 1),(69,PV.t (e.ay 1 1 false)),(70,PV.t (T.bool false)),(71,PV.t (T.bool true)),(72,PV.t (T.bool true)),(73,PV.t (T.bool true)),(74,PV.au []),(75,PV.au []),(76,PV.au []),(77,PV.au []),(78,PV.au []),(79,PV.t (T.bool true)),(80,PV.t (T.bool true)),(81,PV.au []),(82,PV.au []),(83,PV.au []),(84,PV.t (T.bool true)),(85,PV.t (T.bool true)),(86,PV.au []),(87,PV.au []),(88,PV.au []),(89,PV.t (T.bool true))],heap:=fO 3 [c0,c1,c2] [.box 67 3 (.t e)]}) else aj.ok (Ex.exit 3,{tmps:=slots 153 [(7,PV.ptr 0 0),(9,PV.fn 71 [] [PV.ptr 0 0]),(11,PV.ptr 5 0),(55,PV.t (T.sl 3 (List.map Lk.t l))),(56,PV.t (i64 (↑(List.map Lk.t l).length:Int))),(57,PV.t (i64 j)),(58,PV.t (T.bool b)),(59,PV.rp 3 e 0),(60,PV.t e),(61,PV.fn 71 [] [PV.ptr 0 0]),(62,PV.ptr 5 0),(63,PV.t (e.ay 0 1 false)),(64,PV.t (T.bool false)),(65,PV.t (T.bool true)),(66,PV.t (T.bool true)),(67,PV.au []),(68,PV.au []),(69,PV.au []),(70,PV.au []),(71,PV.au []),(72,PV.t (T.bool true)),(73,PV.t (T.bool true)),(74,PV.au []),(75,PV.au []),(76,PV.au []),(77,PV.au []),(78,PV.au []),(79,PV.t (T.bool true)),(80,PV.t (T.bool true)),(81,PV.au []),(82,PV.au []),(83,PV.au []),(84,PV.t (T.bool true)),(85,PV.t (T.bool true)),(86,PV.au []),(87,PV.au []),(88,PV.au []),(89,PV.t (T.bool true))],heap:=fO 3 [c0,c1,c2] [.box 67 3 (.t e)]})):=by kernel_rfl
end
section
open Go.RowKit Go.Proofs
variable [Lv]
def Qq (l:List Lk) (t:List Cf) (j:Int) (b:Bool):St:=⟨slots 153 ((58,.t (.bool b))::BA l j),fO t.length t []⟩
theorem Fe {e:Ex} {st:St} {mk:(Nat→PV)→St} (h:st=mk (dOf st)):∃ d,(aj.ok (e,st):aj (Ex×St))= .ok (e,mk d):=⟨dOf st,congrArg (fun s=>aj.ok (e,s)) h⟩
def OT (N:Nat) (l:List Lk) (t:List Cf) (j:Nat) (x:Lk) (b:Bool):Prop:=(IY t.length x=false→∃ d,dO env (N+1) 32 [6,2] 0 3 (Qq l t j b)= .ok (.exit 3,sG3 l t j x d))∧(IY t.length x=true→∃ d,dO env (N+1) 32 [6,2] 0 3 (Qq l t j b)= .ok (.norm,sG3 l t j x d))
theorem aoi {N:Nat} {c0 c1 c2:Cf} {l:List Lk} {j:Nat} {x:Lk} {b:Bool} (hx:l[j]? =some x):OT N l [c0,c1,c2] j x b:=by
 have e0:dO env (N+1) 32 [6,2] 0 3 (Qq l [c0,c1,c2] j b)=_:=asI N c0 c1 c2 l j b
 rw[aA (aC hx),show(x.t.cells.length==3&& !x.t.aV)=true from rfl,aI,show x.t.ay 0 1 false=i64 x.a from rfl,show x.t.ay 1 1 false=i64 x.b from rfl,show x.t.ay 2 1 false=i64 x.r from rfl] at e0
 simp only[bW] at e0
 unfold OT IY
 simp only[List.length_cons,List.length_nil,Nat.zero_add,Nat.reduceAdd]
 rw[e0]
 by_cases h1:x.a≥0
 case neg=>
  rw[decide_eq_false h1]
  refine⟨fun _=>Fe (mk:=fun d=>sG3 l [c0,c1,c2] j x d) (by kernel_rfl),fun h=>by cases h⟩
 rw[decide_eq_true h1]
 simp only[cond_true,Bool.true_and]
 by_cases h2:x.a < 3
 case neg=>
  rw[decide_eq_false h2,decide_eq_false (show ¬ x.a < ((3:Nat):Int) by omega)]
  refine⟨fun _=>Fe (mk:=fun d=>sG3 l [c0,c1,c2] j x d) (by kernel_rfl),fun h=>by cases h⟩
 rw[decide_eq_true h2,decide_eq_true (show x.a < ((3:Nat):Int) by omega)]
 simp only[Bool.not_true,cond_false,Bool.true_and]
 by_cases h3:x.b≥0
 case neg=>
  rw[decide_eq_false h3]
  refine⟨fun _=>Fe (mk:=fun d=>sG3 l [c0,c1,c2] j x d) (by kernel_rfl),fun h=>by cases h⟩
 rw[decide_eq_true h3]
 simp only[cond_true,Bool.true_and]
 by_cases h4:x.b < 3
 case neg=>
  rw[decide_eq_false h4,decide_eq_false (show ¬ x.b < ((3:Nat):Int) by omega)]
  refine⟨fun _=>Fe (mk:=fun d=>sG3 l [c0,c1,c2] j x d) (by kernel_rfl),fun h=>by cases h⟩
 rw[decide_eq_true h4,decide_eq_true (show x.b < ((3:Nat):Int) by omega)]
 simp only[Bool.not_true,cond_false,Bool.true_and]
 cases h5:x.a==x.b with
 |true=>exact⟨fun _=>Fe (mk:=fun d=>sG3 l [c0,c1,c2] j x d) (by kernel_rfl),fun h=>(by cases h)⟩
 |false=>
 simp only[cond_false,Bool.not_false,Bool.true_and]
 by_cases h6:x.r < 1
 case pos=>
  rw[decide_eq_true h6,decide_eq_false (show ¬ 1≤x.r by omega)]
  refine⟨fun _=>Fe (mk:=fun d=>sG3 l [c0,c1,c2] j x d) (by kernel_rfl),fun h=>by cases h⟩
 rw[decide_eq_false h6,decide_eq_true (show 1≤x.r by omega)]
 simp only[cond_false,Bool.true_and]
 by_cases h7:x.r > 3
 case pos=>
  rw[decide_eq_true h7,decide_eq_false (show ¬ x.r≤3 by omega)]
  refine⟨fun _=>Fe (mk:=fun d=>sG3 l [c0,c1,c2] j x d) (by kernel_rfl),fun h=>by cases h⟩
 rw[decide_eq_false h7,decide_eq_true (show x.r≤3 by omega)]
 exact⟨fun h=>(by cases h),fun _=>Fe (mk:=fun d=>sG3 l [c0,c1,c2] j x d) (by kernel_rfl)⟩
theorem Ja {P:List Cf→Prop} (h3:∀ c0 c1 c2,P [c0,c1,c2]):∀ t:List Cf,t≠ []→t.length=3→P t
 | [c0,c1,c2],_,_=>h3 c0 c1 c2
 | [],h,_=>absurd rfl h
 | [_],_,h=>by simp at h
 | [_,_],_,h=>by simp at h
 |_::_::_::_::_,_,h=>by simp at h
theorem apV {N:Nat} {t:List Cf} (h0:t≠ []) (h8:t.length=3) {l:List Lk} {j:Nat} {x:Lk} {b:Bool} (hx:l[j]? =some x):OT N l t j x b:=
 Ja (P:=fun t=>OT N l t j x b) (fun _ _ _=>aoi hx) t h0 h8
end
section
open Go.RowKit Go.Proofs
variable [Lv]
noncomputable def xG (i:Nat):Array Oper:=iU env 32 [6,2] i
noncomputable def YB (N i k n:Nat) (s:St):aj St:=bf env (aK env N) (xG i) (((dD (xG i)).drop k).take n) s fun s=>(.ok s:aj St)
noncomputable def FY (N Nc i k n:Nat) (s:St):aj St:=acf env (aK env N) (xG i) Nc (((dD (xG i)).drop k).take n) s fun s=>(.ok s:aj St)
def lkH (a b:Nat) (r:Int):List ah:=[.box 67 3 (.t (.agg [i64 a,i64 b,i64 r]))]
def Oe (l:List Lk) (t:List Cf) (j:Int) (a b:Nat) (r:Int):St:=⟨slots 153 ((11,.ptr (t.length+2) 0)::BA l j),fO t.length t (lkH a b r)⟩
def sGd (l:List Lk) (t:List Cf) (j:Int) (a b:Nat) (r:Int) (v:Bool):St:=⟨slots 153 ((11,.ptr (t.length+2) 0)::(13,.t (.bool v))::BA l j),fO t.length t (lkH a b r)⟩
def sGe (l:List Lk) (t:List Cf) (j:Int) (a b:Nat) (r:Int) (v:Bool):St:=⟨slots 153 ((11,.ptr (t.length+2) 0)::(13,.t (.bool v))::(105,.t (.bool v))::BA l j),fO t.length t (lkH a b r)⟩
noncomputable def s14 (N:Nat) (l:List Lk) (t:List Cf) (j:Int) (a b:Nat) (r:Int):St:=adO (YB N 3 0 11 (Oe l t j a b r))
noncomputable def anE (N:Nat) (l:List Lk) (t:List Cf) (j:Int) (a b:Nat) (r k:Int) (v:Bool):St:=⟨(s14 N l t j a b r).tmps.set 102 (.t (.au [i64 k,.bool v])),(s14 N l t j a b r).heap⟩
noncomputable def s16 (N i n:Nat) (s:St):St:=adO (FY N s.heap.length i 0 n s)
noncomputable def anG (N i n d:Nat) (s:St) (x:T):St:=⟨(s16 N i n s).tmps.set d (.t x),(s16 N i n s).heap⟩
noncomputable def agB (N i n d:Nat) (s:St) (x:T):St:=adO (FY N s.heap.length i (n+1) 1 (anG N i n d s x))
noncomputable def anF (N i n d dd ra:Nat) (s:St) (xs:List T) (x:T):St:=⟨(PV.kills (· ==ra) (agB N i n d s x).tmps).set dd (.own ra),((agB N i n d s x).heap.map (ah.kill (· ==ra))).set ra (.row 86 4 (xs++ [x]))⟩
structure adG (N i n d dd ra:Nat) (s:St) (xs:List T) (p w:Int):Prop where
 a1:FY N s.heap.length i 0 n s= .ok (s16 N i n s)
 a2:FY N s.heap.length i n 1 (s16 N i n s)=(ak env N 72 [i64 p,i64 w]).bind fun x=> .ok ⟨(s16 N i n s).tmps.set d (.t x),(s16 N i n s).heap⟩
 a3:∀ S:Sd,FY N s.heap.length i (n+1) 1 (anG N i n d s S.t)= .ok (agB N i n d s S.t)
 a4:∀ S:Sd,FY N s.heap.length i (n+2) 1 (agB N i n d s S.t)=chk (decide ((xs.length+1)*64≤140737488355328)) (.ok (anF N i n d dd ra s xs S.t))
 a5:∀ S:Sd,(FY N s.heap.length i (n+3) 3 (anF N i n d dd ra s xs S.t)).bind (fun s=>(.ok ⟨dP [7,9,11,55,56,57] s.tmps,s.heap⟩:aj St))= .ok ⟨s.tmps,s.heap.set ra (.row 86 4 (xs++ [S.t]))⟩
structure wI (N:Nat) (l:List Lk) (t:List Cf) (a b:Nat) (ca cb:Cf):Prop where
 r1:∀ j r,YB N 3 0 11 (Oe l t j a b r)= .ok (s14 N l t j a b r)
 r2:∀ j r,YB N 3 11 1 (s14 N l t j a b r)=(ak env N 51 [ca.t,i64 cb.a]).bind fun x=>chk x.plain (.ok ⟨(s14 N l t j a b r).tmps.set 102 (.t x),(s14 N l t j a b r).heap⟩)
 r3:∀ j r k v,(YB N 3 12 9 (anE N l t j a b r k v)).bind (fun s=>(.ok ⟨dP [7,9,11,13,55,56,57] s.tmps,s.heap⟩:aj St))= .ok (sGd l t j a b r v)
 ra:∀ j r,adG N 6 17 123 125 (2+a) (Oe l t j a b r) (ca.s.map Sd.t) cb.a r
 rb:∀ j r,adG N 7 18 146 148 (2+b) (Oe l t j a b r) (cb.s.map Sd.t) ca.a (IntKind.i64.wrap (4 - r))
end
section
open Go.RowKit Go.Proofs
variable [Lv]
theorem aiB (N:Nat) (l:List Lk) (c0 c1 c2:Cf):wI N l [c0,c1,c2] 0 1 c0 c1:=⟨fun j r=>by kernel_rfl,fun j r=>by kernel_rfl,fun j r k v=>by kernel_rfl,fun j r=>⟨by kernel_rfl,by kernel_rfl,fun S=>by kernel_rfl,fun S=>by kernel_rfl,fun S=>by kernel_rfl⟩,fun j r=>⟨by kernel_rfl,by kernel_rfl,fun S=>by kernel_rfl,fun S=>by kernel_rfl,fun S=>by kernel_rfl⟩⟩
theorem aiC (N:Nat) (l:List Lk) (c0 c1 c2:Cf):wI N l [c0,c1,c2] 0 2 c0 c2:=⟨fun j r=>by kernel_rfl,fun j r=>by kernel_rfl,fun j r k v=>by kernel_rfl,fun j r=>⟨by kernel_rfl,by kernel_rfl,fun S=>by kernel_rfl,fun S=>by kernel_rfl,fun S=>by kernel_rfl⟩,fun j r=>⟨by kernel_rfl,by kernel_rfl,fun S=>by kernel_rfl,fun S=>by kernel_rfl,fun S=>by kernel_rfl⟩⟩
theorem aiD (N:Nat) (l:List Lk) (c0 c1 c2:Cf):wI N l [c0,c1,c2] 1 0 c1 c0:=⟨fun j r=>by kernel_rfl,fun j r=>by kernel_rfl,fun j r k v=>by kernel_rfl,fun j r=>⟨by kernel_rfl,by kernel_rfl,fun S=>by kernel_rfl,fun S=>by kernel_rfl,fun S=>by kernel_rfl⟩,fun j r=>⟨by kernel_rfl,by kernel_rfl,fun S=>by kernel_rfl,fun S=>by kernel_rfl,fun S=>by kernel_rfl⟩⟩
theorem aiE (N:Nat) (l:List Lk) (c0 c1 c2:Cf):wI N l [c0,c1,c2] 1 2 c1 c2:=⟨fun j r=>by kernel_rfl,fun j r=>by kernel_rfl,fun j r k v=>by kernel_rfl,fun j r=>⟨by kernel_rfl,by kernel_rfl,fun S=>by kernel_rfl,fun S=>by kernel_rfl,fun S=>by kernel_rfl⟩,fun j r=>⟨by kernel_rfl,by kernel_rfl,fun S=>by kernel_rfl,fun S=>by kernel_rfl,fun S=>by kernel_rfl⟩⟩
theorem aiF (N:Nat) (l:List Lk) (c0 c1 c2:Cf):wI N l [c0,c1,c2] 2 0 c2 c0:=⟨fun j r=>by kernel_rfl,fun j r=>by kernel_rfl,fun j r k v=>by kernel_rfl,fun j r=>⟨by kernel_rfl,by kernel_rfl,fun S=>by kernel_rfl,fun S=>by kernel_rfl,fun S=>by kernel_rfl⟩,fun j r=>⟨by kernel_rfl,by kernel_rfl,fun S=>by kernel_rfl,fun S=>by kernel_rfl,fun S=>by kernel_rfl⟩⟩
theorem aiG (N:Nat) (l:List Lk) (c0 c1 c2:Cf):wI N l [c0,c1,c2] 2 1 c2 c1:=⟨fun j r=>by kernel_rfl,fun j r=>by kernel_rfl,fun j r k v=>by kernel_rfl,fun j r=>⟨by kernel_rfl,by kernel_rfl,fun S=>by kernel_rfl,fun S=>by kernel_rfl,fun S=>by kernel_rfl⟩,fun j r=>⟨by kernel_rfl,by kernel_rfl,fun S=>by kernel_rfl,fun S=>by kernel_rfl,fun S=>by kernel_rfl⟩⟩
theorem lk3 {N:Nat} {l:List Lk} {c0 c1 c2 ca cb:Cf}:∀ {a b:Nat},a≠b→ [c0,c1,c2][a]? =some ca→ [c0,c1,c2][b]? =some cb→wI N l [c0,c1,c2] a b ca cb
 |0,0,h,_,_=>absurd rfl h
 |0,1,_,ha,hb=>by cases ha; cases hb; exact aiB N l c0 c1 c2
 |0,2,_,ha,hb=>by cases ha; cases hb; exact aiC N l c0 c1 c2
 |0,b+3,_,_,hb=>by simp at hb
 |1,0,_,ha,hb=>by cases ha; cases hb; exact aiD N l c0 c1 c2
 |1,1,h,_,_=>absurd rfl h
 |1,2,_,ha,hb=>by cases ha; cases hb; exact aiE N l c0 c1 c2
 |1,b+3,_,_,hb=>by simp at hb
 |2,0,_,ha,hb=>by cases ha; cases hb; exact aiF N l c0 c1 c2
 |2,1,_,ha,hb=>by cases ha; cases hb; exact aiG N l c0 c1 c2
 |2,2,h,_,_=>absurd rfl h
 |2,b+3,_,_,hb=>by simp at hb
 |a+3,_,_,ha,_=>by simp at ha
end
section
open Go.RowKit Go.Proofs
theorem OX:∀ {t:List Cf} {a b:Nat} {c c':Cf},t[a]? =some c→c'.a=c.a→c'.d=c.d→c'.h=c.h→c'.k=c.k→c'.w=c.w→BU b (t.set a c')=BU b t
 | [],a,b,c,c',h,_,_,_,_,_=>by simp at h
 |x::t,0,b,c,c',h,h1,h2,h3,h4,h5=>by
  simp only[List.getElem?_cons_zero,Option.some.injEq] at h
  subst h
  simp only[List.set_cons_zero,BU,h1,h2,h3,h4,h5]
 |x::t,a+1,b,c,c',h,h1,h2,h3,h4,h5=>by
  simp only[List.set_cons_succ,BU]
  rw[OX (a:=a) (by simpa using h) h1 h2 h3 h4 h5]
theorem Vu:∀ (t:List Cf) (a:Nat) (c':Cf),I7 (t.set a c')=(I7 t).set a (.row 86 4 (c'.s.map Sd.t))
 | [],_,_=>rfl
 |x::t,0,c'=>rfl
 |x::t,a+1,c'=>by simp only[List.set_cons_succ,I7]; rw[Vu t a c']
theorem Vt:∀ t:List Cf,(I7 t).length=t.length
 | []=>rfl
 |x::t=>by simp only[I7,List.length_cons,Vt t]
theorem U2 {t:List Cf} {a m:Nat} {c:Cf} {S:Sd} {H:List ah} (h:t[a]? =some c):(fO m t H).set (2+a) (.row 86 4 (c.s.map Sd.t++ [S.t]))=fO m (t.set a (kQ c S)) H:=by
 have hl:=(List.getElem?_eq_some_iff.1 h).1
 unfold fO
 rw[show 2+a=a+1+1 by omega,List.set_cons_succ,List.set_cons_succ,List.set_append_left _ _ (by rw[Vt]; exact hl),Vu,List.length_set,OX (c':=kQ c S) h rfl rfl rfl rfl rfl]
 simp[kQ]
variable [Lv]
theorem aoH (N:Nat) (a:Int):ak env (N+6) 72 [i64 a,i64 1]=W [i64 a,i64 1] (.ok (iK a 1).t):=by kernel_rfl
theorem aoI (N:Nat) (a:Int):ak env (N+6) 72 [i64 a,i64 2]=W [i64 a,i64 2] (.ok (iK a 2).t):=by kernel_rfl
theorem aoJ (N:Nat) (a:Int):ak env (N+6) 72 [i64 a,i64 3]=W [i64 a,i64 3] (.ok (iK a 3).t):=by kernel_rfl
theorem aeD {M:Nat} {a r:Int} (hM:6≤M) (ha:aT a=true) (h1:1≤r) (h3:r≤3):ak env M 72 [i64 a,i64 r]= .ok (iK a r).t:=by
 obtain⟨m,rfl⟩:∃ m,M=m+6:=⟨M - 6,by omega⟩
 have hr:r=1∨r=2∨r=3:=by omega
 rcases hr with rfl|rfl|rfl
 · rw[aoH,aZ (dN (bg ha) rfl)]
 · rw[aoI,aZ (dN (bg ha) rfl)]
 · rw[aoJ,aZ (dN (bg ha) rfl)]
theorem aaJ (N:Nat) (l:List Lk) (t:List Cf) (j:Nat):dO env N 32 [6] 0 2 (sG2 l t j)=bif decide ((j:Int) < (((l.map Lk.t).length:Nat):Int)) then .ok (.norm,Qq l t j (decide ((j:Int) < (((l.map Lk.t).length:Nat):Int)))) else .ok (.exit 2,Qq l t j (decide ((j:Int) < (((l.map Lk.t).length:Nat):Int)))):=by kernel_rfl
noncomputable def anw:Array Oper:=iU env 32 [6] 3
def sGz (l:List Lk) (t:List Cf) (j:Int) (x:T):St:=⟨slots 153 (BA l j),fO t.length t [.box 67 3 (.t x)]⟩
theorem aiv (N:Nat) (l:List Lk) (j:Int) (p:Nat) (H:List ah) (d:Nat→PV):(bf env (aK env N) anw (anw.toList.map fun o=>(o,false)) ⟨zT 153 d ((11,.ptr p 0)::BA l j),H⟩ fun s=>(.ok s:aj St)).bind (fun s=>(.ok ⟨dP [7,9,55,56,57] s.tmps,id s.heap⟩:aj St))= .ok ⟨slots 153 (BA l (IntKind.i64.wrap (j+1))),H⟩:=by kernel_rfl
theorem aix (l:List Lk) (j:Int) (p:Nat) (d:Nat→PV):dP [7,9,11,55,56,57] (zT 153 d ((11,.ptr p 0)::BA l j))=slots 153 ((11,.ptr p 0)::BA l j):=by kernel_rfl
theorem afh (l:List Lk) (j:Int) (p:Nat) (v:Bool):dP [7,9,11,55,56,57] (slots 153 ((11,.ptr p 0)::(13,.t (.bool v))::(105,.t (.bool v))::BA l j))=slots 153 ((11,.ptr p 0)::BA l j):=by kernel_rfl
theorem aiy (N:Nat) (l:List Lk) (t:List Cf) (j:Int) (a b:Nat) (r:Int):dO env N 32 [6,2] 4 2 (sGd l t j a b r true)= .ok (.exit 3,sGe l t j a b r true):=by kernel_rfl
theorem aiw (N:Nat) (l:List Lk) (t:List Cf) (j:Int) (a b:Nat) (r:Int):dO env N 32 [6,2] 4 2 (sGd l t j a b r false)= .ok (.norm,sGe l t j a b r false):=by kernel_rfl
theorem aoM (l:List Lk) (j:Int) (p:Nat) (H:List ah):(⟨slots 153 ((11,.ptr p 0)::BA l j),H⟩:St)=⟨zT 153 (fun _=> .junk) ((11,.ptr p 0)::BA l j),H⟩:=by kernel_rfl
theorem aoN (l:List Lk) (j:Int) (p:Nat) (v:Bool) (H:List ah):(⟨slots 153 ((11,.ptr p 0)::(13,.t (.bool v))::(105,.t (.bool v))::BA l j),H⟩:St)=⟨zT 153 (X6 [(13,.t (.bool v)),(105,.t (.bool v))]) ((11,.ptr p 0)::BA l j),H⟩:=by kernel_rfl
theorem aeM {N:Nat} {l:List Lk} {t:List Cf} {a b:Nat} {ca cb:Cf} (h0:t≠ []) (h8:t.length=3) (hab:a≠b) (ha:t[a]? =some ca) (hb:t[b]? =some cb):wI N l t a b ca cb:=
 Ja (P:=fun t=>t[a]? =some ca→t[b]? =some cb→wI N l t a b ca cb) (fun _ _ _=>lk3 hab) t h0 h8 ha hb
theorem ak6 {l:List Lk} {t:List Cf} {j:Int} {x:T} (h0:t≠ []) (h8:t.length=3):canon 0 (dX env 32 [] 6).1 (sGz l t j x)=sG2 l t j:=
 Ja (P:=fun t=>canon 0 (dX env 32 [] 6).1 (sGz l t j x)=sG2 l t j) (fun _ _ _=>by kernel_rfl) t h0 h8
theorem Ur {N i n d dd ra:Nat} {s:St} {xs:List T} {p w:Int} {S:Sd} (h:adG N i n d dd ra s xs p w) (hc:ak env N 72 [i64 p,i64 w]= .ok S.t) (hx:(xs.length+1)*64≤big)
 (hl:((dD (xG i)).drop (n+3)).take 3=(dD (xG i)).drop (n+3)):∃ sf,rE env (aK env N) (xG i) s.heap.length (dD (xG i)) s sf∧dP [7,9,11,55,56,57] sf.tmps=s.tmps∧sf.heap=s.heap.set ra (.row 86 4 (xs++ [S.t])):=by
 have hn:=fF env N
 have h2:=h.a2
 rw[hc] at h2
 have h4:=h.a4 S
 rw[decide_eq_true (show(xs.length+1)*64≤140737488355328 by have:=aQ; omega),aI] at h4
 obtain⟨sf,h5,h6⟩:=bK (h.a5 S)
 simp only[aj.ok.injEq,St.mk.injEq] at h6
 have h1:=h.a1
 have h3:=h.a3 S
 unfold FY at h1 h2 h3 h4 h5
 generalize hL:dD (xG i)=L at h1 h2 h3 h4 h5 hl ⊢
 have r1:=uZ hn h1
 have r2:=uZ hn h2
 have r3:=uZ hn h3
 have r4:=uZ hn h4
 have r5:=uZ hn h5
 rw[hl] at r5
 have cut:∀ (k m:Nat) {s1 s2 s3:St},rE env (aK env N) (xG i) s.heap.length ((L.drop k).take m) s1 s2→rE env (aK env N) (xG i) s.heap.length (L.drop (k+m)) s2 s3→rE env (aK env N) (xG i) s.heap.length (L.drop k) s1 s3:=fun k m s1 s2 s3 a b=>acC _ a (by rw[List.drop_drop]; exact b)
 have c4:=cut (n+2) 1 r4 r5
 have c3:=cut (n+1) 1 r3 c4
 have c2:=cut n 1 r2 c3
 have c1:=cut 0 n r1 (by rw[Nat.zero_add]; exact c2)
 rw[List.drop_zero] at c1
 exact⟨sf,c1,h6.1,h6.2⟩
end
section
open Go.RowKit Go.Proofs
variable [Lv]
theorem DX {E:Env} {n:Nat} {f:FuncId} {p:List Nat} (he:nO E) {i:Nat} {st st':St} {Q:Ex→St→Prop} {R:St→Prop} (hp:∃ id ops,(aN E f p)[i]? =some (.region id ops true)∧jf E (.region id ops true) st' R) (ht:fB st st') (hR:∀ s,R s→∃ s2,fB s s2∧ay E n f p (i+1) s2 Q):ay E n f p i st Q:=by
 obtain⟨id,ops,h1,h2⟩:=hp
 exact G8 h1 ⟨_,_,_,rfl⟩ (jf.pre ht (jf.turn h2 hR))
theorem asf:∃ id,(aN env 32 [6,2])[3]? =some (.region id (xG 3) true):=⟨bF ((aN env 32 [6,2]).getD 3 .skip),by kernel_rfl⟩
theorem asg:∃ id,(aN env 32 [6,2])[6]? =some (.region id (xG 6) true):=⟨bF ((aN env 32 [6,2]).getD 6 .skip),by kernel_rfl⟩
theorem ash:∃ id,(aN env 32 [6,2])[7]? =some (.region id (xG 7) true):=⟨bF ((aN env 32 [6,2]).getD 7 .skip),by kernel_rfl⟩
theorem aqg:((dD (xG 3)).drop 12).take 9=(dD (xG 3)).drop 12:=by kernel_rfl
theorem aqh:((dD (xG 6)).drop (17+3)).take 3=(dD (xG 6)).drop (17+3):=by kernel_rfl
theorem aqi:((dD (xG 7)).drop (18+3)).take 3=(dD (xG 7)).drop (18+3):=by kernel_rfl
theorem ok3:sW (xG 3)=true:=by kernel_rfl
theorem ok6:yQ (xG 6)=true:=by kernel_rfl
theorem ok7:yQ (xG 7)=true:=by kernel_rfl
theorem agf {N:Nat} {l:List Lk} {t:List Cf} {a b:Nat} {ca cb:Cf} {j r k:Int} {v:Bool} (h:wI N l t a b ca cb) (hc:ak env N 51 [ca.t,i64 cb.a]= .ok (.au [i64 k,.bool v])):
 ∃ sf,bf env (aK env N) (xG 3) (dD (xG 3)) (Oe l t j a b r) (fun s=>(.ok s:aj St))= .ok sf∧dP [7,9,11,13,55,56,57] sf.tmps=(sGd l t j a b r v).tmps∧sf.heap=(sGd l t j a b r v).heap:=by
 have hn:=fF env N
 have h1:=h.r1 j r
 have h2:=h.r2 j r
 rw[hc] at h2
 have h2:YB N 3 11 1 (s14 N l t j a b r)= .ok (anE N l t j a b r k v):=h2
 obtain⟨sf,h3,h4⟩:=bK (h.r3 j r k v)
 simp only[aj.ok.injEq] at h4
 unfold YB at h1 h2 h3
 rw[aqg] at h3
 have c2:=Vk (l:=(dD (xG 3)).drop 11) hn 1 h2 (by rw[List.drop_drop]; exact h3)
 have c1:=Vk (l:=dD (xG 3)) hn 11 (by rw[List.drop_zero] at h1; exact h1) c2
 exact⟨sf,c1,by have:=congrArg St.tmps h4; exact this,by have:=congrArg St.heap h4; exact this⟩
omit [Lv] in
theorem wS {A C:Prop} {B:Nat→Prop} {j:Nat} (h:B j):Ex.kP (.exit j) A B C:=h
theorem afi {N:Nat} (he:nO env) (hN:big+30≤N) {l:List Lk} {t:List Cf} {j:Nat} {x:Lk} {Q:Ex→St→Prop} (h0:t≠ []) (h8:t.length=3) (hl:l.length≤big) (hx:l[j]? =some x) (hxo:x.ok) (ht:∀ c∈t,c.ok∧(c.s.length+1)*64≤big)
 (hQ:∀ s,canon 0 (dX env 32 [] 6).1 s=sG2 l (uy t x) ((j+1:Nat):Int)→Q .norm s):ay env N 32 [6] 0 (sG2 l t j) Q:=by
 have hbg:=aQ
 have hj:=(List.getElem?_eq_some_iff.1 hx).1
 obtain⟨n1,rfl⟩:∃ n1,N=n1+1:=⟨N - 1,by omega⟩
 have h1:=aaJ (n1+1) l t j
 rw[decide_eq_true (show(j:Int) < (((l.map Lk.t).length:Nat):Int) by rw[List.length_map]; omega)] at h1
 refine fD (e:= .norm) 2 h1 ?_
 refine oI (p:=[6]) (i:=2) (id:=3) (c:=gV ((aN env 32 [6]).getD 2 .skip)) (by kernel_rfl) (by kernel_rfl) ?_
 show ay env (n1+1) 32 [6,2] 0 _ _
 have hB:=apV (N:=n1) (t:=t) h0 h8 (b:=true) hx
 have hw:=wrap_succ (show j≤big by omega)
 have behind:∀ (t':List Cf) (p:Nat) (y:T) (d:Nat→PV),t'≠ []→t'.length=3→uy t x=t'→ay env (n1+1) 32 [6] 3 ⟨zT 153 d ((11,.ptr p 0)::BA l j),fO t'.length t' [.box 67 3 (.t y)]⟩ Q:=fun t' p y d g0 g8 e=>by
  have h3:=aiv (n1+1) l j p (fO t'.length t' [.box 67 3 (.t y)]) d
  rw[hw] at h3
  refine rX (i:=3) (g:=id) he (by kernel_rfl) (of_decide_eq_true (by kernel_rfl)) h3 Jt ?_
  refine kW (by kernel_rfl) (hQ _ ?_)
  rw[e]
  exact ak6 g0 g8
 cases hg:IY t.length x with
 |false=>
  obtain⟨d,hs⟩:=hB.1 hg
  refine fD (e:= .exit 3) 3 hs ?_
  refine wS (wS ?_)
  simp only[if_true]
  exact behind t _ x.t d h0 h8 (by unfold uy; rw[hg]; rfl)
 |true=>
 obtain⟨d,hs⟩:=hB.2 hg
 refine fD (e:= .norm) 3 hs ?_
 obtain⟨xa,xb,r⟩:=x
 have hg':=hg
 unfold IY at hg'
 simp only[Bool.and_eq_true,decide_eq_true_eq,Bool.not_eq_true',beq_eq_false_iff_ne] at hg'
 obtain⟨⟨⟨⟨⟨⟨a1,a2⟩,a3⟩,a4⟩,a5⟩,a6⟩,a7⟩:=hg'
 obtain⟨a,rfl⟩:∃ a:Nat,xa=a:=⟨xa.toNat,by omega⟩
 obtain⟨b,rfl⟩:∃ b:Nat,xb=b:=⟨xb.toNat,by omega⟩
 have hab:a≠b:=fun e=>a5 (by rw[e])
 have hca:t[a]? =some t[a]:=List.getElem?_eq_getElem (by omega)
 have hcb:t[b]? =some t[b]:=List.getElem?_eq_getElem (by omega)
 generalize t[a]=ca at hca
 generalize t[b]=cb at hcb
 have hco:=(ht ca (List.mem_of_getElem? hca)).1
 have hdo:=(ht cb (List.mem_of_getElem? hcb)).1
 have hlk:uy t ⟨a,b,r⟩=if (idxOf ca cb.a).isSome then t else(t.set a (kQ ca (iK cb.a r))).set b (kQ cb (iK ca.a (4 - r))):=by
  unfold uy
  rw[hg,if_pos rfl]
  simp only[Int.toNat_natCast,hca,hcb]
 have L1:=aeM (N:=n1+1) (l:=l) h0 h8 hab hca hcb
 obtain⟨n2,rfl⟩:∃ n2,n1=n2+1:=⟨n1 - 1,by omega⟩
 have hside:=Po (M:=n2+1) (c:=ca) (n:=cb.a) (by omega) hco hdo.a
 generalize hv:(idxOf ca cb.a).isSome=v at hside hlk
 obtain⟨sf,k1,k2,k3⟩:=agf (j:=j) (r:=r) L1 hside
 have hn:=fF env (n2+1+1)
 obtain⟨_,n2'⟩:=yX he (n2+1+1)
 have ako:fE env (aK env (n2+1+1)):=uj he hn n2'
 obtain⟨id3,e3⟩:=asf
 refine DX he (st':=Oe l t j a b r) (R:=fun s=>s=sf) ⟨id3,xG 3,e3,jf.draw he.mixed ako ok3 k1 rfl⟩ ?_ fun s hs=>?_
 · exact fB.JA [7,9,11,55,56,57] (aix l j (t.length+2) d)
 subst hs
 refine⟨sGd l t j a b r v,?_,?_⟩
 · have:s=⟨s.tmps,(sGd l t j a b r v).heap⟩:=by rw[←k3]
   rw[this]
   exact fB.JA [7,9,11,13,55,56,57] k2
 cases v with
 |true=>
  refine fD (e:= .exit 3) 2 (aiy (n2+1+1) l t j a b r) ?_
  refine wS (wS ?_)
  simp only[if_true]
  unfold sGe
  rw[aoN]
  exact behind t _ _ _ h0 h8 (by rw[hlk]; rfl)
 |false=>
 refine fD (e:= .norm) 2 (aiw (n2+1+1) l t j a b r) ?_
 have s1:=aeD (M:=n2+1+1) (a:=cb.a) (r:=r) (by omega) hdo.a a6 a7
 have ha8:=(ht ca (List.mem_of_getElem? hca)).2
 have hb8:=(ht cb (List.mem_of_getElem? hcb)).2
 obtain⟨sa,r1,r2,r3⟩:=Ur (L1.ra j r) s1 (by rw[List.length_map]; exact ha8) aqh
 obtain⟨id6,e6⟩:=asg
 refine DX he (st':=Oe l t j a b r) (R:=fun s=>s=sa) ⟨id6,xG 6,e6,UK he.mixed ako ok6 r1 rfl⟩ ?_ fun s hs=>?_
 · exact fB.JA [7,9,11,55,56,57] (afh l j (t.length+2) false)
 subst hs
 have ht1:t.set a (kQ ca (iK cb.a r))≠ []:=by
  intro e
  have:=congrArg List.length e
  rw[List.length_set] at this
  exact h0 (List.eq_nil_of_length_eq_zero this)
 have hl1:(t.set a (kQ ca (iK cb.a r))).length=t.length:=List.length_set ..
 refine⟨Oe l (t.set a (kQ ca (iK cb.a r))) j a b r,?_,?_⟩
 · have e1:s=⟨s.tmps,(Oe l (t.set a (kQ ca (iK cb.a r))) j a b r).heap⟩:=by
    have:s.heap=(Oe l (t.set a (kQ ca (iK cb.a r))) j a b r).heap:=by
     rw[r3]
     show(fO t.length t (lkH a b r)).set (2+a) _=fO (t.set a (kQ ca (iK cb.a r))).length _ _
     rw[hl1]
     exact U2 hca
    rw[←this]
   rw[e1]
   refine fB.JA [7,9,11,55,56,57] (r2.trans ?_)
   show slots 153 ((11,.ptr (t.length+2) 0)::BA l j)=slots 153 ((11,.ptr ((t.set a (kQ ca (iK cb.a r))).length+2) 0)::BA l j)
   rw[hl1]
 have apY:(t.set a (kQ ca (iK cb.a r)))[a]? =some (kQ ca (iK cb.a r)):=List.getElem?_set_self (by omega)
 have ana:(t.set a (kQ ca (iK cb.a r)))[b]? =some cb:=by rw[List.getElem?_set_ne hab]; exact hcb
 have L2:=aeM (N:=n2+1+1) (l:=l) ht1 (by rw[hl1]; exact h8) hab apY ana
 have hwr:IntKind.i64.wrap (4 - r)=4 - r:=wrap64 (by omega)
 have s2:=aeD (M:=n2+1+1) (a:=ca.a) (r:=4 - r) (by omega) hco.a (by omega) (by omega)
 have L2b:=L2.rb j r
 rw[hwr] at L2b
 obtain⟨sb,q1,q2,q3⟩:=Ur L2b s2 (by rw[List.length_map]; exact hb8) aqi
 obtain⟨id7,e7⟩:=ash
 refine DX he (st':=Oe l (t.set a (kQ ca (iK cb.a r))) j a b r) (R:=fun s=>s=sb) ⟨id7,xG 7,e7,UK he.mixed ako ok7 q1 rfl⟩ (fB.refl _) fun s hs=>?_
 subst hs
 have hl2:((t.set a (kQ ca (iK cb.a r))).set b (kQ cb (iK ca.a (4 - r)))).length=t.length:=by rw[List.length_set,List.length_set]
 have ht2:(t.set a (kQ ca (iK cb.a r))).set b (kQ cb (iK ca.a (4 - r)))≠ []:=by
  intro e
  have:=congrArg List.length e
  rw[hl2] at this
  exact h0 (List.eq_nil_of_length_eq_zero this)
 refine⟨Oe l ((t.set a (kQ ca (iK cb.a r))).set b (kQ cb (iK ca.a (4 - r)))) j a b r,?_,?_⟩
 · have e1:s=⟨s.tmps,(Oe l ((t.set a (kQ ca (iK cb.a r))).set b (kQ cb (iK ca.a (4 - r)))) j a b r).heap⟩:=by
    have:s.heap=(Oe l ((t.set a (kQ ca (iK cb.a r))).set b (kQ cb (iK ca.a (4 - r)))) j a b r).heap:=by
     rw[q3]
     show(fO (t.set a (kQ ca (iK cb.a r))).length _ (lkH a b r)).set (2+b) _=fO ((t.set a (kQ ca (iK cb.a r))).set b (kQ cb (iK ca.a (4 - r)))).length _ _
     rw[hl1,hl2]
     exact U2 ana
    rw[←this]
   rw[e1]
   refine fB.JA [7,9,11,55,56,57] (q2.trans ?_)
   show slots 153 ((11,.ptr ((t.set a (kQ ca (iK cb.a r))).length+2) 0)::BA l j)=slots 153 ((11,.ptr (((t.set a (kQ ca (iK cb.a r))).set b (kQ cb (iK ca.a (4 - r)))).length+2) 0)::BA l j)
   rw[hl1,hl2]
 refine kW (by kernel_rfl) ?_
 show ay env (n2+1+1) 32 [6] 3 _ Q
 unfold Oe
 rw[aoM]
 exact behind _ _ _ _ ht2 (by rw[hl2]; exact h8) (by rw[hlk]; rfl)
end
section
open Go.RowKit Go.Proofs
theorem VF {a r:Int} (ha:aT a=true) (h1:1≤r) (h3:r≤3):(iK a r).ok:=by
 have hr:∀ m v x n:Int,aT m=true→aT v=true→aT x=true→aT n=true→Ru.ok ⟨m,⟨0,0⟩,v,x,n⟩:=fun m v x n h1 h2 h3 h4=>⟨h1,⟨rfl,rfl⟩,h2,h3,h4⟩
 have hb:=aQ
 refine⟨ha,iE.2 (by show -9223372036854775808≤r∧r≤_; omega),⟨by show 1≤big; omega,fun x hx=>?_⟩,?_⟩
 · simp only[iK,List.mem_singleton] at hx
   subst hx
   exact hr _ _ _ _ rfl rfl rfl (iE.2 (by omega))
 · show bZ Ru.ok (if r=1 then _ else _)
   split
   · refine⟨by show 1≤big; omega,fun x hx=>?_⟩
     rw[List.mem_singleton] at hx
     subst hx
     exact hr _ _ _ _ rfl rfl rfl rfl
   · refine⟨by show 2≤big; omega,fun x hx=>?_⟩
     simp only[List.mem_cons,List.not_mem_nil,or_false] at hx
     rcases hx with rfl|rfl
     · exact hr _ _ _ _ rfl rfl rfl rfl
     · exact hr _ _ _ _ rfl rfl rfl rfl
def gOk (m j:Nat) (t:List Cf):Prop:=t.length=m∧∀ c∈t,c.ok∧c.s.length≤j
theorem aag {c:Cf} {s:Sd} (h:c.ok) (hs:s.ok) (hl:c.s.length+1≤big):(kQ c s).ok:=⟨h.a,h.d,h.h,h.k,h.w,⟨by simpa[kQ] using hl,fun x hx=>by
 rcases List.mem_append.1 hx with hx|hx
 · exact h.s.2 x hx
 · rw[List.mem_singleton.1 hx]; exact hs⟩⟩
theorem afw {m j:Nat} {t:List Cf} {x:Lk} (h:gOk m j t) (hj:j+1≤big):gOk m (j+1) (uy t x):=by
 have weak:gOk m (j+1) t:=⟨h.1,fun c hc=>⟨(h.2 c hc).1,by have:=(h.2 c hc).2; omega⟩⟩
 unfold uy
 split
 · rename_i hg
   split
   · rename_i c d hc hd
     split
     · exact weak
     · unfold IY at hg
       simp only[Bool.and_eq_true,decide_eq_true_eq,Bool.not_eq_true',beq_eq_false_iff_ne] at hg
       obtain⟨⟨⟨⟨⟨⟨a1,a2⟩,a3⟩,a4⟩,a5⟩,a6⟩,a7⟩:=hg
       have h1:=h.2 c (List.mem_of_getElem? hc)
       have h2:=h.2 d (List.mem_of_getElem? hd)
       refine⟨by rw[List.length_set,List.length_set]; exact h.1,fun e he=>?_⟩
       rcases List.mem_or_eq_of_mem_set he with he|rfl
       · rcases List.mem_or_eq_of_mem_set he with he|rfl
         · exact weak.2 e he
         · exact⟨aag h1.1 (VF h2.1.a a6 a7) (by omega),by simp[kQ]; omega⟩
       · exact⟨aag h2.1 (VF h1.1.a (by omega) (by omega)) (by omega),by simp[kQ]; omega⟩
   · exact weak
 · exact weak
theorem Ku {m:Nat}:∀ (l:List Lk) {j:Nat} {t:List Cf},gOk m j t→j+l.length≤big→gOk m (j+l.length) (l.foldl uy t)
 | [],j,t,h,_=>h
 |x::l,j,t,h,hj=>by
  rw[List.foldl_cons,List.length_cons,show j+(l.length+1)=(j+1)+l.length by omega]
  rw[List.length_cons] at hj
  exact Ku l (afw h (by omega)) (by omega)
theorem Wp (n:Int):1≤zk n∧zk n≤8:=by unfold zk; omega
theorem V9 (n:Int):dh true [dh false [8] n] 1=((zk n:Nat):Int):=by
 unfold zk
 show(if (if (8:Int) < n then(8:Int) else n) > 1 then(if (8:Int) < n then(8:Int) else n) else 1)=_
 split<;>split<;>omega
theorem afI {own:List Px} {i:Nat} (ho:bZ Px.ok own) (hi:i < 8):(sQ own i).ok:=by
 have hb:=aQ
 have hw:bZ Px.ok (Qg own i):=by
  unfold Qg
  split
  · rename_i p hp
    split
    · exact⟨by show 1≤big; omega,fun x hx=>by rw[List.mem_singleton.1 hx]; exact ho.2 p (List.mem_of_getElem? hp)⟩
    · exact⟨Nat.zero_le _,fun x hx=>by cases hx⟩
  · exact⟨Nat.zero_le _,fun x hx=>by cases hx⟩
 exact⟨iE.2 (by show -9223372036854775808≤65001+(i:Int)∧65001+(i:Int)≤_; omega),iE.2 (by show -9223372036854775808≤167772161+(i:Int)∧167772161+(i:Int)≤_; omega),rfl,rfl,hw,⟨Nat.zero_le _,fun x hx=>by cases hx⟩⟩
theorem Ve {own:List Px} {m:Nat} (ho:bZ Px.ok own) (hm:m≤8):gOk m 0 ((List.range m).map (sQ own)):=⟨by simp,fun c hc=>by
 obtain⟨i,hi,rfl⟩:=List.mem_map.1 hc
 exact⟨afI ho (by have:=List.mem_range.1 hi; omega),Nat.le_refl _⟩⟩
variable [Lv]
def sGs (n:Int) (own:List Px) (l:List Lk):St:=⟨slots 153 [(0,.t (i64 n)),(1,.t (.sl 2 (own.map Px.t))),(2,.t (.sl 3 (l.map Lk.t)))],[]⟩
def acG (n:Int) (own:List Px) (l:List Lk) (k m:Int):St:=⟨slots 153 [(0,.t (i64 n)),(1,.t (.sl 2 (own.map Px.t))),(2,.t (.sl 3 (l.map Lk.t))),(14,.t (i64 n)),(15,.t (i64 k)),(16,.t (i64 m))],[]⟩
def agN (own:List Px) (l:List Lk) (m:Nat) (xs:List PV):St:=⟨slots 153 [(1,.t (.sl 2 (own.map Px.t))),(2,.t (.sl 3 (l.map Lk.t))),(7,.ptr 1 0)],[.vec 56 6 m xs,.box 22 1 (.own 0)]⟩
noncomputable def zl:Array Oper:=iU env 32 [] 1
theorem gR0 (N:Nat) (n:Int) (own:List Px) (l:List Lk):(bf env (aK env N) (iU env 32 [] 0) ((iU env 32 [] 0).toList.map fun o=>(o,false)) (oC env 32 [.t (i64 n),.t (.sl 2 (own.map Px.t)),.t (.sl 3 (l.map Lk.t))]) (fun s=>(.ok s:aj St))).bind (fun s=>(.ok ⟨dP [0,1,2] s.tmps,id s.heap⟩:aj St))= .ok (sGs n own l):=by kernel_rfl
theorem apS (N:Nat) (n:Int) (own:List Px) (l:List Lk):bf env (aK env N) zl ((zl.toList.take 3).map fun o=>(o,false)) (sGs n own l) (fun s=>(.ok s:aj St))= .ok (acG n own l (dh false [8] n) (dh true [dh false [8] n] 1)):=by kernel_rfl
theorem apT (n k:Int) (own:List Px) (l:List Lk):∀ m:Nat,1≤m→m=3→Ez env (acG n own l k m) 22 (.t (i64 m)) (.t (i64 m))=some (.own 0,⟨(acG n own l k m).tmps,[.vec 56 6 m (zW m)]⟩)
 |_,_,rfl=>by kernel_rfl
theorem apU (N:Nat) (n k:Int) (own:List Px) (l:List Lk) (m:Nat) (xs:List PV):(bf env (aK env N) zl ((zl.toList.drop 4).map fun o=>(o,false)) ⟨dK (acG n own l k m).tmps (some 17) (.own 0),[.vec 56 6 m xs]⟩ (fun s=>(.ok s:aj St))).bind (fun s=>(.ok ⟨dP [1,2,7] s.tmps,s.heap⟩:aj St))= .ok (agN own l m xs):=by kernel_rfl
theorem gR2 (N:Nat) (own:List Px) (l:List Lk):∀ m:Nat,1≤m→m=3→Es env 32 [] (2+1) (dO env N 32 [] 2 1 (agN own l m (zW m)))= .ok (.norm,sG1 own l m [])
 |_,_,rfl=>by kernel_rfl
theorem gX1 {own:List Px} {l:List Lk} {t:List Cf} (h0:t≠ []) (h8:t.length=3):canon 0 (dX env 32 [] 3).2 (YH own l t.length t false)=agL l t:=
 Ja (P:=fun t=>canon 0 (dX env 32 [] 3).2 (YH own l t.length t false)=agL l t) (fun _ _ _=>by kernel_rfl) t h0 h8
theorem gX2 {N:Nat} {l:List Lk} {t:List Cf} (h0:t≠ []) (h8:t.length=3):Es env 32 [] (4+2) (dO env N 32 [] 4 2 (agL l t))= .ok (.norm,sG2 l t ((0:Nat):Int)):=
 Ja (P:=fun t=>Es env 32 [] (4+2) (dO env N 32 [] 4 2 (agL l t))= .ok (.norm,sG2 l t ((0:Nat):Int))) (fun _ _ _=>by kernel_rfl) t h0 h8
theorem gX3 {l:List Lk} {t:List Cf} {j:Nat} (h0:t≠ []) (h8:t.length=3):canon 0 (dX env 32 [] 6).2 (Qq l t j false)=agM t:=
 Ja (P:=fun t=>canon 0 (dX env 32 [] 6).2 (Qq l t j false)=agM t) (fun _ _ _=>by kernel_rfl) t h0 h8
def aeJ:List Cf→List ah
 | []=>[]
 |c::r=> .jR 86 4 (c.s.map Sd.t)::aeJ r
def sGy (t:List Cf):St:=⟨slots 153 [(6,.own 1)],.box 22 1 (.own 1):: .jR 56 6 (t.map Cf.t)::aeJ t⟩
theorem gX4 {N:Nat} {t:List Cf} (h0:t≠ []) (h8:t.length=3):(bf env (aK env N) (iU env 32 [] 7) ((iU env 32 [] 7).toList.map fun o=>(o,false)) (agM t) (fun s=>(.ok s:aj St))).bind (fun s=>(.ok ⟨dP [6] s.tmps,Eb 1 s.heap⟩:aj St))= .ok (sGy t):=
 Ja (P:=fun t=>(bf env (aK env N) (iU env 32 [] 7) ((iU env 32 [] 7).toList.map fun o=>(o,false)) (agM t) (fun s=>(.ok s:aj St))).bind (fun s=>(.ok ⟨dP [6] s.tmps,Eb 1 s.heap⟩:aj St))= .ok (sGy t)) (fun _ _ _=>by kernel_rfl) t h0 h8
theorem gRet (N:Nat) (t:List Cf):dO env N 32 [] 8 1 (sGy t)= .ok (.ret,sGy t):=by kernel_rfl
theorem apR (t:List Cf):Bo env (dU env 32) (fun r H'=>aY env 32 r H'= .ok (.sl 6 (t.map Cf.t))) (sGy t):=⟨.own 1,(sGy t).heap,by kernel_rfl,show aY env 32 (.own 1) (sGy t).heap= .ok (.sl 6 (t.map Cf.t)) by kernel_rfl⟩
theorem afk {N:Nat} (he:nO env) {n k:Int} {own:List Px} {l:List Lk} {m:Nat} (h1:1≤m) (h8:m=3) (hm:dh true [dh false [8] n] 1=(m:Int)) {Q:Ex→St→Prop} (hQ:ay env N 32 [] 2 (agN own l m (zW m)) Q):ay env N 32 [] 1 (sGs n own l) Q:=by
 obtain⟨n1,n2⟩:=yX he N
 have hc:fE env (aK env N):=uj he n1 n2
 have hp:(aN env 32 [])[1]? =some (.region (bF ((aN env 32 []).getD 1 .skip)) zl false):=by kernel_rfl
 obtain⟨sf,g1,g2⟩:=bK (apU N n (dh false [8] n) own l m (zW m))
 simp only[aj.ok.injEq] at g2
 refine G8 hp ⟨_,_,_,rfl⟩ (jf.turn (Q':=fun s=>s=sf) (jf.aaX ?_) fun s hs=>?_)
 · have e1:zl.toList=zl.toList.take 3++zl.toList.drop 3:=(List.take_append_drop _ _).symm
   rw[e1]
   have h3:=apS N n own l
   rw[hm] at h3
   refine EJ n1 hc h3 ?_
   have e2:zl.toList.drop 3=(zl.toList.getD 3 default)::zl.toList.drop 4:=by kernel_rfl
   rw[e2]
   have q1:(zl.toList.getD 3 default).guard=none:=by kernel_rfl
   have q2:(zl.toList.getD 3 default).op= .makeSlice 22 (.tmp 16) (.tmp 16):=by kernel_rfl
   have q3:bP env.P (acG n own l (dh false [8] n) m).tmps 0 (.tmp 16)=some (.t (i64 m)):=by kernel_rfl
   refine SQ q1 q2 q3 q3 (apT n _ own l m h1 h8) ?_
   have e3:(zl.toList.getD 3 default).dst=some 17:=by kernel_rfl
   rw[e3]
   have:=EJ (ops:=zl) (l:=zl.toList.drop 4) (m:=[]) (Q:=fun s=>s=sf) n1 hc g1 rfl
   rwa [List.append_nil] at this
 · subst hs
   refine⟨agN own l m (zW m),?_,hQ⟩
   rw[←g2]
   exact fB.keep [1,2,7] s.tmps s.heap
theorem afj {N:Nat} (he:nO env) (hN:big+40≤N) {n:Int} {own:List Px} {l:List Lk} (ho:bZ Px.ok own) (hl:bZ Lk.ok l) (hlb:(l.length+1)*64≤big) (h3:zk n=3):
 PK env (aK env N) 32 ([i64 n,.sl 2 (own.map Px.t),.sl 3 (l.map Lk.t)].map .t) [] (fun r H'=>aY env 32 r H'= .ok (.sl 6 ((Ue n own l).map Cf.t))):=by
 have hbg:=aQ
 have hm1:1≤zk n:=by omega
 have hm8:=h3
 clear h3
 refine DI ⟨dU env 32,by kernel_rfl,by kernel_rfl⟩ ?_
 refine rX (i:=0) he (by kernel_rfl) (of_decide_eq_true (by kernel_rfl)) (gR0 N n own l) Jt ?_
 refine afk (k:=n) he hm1 hm8 (V9 n) ?_
 unfold Ue
 generalize zk n=m at hm1 hm8 ⊢
 refine zC (i:=2) 1 (id:=0) (c:=gV ((aN env 32 []).getD 3 .skip)) (gR2 N own l m hm1 hm8) (by kernel_rfl) (by kernel_rfl) (fun k st=>∃ i,i+k=m∧st=sG1 own l m ((List.range i).map (sQ own))) (m:=m) ⟨0,by omega,rfl⟩ ?_
 rintro k st ⟨i,hik,rfl⟩
 show ay env N 32 [3] 0 _ _
 have hli:((List.range i).map (sQ own)).length=i:=by simp
 by_cases him:i < m
 · refine afg he (by omega) ho hm8 (by rw[hli]; exact him) ?_
   refine⟨k - 1,by omega,i+1,by omega,?_⟩
   rw[hli]
   have e:(List.range i).map (sQ own)++ [sQ own i]=(List.range (i+1)).map (sQ own):=by rw[List.range_succ,List.map_append]; rfl
   rw[e]
   have hl1:((List.range (i+1)).map (sQ own)).length=i+1:=by simp
   exact(ajX (N:=N) (own:=own) (l:=l) (m:=m) (i:=i) hl1 (by omega) hm8).n5
 · obtain rfl:i=m:=by omega
   have h1:=aaI N own l i ((List.range i).map (sQ own))
   rw[hli,decide_eq_false (by omega)] at h1
   refine fD (e:= .exit 0) 2 h1 ?_
   refine wS (wS ?_)
   simp only[if_true]
   have hne:(List.range i).map (sQ own)≠ []:=fun e=>by rw[e] at hli; simp at hli; omega
   have hx:=gX1 (own:=own) (l:=l) hne (by rw[hli]; exact hm8)
   rw[hli] at hx
   have hg0:=Ve (own:=own) (m:=i) ho (by omega)
   generalize (List.range i).map (sQ own)=t0 at hli hne hx hg0 h1
   show ay env N 32 [] (2+1+1) (canon 0 (dX env 32 [] 3).2 (YH own l i t0 false)) _
   rw[hx]
   refine zC (i:=4) 2 (id:=2) (c:=gV ((aN env 32 []).getD 6 .skip)) (gX2 hne (by omega)) (by kernel_rfl) (by kernel_rfl) (fun k st=>∃ j,j+k=l.length∧st=sG2 l ((l.take j).foldl uy t0) (j:Nat)) (m:=l.length) ⟨0,by omega,rfl⟩ ?_
   rintro k st ⟨j,hjk,rfl⟩
   show ay env N 32 [6] 0 _ _
   have hgj:gOk i (0+(l.take j).length) ((l.take j).foldl uy t0):=Ku _ hg0 (by rw[List.length_take]; omega)
   rw[List.length_take,Nat.min_eq_left (show j≤l.length by omega),Nat.zero_add] at hgj
   have hnj:(l.take j).foldl uy t0≠ []:=fun e=>by have:=hgj.1; rw[e] at this; simp at this; omega
   by_cases hj:j < l.length
   · have hx':l[j]? =some l[j]:=List.getElem?_eq_getElem hj
     refine afi he (by omega) hnj (by rw[hgj.1]; omega) hl.1 hx' (hl.2 _ (List.mem_of_getElem? hx')) (fun c hc=>⟨(hgj.2 c hc).1,by have:=(hgj.2 c hc).2; have:(c.s.length+1)*64≤(l.length+1)*64:=Nat.mul_le_mul_right _ (by omega); omega⟩) fun s hs=>?_
     refine⟨k - 1,by omega,j+1,by omega,?_⟩
     show canon 0 (dX env 32 [] 6).1 s=_
     rw[hs,List.take_add_one,hx',List.foldl_append]
     rfl
   · obtain rfl:j=l.length:=by omega
     have h1:=aaJ N l ((l.take l.length).foldl uy t0) l.length
     rw[decide_eq_false (show ¬ ((l.length:Nat):Int) < (((l.map Lk.t).length:Nat):Int) by rw[List.length_map]; omega)] at h1
     refine fD (e:= .exit 2) 2 h1 ?_
     refine wS (wS ?_)
     simp only[if_true]
     rw[List.take_length] at hnj hgj ⊢
     show ay env N 32 [] (4+2+1) (canon 0 (dX env 32 [] 6).2 (Qq l (l.foldl uy t0) l.length false)) _
     rw[gX3 hnj (by rw[hgj.1]; omega)]
     refine rX (i:=7) (g:=Eb 1) he (by kernel_rfl) (of_decide_eq_true (by kernel_rfl)) (gX4 hnj (by rw[hgj.1]; omega)) (fun tm H=>TW 1) ?_
     refine fD (e:= .ret) 1 (gRet N _) ?_
     exact apR _
end
section
open Go.RowKit Go.Proofs
theorem Lk.tells (x y:Lk) (h:x.t=y.t):x=y:=by
 cases x; cases y
 simp only[Lk.t,T.agg.injEq,List.cons.injEq,and_true] at h
 simp only[eu _ _ h.1,eu _ _ h.2.1,eu _ _ h.2.2]
def N9 (t:List Cf):Prop:=∀ c∈t,(c.s.length+1)*8≤big
noncomputable def FW (ts:List T):aj T:=open Classical in if h:∃ t:List Cf,ts= [.sl 6 (t.map Cf.t)]∧bZ Cf.ok t∧N9 t then .ok (G5 (zG h.choose)) else .stuck
theorem Vq {t:List Cf} (h:bZ Cf.ok t) (hr:N9 t):FW [.sl 6 (t.map Cf.t)]= .ok (G5 (zG t)):=by
 have hc:∃ t':List Cf,[T.sl 6 (t.map Cf.t)]= [.sl 6 (t'.map Cf.t)]∧bZ Cf.ok t'∧N9 t':=⟨t,rfl,h,hr⟩
 unfold FW
 rw[dif_pos hc]
 have h1:=hc.choose_spec.1
 generalize hc.choose=q at h1 ⊢
 simp only[List.cons.injEq,T.sl.injEq,true_and,and_true] at h1
 rw[←lY Cf.tells h1]
noncomputable def PL (ts:List T):aj T:=open Classical in if h:∃ q:Int×List Px×List Lk,ts= [i64 q.1,.sl 2 (q.2.1.map Px.t),.sl 3 (q.2.2.map Lk.t)]∧bZ Px.ok q.2.1∧bZ Lk.ok q.2.2∧(q.2.2.length+1)*64≤big∧zk q.1=3 then .ok (.sl 6 ((Ue h.choose.1 h.choose.2.1 h.choose.2.2).map Cf.t)) else .stuck
theorem aaL {n:Int} {own:List Px} {l:List Lk} (h1:bZ Px.ok own) (h2:bZ Lk.ok l) (h3:(l.length+1)*64≤big) (h4:zk n=3):PL [i64 n,.sl 2 (own.map Px.t),.sl 3 (l.map Lk.t)]= .ok (.sl 6 ((Ue n own l).map Cf.t)):=by
 have hc:∃ q:Int×List Px×List Lk,[i64 n,.sl 2 (own.map Px.t),.sl 3 (l.map Lk.t)]= [i64 q.1,.sl 2 (q.2.1.map Px.t),.sl 3 (q.2.2.map Lk.t)]∧bZ Px.ok q.2.1∧bZ Lk.ok q.2.2∧(q.2.2.length+1)*64≤big∧zk q.1=3:=⟨(n,own,l),rfl,h1,h2,h3,h4⟩
 unfold PL
 rw[dif_pos hc]
 have e:=hc.choose_spec.1
 generalize hc.choose=q at e ⊢
 simp only[List.cons.injEq,T.sl.injEq,true_and,and_true] at e
 rw[←eu _ _ e.1,←lY Px.tells e.2.1,←lY Lk.tells e.2.2]
@[reducible] def X0:Lv:={}
theorem ok0:nO (@env X0):=@O8 X0 (fun e h=>by cases h) (fun e h=>by cases h) (fun e h=>by cases h)
theorem aiH:xU (@env X0) 76 (P6):=by
 refine QN ok0 (f:=76) (G:=P6) fun ts hw hne=>?_
 letI:=X0
 by_cases hc:∃ q:Cf×List (List En),ts= [q.1.t,.sl 1 (gZ q.2)]∧q.1.ok∧FH q.2∧zH q.1 q.2
 · obtain⟨⟨c,t⟩,rfl,h1,h2,h3⟩:=hc
   exact⟨big+80,_,aaR h1 h2 h3,afx ok0 (Nat.le_refl _) h1 h2 h3⟩
 · refine absurd ?_ hne
   unfold P6
   exact dif_neg hc
theorem afW:xU (@env X0) 60 FW:=by
 refine QN ok0 (f:=60) (G:=FW) fun ts hw hne=>?_
 letI:=X0
 by_cases hc:∃ t:List Cf,ts= [.sl 6 (t.map Cf.t)]∧bZ Cf.ok t∧N9 t
 · obtain⟨t,rfl,h1,h2⟩:=hc
   exact⟨big+80,_,Vq h1 h2,acu (Nat.le_refl _) h1 h2⟩
 · refine absurd ?_ hne
   unfold FW
   exact dif_neg hc
theorem aiA:xU (@env X0) 32 PL:=by
 refine QN ok0 (f:=32) (G:=PL) fun ts hw hne=>?_
 letI:=X0
 by_cases hc:∃ q:Int×List Px×List Lk,ts= [i64 q.1,.sl 2 (q.2.1.map Px.t),.sl 3 (q.2.2.map Lk.t)]∧bZ Px.ok q.2.1∧bZ Lk.ok q.2.2∧(q.2.2.length+1)*64≤big∧zk q.1=3
 · obtain⟨⟨n,own,l⟩,rfl,h1,h2,h3,h4⟩:=hc
   exact⟨big+80,_,aaL h1 h2 h3 h4,afj ok0 (by omega) h1 h2 h3 h4⟩
 · refine absurd ?_ hne
   unfold PL
   exact dif_neg hc
@[reducible] noncomputable def lv1:Lv:={loc:=some (P6),ring:=some FW,gao:=some PL}
theorem ok1:nO (@env lv1):=@O8 lv1 (fun e h=>by
 have h:some (P6)=some e:=h
 injection h with h
 subst h
 exact xU.env (E:=@env X0) (E':=@env lv1) rfl rfl aiH) (fun e h=>by
 have h:some FW=some e:=h
 injection h with h
 subst h
 exact xU.env (E:=@env X0) (E':=@env lv1) rfl rfl afW) (fun e h=>by
 have h:some PL=some e:=h
 injection h with h
 subst h
 exact xU.env (E:=@env X0) (E':=@env lv1) rfl rfl aiA)
noncomputable instance lvI:Lv:=lv1
theorem O7:nO env:=ok1
theorem aly {M:Nat} {t:List Cf} (h:bZ Cf.ok t) (hr:N9 t):ak env M 60 [.sl 6 (t.map Cf.t)]= .ok (G5 (zG t)):=by
 have e:ak env M 60 [.sl 6 (t.map Cf.t)]=bif T.wfs [.sl 6 (t.map Cf.t)] then FW [.sl 6 (t.map Cf.t)] else .absurd:=rfl
 rw[e,gQ (ku h)]
 exact Vq h hr
theorem alj {M:Nat} {n:Int} {own:List Px} {l:List Lk} (hn:aT n=true) (h1:bZ Px.ok own) (h2:bZ Lk.ok l) (h3:(l.length+1)*64≤big) (h4:zk n=3):ak env M 32 [i64 n,.sl 2 (own.map Px.t),.sl 3 (l.map Lk.t)]= .ok (.sl 6 ((Ue n own l).map Cf.t)):=by
 have e:ak env M 32 [i64 n,.sl 2 (own.map Px.t),.sl 3 (l.map Lk.t)]=bif T.wfs [i64 n,.sl 2 (own.map Px.t),.sl 3 (l.map Lk.t)] then PL [i64 n,.sl 2 (own.map Px.t),.sl 3 (l.map Lk.t)] else .absurd:=rfl
 rw[e,BP (bg hn) (dG (fun _ h=>Px.ok.wf h) h1) (dG (fun _ h=>Lk.ok.wf h) h2)]
 exact aaL h1 h2 h3 h4
theorem alB {M:Nat} {c:Cf} {t:List (List En)} (h:c.ok) (ht:FH t) (hr:zH c t):ak env M 76 [c.t,.sl 1 (gZ t)]= .ok (.sl 8 ((kH c t).map Ch.t)):=by
 have e:ak env M 76 [c.t,.sl 1 (gZ t)]=bif T.wfs [c.t,.sl 1 (gZ t)] then P6 [c.t,.sl 1 (gZ t)] else .absurd:=rfl
 rw[e,dN h.wf ht.wf]
 exact aaR h ht hr
end
end Go.aP
