/- The texts of a proof, one behind the other: an interpreter and its soundness, what the functions of the program answer, and plain laws on that. -/
import Derived.Test.YtjlpnhpfbgbkhaaGreatK10
import Derived.Test.YtjlpnhpfbgbkhaaGreatX1
import Derived.Test.YtjlpnhpfbgbkhaaGreatX2
import Derived.Test.YtjlpnhpfbgbkhaaGreatK9
import Derived.Test.YtjlpnhpfbgbkhaaGreatX4
import Derived.Test.YtjlpnhpfbgbkhaaGreatX10
set_option linter.unusedVariables false
set_option linter.unusedSimpArgs false
set_option linter.unnecessarySimpa false
set_option linter.unusedSectionVars false
set_option maxRecDepth 100000
namespace Go.aT
section
open Go.RowKit Go.Proofs
def iQ (a r:Int):Sd:=⟨a,r,[⟨0,⟨0,0⟩,0,2,400 - 100*r⟩],if r=1 then[⟨0,⟨0,0⟩,0,1,0⟩] else[⟨4,⟨0,0⟩,0,1,0⟩,⟨4,⟨0,0⟩,1,1,0⟩]⟩
def PK (own:List Px) (i:Nat):List Px:=match own[i]? with|some p=>if dB p then[p] else[]|none=>[]
def sF (own:List Px) (i:Nat):Cf:=⟨65001+(i:Int),167772161+(i:Int),90,1000,PK own i,[]⟩
def yZ (n:Int):Nat:=(max 1 (min n 8)).toNat
def Iy (m:Nat) (x:Lk):Bool:=decide (0≤x.a)&&decide (x.a < m)&&decide (0≤x.b)&&decide (x.b < m)&& !(x.a==x.b)&&decide (1≤x.r)&&decide (x.r≤3)
def kQ (c:Cf) (s:Sd):Cf:={c with s:=c.s++ [s]}
def uh (t:List Cf) (x:Lk):List Cf:=if Iy t.length x then(match t[x.a.toNat]?,t[x.b.toNat]? with
 |some c,some d=>if (idxOf c d.a).isSome then t else(t.set x.a.toNat (kQ c (iQ d.a x.r))).set x.b.toNat (kQ d (iQ c.a (4 - x.r)))
 |_,_=>t) else t
def TG (n:Int) (own:List Px) (l:List Lk):List Cf:=l.foldl uh ((List.range (yZ n)).map (sF own))
def BH:Nat→List Cf→List PV
 |_,[]=>[]
 |b,c::r=> .t (i64 c.a):: .t (i64 c.d):: .t (i64 c.h):: .t (i64 c.k):: .t (.sl 2 (c.w.map Px.t)):: .own b::BH (b+1) r
def zK:Nat→List PV
 |0=>[]
 |n+1=> .t (i64 0):: .t (i64 0):: .t (i64 0):: .t (i64 0):: .nil 25 2:: .nil 86 4::zK n
def IC:List Cf→List aj
 | []=>[]
 |c::r=> .row 86 4 (c.s.map Sd.t)::IC r
def fO (m:Nat) (t:List Cf) (H:List aj):List aj:= .box 22 1 (.own 1):: .vec 56 6 m (BH 2 t++zK (m - t.length))::(IC t++H)
def sG1 (own:List Px) (l:List Lk) (m:Nat) (t:List Cf):St:=⟨slots 153 [(1,.t (.sl 2 (own.map Px.t))),(2,.t (.sl 3 (l.map Lk.t))),(7,.ptr 0 0),(19,.t (i64 m)),(20,.t (i64 t.length))],fO m t []⟩
def agW (l:List Lk) (t:List Cf):St:=⟨slots 153 [(2,.t (.sl 3 (l.map Lk.t))),(7,.ptr 0 0)],fO t.length t []⟩
def Bd (l:List Lk) (j:Int):List (Nat×PV):=[(7,.ptr 0 0),(9,.fn 71 [] [.ptr 0 0]),(55,.t (.sl 3 (l.map Lk.t))),(56,.t (i64 (l.map Lk.t).length)),(57,.t (i64 j))]
def sG2 (l:List Lk) (t:List Cf) (j:Int):St:=⟨slots 153 (Bd l j),fO t.length t []⟩
def agX (t:List Cf):St:=⟨slots 153 [(7,.ptr 0 0)],fO t.length t []⟩
def sG3 (l:List Lk) (t:List Cf) (j:Int) (x:Lk) (d:Nat→PV):St:=⟨zH 153 d ((11,.ptr (t.length+2) 0)::Bd l j),fO t.length t [.box 67 3 (.t x.t)]⟩
def sG4 (l:List Lk) (t:List Cf) (j:Int) (x:Lk) (b:Bool) (d:Nat→PV):St:=⟨zH 153 d ((11,.ptr (t.length+2) 0)::(13,.t (.bool b))::Bd l j),fO t.length t [.box 67 3 (.t x.t)]⟩
variable [Lv]
end
section
open Go.RowKit Go.Proofs
variable [Lv]
def Na (own:List Px) (l:List Lk) (m i:Nat) (H:List aj):St:=⟨slots 153 [(1,.t (.sl 2 (own.map Px.t))),(2,.t (.sl 3 (l.map Lk.t))),(7,.ptr 0 0),(8,.t (i64 i)),(19,.t (i64 m)),(20,.t (i64 i))],H⟩
theorem aty (N:Nat) (own:List Px) (l:List Lk) (m i:Nat) (H:List aj):(dO env N 32 [3,2] 2 1 (Na own l m i H))=bif decide ((↑i:Int) < (↑(List.map Px.t own).length:Int)) then bK (List.map Px.t own) (↑i:Int) fun e=>cl N 70 [e] fun x=>ah.ok (Ex.norm,{tmps:=slots 153 [(1,PV.t (T.sl 2 (List.map Px.t own))),(2,PV.t (T.sl 3 (List.map Lk.t l))),(7,PV.ptr 0 0),(8,PV.t (i64 (↑i:Int))),(19,PV.t (i64 (↑m:Int))),(20,PV.t (i64 (↑i:Int))),(31,PV.t (i64 (↑i:Int))),(32,PV.t (T.sl 2 (List.map Px.t own))),(33,PV.t (i64 (↑(List.map Px.t own).length:Int))),(34,PV.t (T.bool (decide ((↑i:Int) < (↑(List.map Px.t own).length:Int))))),(35,PV.t (T.bool true)),(36,PV.t (T.sl 2 (List.map Px.t own))),(37,PV.t (i64 (↑i:Int))),(38,PV.rp 2 e 0),(39,PV.t e),(40,PV.t x),(41,PV.t x)],heap:=H}) else ah.ok (Ex.norm,{tmps:=slots 153 [(1,PV.t (T.sl 2 (List.map Px.t own))),(2,PV.t (T.sl 3 (List.map Lk.t l))),(7,PV.ptr 0 0),(8,PV.t (i64 (↑i:Int))),(19,PV.t (i64 (↑m:Int))),(20,PV.t (i64 (↑i:Int))),(31,PV.t (i64 (↑i:Int))),(32,PV.t (T.sl 2 (List.map Px.t own))),(33,PV.t (i64 (↑(List.map Px.t own).length:Int))),(34,PV.t (T.bool (decide ((↑i:Int) < (↑(List.map Px.t own).length:Int))))),(35,PV.t (T.bool false)),(36,PV.au []),(37,PV.au []),(38,PV.au []),(39,PV.au []),(40,PV.au []),(41,PV.t (T.bool false))],heap:=H}):=by kernel_rfl
def aoq (own:List Px) (l:List Lk) (m i:Nat) (H:List aj):St:=⟨slots 153 [(1,.t (.sl 2 (own.map Px.t))),(2,.t (.sl 3 (l.map Lk.t))),(7,.ptr 0 0),(8,.t (i64 i)),(19,.t (i64 m)),(20,.t (i64 i)),(41,.t (.bool true))],H⟩
end
section
open Go.RowKit Go.Proofs
variable [Lv]
def sD (i:Nat):Cf:=⟨65001+(i:Int),167772161+(i:Int),90,1000,[],[]⟩
def aq8 (own:List Px) (l:List Lk) (m i:Nat):List (Nat×PV):=[(1,.t (.sl 2 (own.map Px.t))),(2,.t (.sl 3 (l.map Lk.t))),(7,.ptr 0 0),(19,.t (i64 m)),(20,.t (i64 i))]
def YA (own:List Px) (l:List Lk) (m i:Nat) (H:List aj) (d:Nat→PV):St:=⟨zH 153 d (aq8 own l m i),H⟩
def akb (m:Nat) (t:List Cf) (W:List T):List aj:=(fO m t []).set 1 (.vec 56 6 m ((BH 2 t++zK (m - t.length)).set (6*(t.length - 1)+4) (.full 2 W)))
def ak4 (own:List Px) (l:List Lk) (m i:Nat) (H:List aj):St:=⟨slots 153 [(1,.t (.sl 2 (own.map Px.t))),(2,.t (.sl 3 (l.map Lk.t))),(7,.ptr 0 0),(8,.t (i64 i)),(19,.t (i64 m)),(20,.t (i64 i)),(41,.t (.bool true)),(42,.own 1),(43,.t (i64 i)),(44,.t (.sl 2 (own.map Px.t))),(45,.t (i64 i)),(46,.t (i64 i)),(47,.t (i64 ((i+1:Nat):Int))),(48,.t (i64 i)),(49,.t (i64 ((i+1:Nat):Int))),(50,.full 2 (((own.map Px.t).take (i+1)).drop i)),(51,.iC 1 6 i 0),(52,.iC 1 6 i 4)],H⟩
def adP (t:List Cf) (W:List Px):List Cf:=t.take (t.length - 1)++(t.drop (t.length - 1)).map fun c=>{c with w:=W}
noncomputable def op5:Array Oper:=iW env 32 [3,2] 1
noncomputable def op8:Array Oper:=iW env 32 [3] 3
structure XZ (N:Nat) (own:List Px) (l:List Lk) (m:Nat) (t0:List Cf):Prop where
 n1:(bn env (aJ env N) op5 (op5.toList.map fun o=>(o,false)) (Na own l m t0.length (fO m t0 [])) fun s=>(.ok s:ah St)).bind (fun s=>(.ok ⟨dP [1,2,7,8,19,20] s.tmps,qO 1 (6*t0.length+4) (DW 1 (6*t0.length+5) s.heap)⟩:ah St))= .ok (Na own l m t0.length (fO m (t0++ [sD t0.length]) []))
structure X0 (N:Nat) (own:List Px) (l:List Lk) (m i:Nat) (t:List Cf):Prop where
 n3:dO env N 32 [3,2] 3 1 (aoq own l m i (fO m t []))=chk (decide ((0:Int)≤((i+1:Nat):Int))&&decide (((i+1:Nat):Int)≤(((own.map Px.t).length:Nat):Int))) (.ok (.norm,ak4 own l m i (akb m t (((own.map Px.t).take (i+1)).drop i))))
 n4:∀ (W:List Px) (d:Nat→PV),(bn env (aJ env N) op8 (op8.toList.map fun o=>(o,false)) (YA own l m i (akb m t (W.map Px.t)) d) fun s=>(.ok s:ah St)).bind (fun s=>(.ok ⟨dP [1,2,7,19,20] s.tmps,qO 1 (6*i+4) s.heap⟩:ah St))= .ok (sG1 own l m (adP t W))
 n6:∀ (d:Nat→PV),(bn env (aJ env N) op8 (op8.toList.map fun o=>(o,false)) (YA own l m i (fO m t []) d) fun s=>(.ok s:ah St)).bind (fun s=>(.ok ⟨dP [1,2,7,19,20] s.tmps,qO 1 (6*i+4) s.heap⟩:ah St))= .ok (sG1 own l m t)
 n5:canon 0 (dZ env 32 [] 3).1 (sG1 own l m t)=sG1 own l m t
theorem ao2 (N:Nat) (own:List Px) (l:List Lk):XZ N own l 3 []:=⟨by kernel_rfl⟩
theorem ao5 (N:Nat) (own:List Px) (l:List Lk) (c0:Cf):X0 N own l 3 0 [c0]:=⟨by kernel_rfl,fun W d=>by kernel_rfl,fun d=>by kernel_rfl,by kernel_rfl⟩
theorem ao3 (N:Nat) (own:List Px) (l:List Lk) (c0:Cf):XZ N own l 3 [c0]:=⟨by kernel_rfl⟩
theorem ao6 (N:Nat) (own:List Px) (l:List Lk) (c0 c1:Cf):X0 N own l 3 1 [c0,c1]:=⟨by kernel_rfl,fun W d=>by kernel_rfl,fun d=>by kernel_rfl,by kernel_rfl⟩
theorem ao4 (N:Nat) (own:List Px) (l:List Lk) (c0 c1:Cf):XZ N own l 3 [c0,c1]:=⟨by kernel_rfl⟩
theorem ao7 (N:Nat) (own:List Px) (l:List Lk) (c0 c1 c2:Cf):X0 N own l 3 2 [c0,c1,c2]:=⟨by kernel_rfl,fun W d=>by kernel_rfl,fun d=>by kernel_rfl,by kernel_rfl⟩
theorem ao8 {N:Nat} {own:List Px} {l:List Lk}:∀ {m:Nat} {t:List Cf},t.length < m→m=3→XZ N own l m t
 |_,[],_,rfl=>ao2 N own l
 |_,[c0],_,rfl=>ao3 N own l c0
 |_,[c0,c1],_,rfl=>ao4 N own l c0 c1
 |_,_::_::_::_,h,rfl=>by simp at h<;>omega
theorem akl {N:Nat} {own:List Px} {l:List Lk}:∀ {m i:Nat} {t:List Cf},t.length=i+1→t.length≤m→m=3→X0 N own l m i t
 |_,_,[c0],h,_,rfl=>by cases h; exact ao5 N own l c0
 |_,_,[c0,c1],h,_,rfl=>by cases h; exact ao6 N own l c0 c1
 |_,_,[c0,c1,c2],h,_,rfl=>by cases h; exact ao7 N own l c0 c1 c2
 |_,_,_::_::_::_::_,_,h,rfl=>by simp at h<;>omega
 |_,_,[],h,_,_=>by simp at h
end
section
open Go.RowKit
section
variable {E:Env} {n:Nat} {f:FuncId} {p:List Nat}
end
end
section
open Go.RowKit Go.Proofs
theorem jg.apr {E:Env} {rc:Caller} {ops:Array Oper} (hrc:rc.Nat) (hc:fG E rc) {id:Nat} {st s':St} {Q:St→Prop} {live:List Nat} {g:List aj→List aj} (h:(bn E rc ops (ops.toList.map fun o=>(o,false)) st (fun s=>(.ok s:ah St))).bind (fun s=>(.ok ⟨dP live s.tmps,g s.heap⟩:ah St))= .ok s')
 (hg:∀ tm H,fD ⟨tm,H⟩ ⟨tm,g H⟩) (hQ:Q s'):jg E (.region id ops false) st Q:=by
 obtain⟨s1,h1,h2⟩:=bQ h
 simp only[ah.ok.injEq] at h2
 refine jg.turn (Q':=fun s=>s=s1) (jg.run hrc hc h1 rfl) fun s hs=>?_
 subst hs
 exact⟨s',h2 ▸ (fD.keep live s.tmps s.heap).trans (hg _ _),hQ⟩
theorem akh {c:Code} (h:drC c=false):∃ id,c= .region id (akU c) false:=by
 cases c with
 |region id ops dr=>simp only[drC] at h; subst h; exact⟨id,rfl⟩
 |_=>cases h
theorem rO {E:Env} {n:Nat} {f:FuncId} {p:List Nat} (he:nK E) {i:Nat} {st s':St} {Q:Ex→St→Prop} {live:List Nat} {g:List aj→List aj} (hd:drC ((aO E f p).getD i .skip)=false) (hl:i < (aO E f p).length)
 (h:(bn E (aJ E n) (iW E f p i) ((iW E f p i).toList.map fun o=>(o,false)) st (fun s=>(.ok s:ah St))).bind (fun s=>(.ok ⟨dP live s.tmps,g s.heap⟩:ah St))= .ok s') (hg:∀ tm H,fD ⟨tm,H⟩ ⟨tm,g H⟩) (hQ:ay E n f p (i+1) s' Q):ay E n f p i st Q:=by
 obtain⟨n1,n2⟩:=yM he n
 have hc:fG E (aJ E n):=tY he n1 n2
 obtain⟨id,e⟩:=akh hd
 have hp:(aO E f p)[i]? =some (.region id (iW E f p i) false):=by
  rw[List.getD_eq_getElem?_getD,List.getElem?_eq_getElem hl] at e
  rw[List.getElem?_eq_getElem hl]
  simp only[Option.getD_some] at e
  rw[e]
  unfold iW
  rw[List.getD_eq_getElem?_getD,List.getElem?_eq_getElem hl]
  simp only[Option.getD_some]
 exact Gt hp ⟨_,_,_,rfl⟩ (jg.apr n1 hc h hg hQ)
theorem Rq {E:Env} {n:Nat} {f:FuncId} {p:List Nat} {i:Nat} {st s:St} (hd:drC ((aO E f p).getD i .skip)=false) (hl:i < (aO E f p).length) (h:dO E n f p i 1 st= .ok (.norm,s)):bn E (aJ E n) (iW E f p i) ((iW E f p i).toList.map fun o=>(o,false)) st (fun s=>(.ok s:ah St))= .ok s:=by
 obtain⟨id,e⟩:=akh hd
 have hp:(aO E f p)[i]? =some (.region id (iW E f p i) false):=by
  rw[List.getD_eq_getElem?_getD,List.getElem?_eq_getElem hl] at e
  rw[List.getElem?_eq_getElem hl]
  simp only[Option.getD_some] at e
  rw[e]
  unfold iW
  rw[List.getD_eq_getElem?_getD,List.getElem?_eq_getElem hl]
  simp only[Option.getD_some]
 unfold dO at h
 rw[drop_one hp] at h
 have h:bn E (aJ E n) (iW E f p i) ((iW E f p i).toList.map fun o=>(o,false)) st (fun s=>(.ok (.norm,s):ah (Ex×St)))= .ok (.norm,s):=h
 obtain⟨s1,h1,h2⟩:=I4 (fH E n) h
 simp only[ah.ok.injEq,Prod.mk.injEq,true_and] at h2
 rw[h1,h2]
theorem Zu {E:Env} {n:Nat} {f:FuncId} {p:List Nat} {i:Nat} {c:Operand} {a:Code} {st:St} (h:(aO E f p)[i]? =some (.cond c a .skip)) (hv:bV E.P st.tmps 0 c=some (.t (.bool false))):dO E n f p i 1 st= .ok (.norm,st):=by
 unfold dO
 rw[drop_one h]
 show dA E (aJ E n) f (dW E f) n 0 (.cond c a .skip) st _=_
 simp only[dA,hv,aS,bT,cond_false]
 rfl
theorem Jd (tm:List PV) (H:List aj):fD ⟨tm,H⟩ ⟨tm,id H⟩:=fD.refl _
def XG (r:ah (Ex×St)):St:=match r with| .ok q=>q.2|_=>⟨[],[]⟩
def apy:Code→Code
 | .cond _ a _=>a
 |_=> .skip
variable [Lv]
def agV (own:List Px) (l:List Lk) (m i:Nat) (v:Bool) (H:List aj):St:=⟨slots 153 [(1,.t (.sl 2 (own.map Px.t))),(2,.t (.sl 3 (l.map Lk.t))),(7,.ptr 0 0),(8,.t (i64 i)),(19,.t (i64 m)),(20,.t (i64 i)),(41,.t (.bool v))],H⟩
def Yz (own:List Px) (l:List Lk) (m:Nat) (t:List Cf) (b:Bool):St:=⟨slots 153 [(1,.t (.sl 2 (own.map Px.t))),(2,.t (.sl 3 (l.map Lk.t))),(7,.ptr 0 0),(19,.t (i64 m)),(20,.t (i64 t.length)),(21,.t (.bool b))],fO m t []⟩
theorem aax (N:Nat) (own:List Px) (l:List Lk) (m:Nat) (t:List Cf):dO env N 32 [3] 0 2 (sG1 own l m t)=bif decide (((t.length:Nat):Int) < (m:Int)) then .ok (.norm,Yz own l m t (decide (((t.length:Nat):Int) < (m:Int)))) else .ok (.exit 0,Yz own l m t (decide (((t.length:Nat):Int) < (m:Int)))):=by kernel_rfl
theorem aoV (N:Nat) (own:List Px) (l:List Lk) (m:Nat) (t:List Cf) (b:Bool):(bn env (aJ env N) (iW env 32 [3,2] 0) ((iW env 32 [3,2] 0).toList.map fun o=>(o,false)) (Yz own l m t b) (fun s=>(.ok s:ah St))).bind (fun s=>(.ok ⟨dP [1,2,7,8,19,20] s.tmps,id s.heap⟩:ah St))= .ok (Na own l m t.length (fO m t [])):=by kernel_rfl
theorem UW (own:List Px) (i:Nat):sF own i={sD i with w:=PK own i}:=rfl
theorem abE (t:List Cf) (c:Cf) (W:List Px):adP (t++ [c]) W=t++ [{c with w:=W}]:=by
 unfold adP
 rw[List.length_append,List.length_singleton,Nat.add_sub_cancel,List.take_left,List.drop_left]
 rfl
theorem ajx (l i j:Nat) (tm:List PV) (H:List aj):fD ⟨tm,H⟩ ⟨tm,qO l i (DW l j H)⟩:=(TA l j).trans (C9 l i)
theorem afr {N:Nat} (he:nK env) (hN:2≤N) {own:List Px} {l:List Lk} {m:Nat} {t:List Cf} {Q:Ex→St→Prop} (ho:cO Px.ok own) (hm:m=3) (ht:t.length < m) (hQ:Q .norm (sG1 own l m (t++ [sF own t.length]))):ay env N 32 [3] 0 (sG1 own l m t) Q:=by
 have hbg:=aU
 have hol:=ho.1
 have h1:=aax N own l m t
 rw[decide_eq_true (show((t.length:Nat):Int) < (m:Int) by omega)] at h1
 refine fF (e:= .norm) 2 h1 ?_
 refine oC (p:=[3]) (i:=2) (id:=1) (c:=gZ ((aO env 32 [3]).getD 2 .skip)) (by kernel_rfl) (by kernel_rfl) ?_
 show ay env N 32 [3,2] 0 _ _
 refine rO (i:=0) he (by kernel_rfl) (of_decide_eq_true (by kernel_rfl)) (aoV N own l m t true) Jd ?_
 refine rO (i:=1) (g:=fun H=>qO 1 (6*t.length+4) (DW 1 (6*t.length+5) H)) he (by kernel_rfl) (of_decide_eq_true (by kernel_rfl)) (ao8 (N:=N) (own:=own) (l:=l) ht hm).n1 (ajx _ _ _) ?_
 have hlen:(t++ [sD t.length]).length=t.length+1:=by simp
 have hB:=akl (N:=N) (own:=own) (l:=l) (i:=t.length) (t:=t++ [sD t.length]) hlen (by omega) hm
 have hend:∀ (H:List aj) (d:Nat→PV) (s:St),(bn env (aJ env N) op8 (op8.toList.map fun o=>(o,false)) (YA own l m t.length H d) fun s=>(.ok s:ah St)).bind (fun s=>(.ok ⟨dP [1,2,7,19,20] s.tmps,qO 1 (6*t.length+4) s.heap⟩:ah St))= .ok s→Q .norm s→ay env N 32 [3] 3 (YA own l m t.length H d) Q:=fun H d s h hq=>by
  refine rO (i:=3) (g:=fun H=>qO 1 (6*t.length+4) H) he (by kernel_rfl) (of_decide_eq_true (by kernel_rfl)) h (fun tm H=>C9 _ _) ?_
  exact kU (by kernel_rfl) hq
 have e2:=aty N own l m t.length (fO m (t++ [sD t.length]) [])
 have akr:∀ v:Bool,dO env N 32 [3,2] 2 1 (Na own l m t.length (fO m (t++ [sD t.length]) []))= .ok (.norm,XG (dO env N 32 [3,2] 2 1 (Na own l m t.length (fO m (t++ [sD t.length]) []))))→dP [1,2,7,8,19,20,41] (XG (dO env N 32 [3,2] 2 1 (Na own l m t.length (fO m (t++ [sD t.length]) [])))).tmps=(agV own l m t.length v []).tmps→(XG (dO env N 32 [3,2] 2 1 (Na own l m t.length (fO m (t++ [sD t.length]) [])))).heap=fO m (t++ [sD t.length]) []→PK own t.length=(if v then(match own[t.length]? with|some p=>[p]|none=>[]) else[])→(v=true→t.length < own.length)→
  ay env N 32 [3,2] 2 (Na own l m t.length (fO m (t++ [sD t.length]) [])) fun e st=>e.kP (ay env N 32 [3] (2+1) st Q) (fun j=>if j=1 then ay env N 32 [3] (2+1) st Q else Q (.exit j) st) (Q .ret st):=fun v h k1 k2 hw hv=>by
  have h5:=Rq (i:=2) (by kernel_rfl) (of_decide_eq_true (by kernel_rfl)) h
  refine rO (i:=2) (live:=[1,2,7,8,19,20,41]) (g:=id) (s':=agV own l m t.length v (fO m (t++ [sD t.length]) [])) he (by kernel_rfl) (of_decide_eq_true (by kernel_rfl)) (by rw[h5]; simp only[ah.bind_ok,k1,k2,id]; rfl) Jd ?_
  cases v with
  |false=>
   refine fF (e:= .norm) 1 (Zu (i:=3) (c:= .tmp 41) (a:=apy ((aO env 32 [3,2]).getD 3 .skip)) (by kernel_rfl) (by kernel_rfl)) (kU (by kernel_rfl) ?_)
   have hd:agV own l m t.length false (fO m (t++ [sD t.length]) [])=YA own l m t.length (fO m (t++ [sD t.length]) []) (dOf (agV own l m t.length false [])):=by kernel_rfl
   show ay env N 32 [3] 3 _ Q
   rw[hd]
   refine hend _ _ _ (hB.n6 _) ?_
   have:t++ [sF own t.length]=t++ [sD t.length]:=by rw[UW,hw]; rfl
   rw[this] at hQ; exact hQ
  |true=>
   have hi:=hv rfl
   have hp:own[t.length]? =some own[t.length]:=List.getElem?_eq_getElem hi
   have h3:=hB.n3
   have hdec:(decide ((0:Int)≤((t.length+1:Nat):Int))&&decide (((t.length+1:Nat):Int)≤(((own.map Px.t).length:Nat):Int)))=true:=by rw[decide_eq_true (by omega),decide_eq_true (by rw[List.length_map]; omega)]; rfl
   rw[hdec,aN] at h3
   have hys:((own.map Px.t).take (t.length+1)).drop t.length= [own[t.length]].map Px.t:=by
    rw[List.take_add_one,List.getElem?_map,hp]
    simp[List.drop_append,List.length_take,Nat.min_eq_left (Nat.le_of_lt hi)]
   refine fF (e:= .norm) 1 (show dO env N 32 [3,2] 3 1 (aoq own l m t.length (fO m (t++ [sD t.length]) []))=_ from h3) (kU (by kernel_rfl) ?_)
   have hd:∀ H:List aj,ak4 own l m t.length H=YA own l m t.length H (dOf (ak4 own l m t.length [])):=fun H=>by kernel_rfl
   show ay env N 32 [3] 3 _ Q
   rw[hd,hys]
   refine hend _ _ _ (hB.n4 [own[t.length]] _) ?_
   rw[abE]
   rw[hp] at hw
   simp only[if_true] at hw
   rw[UW,hw] at hQ
   exact hQ
 by_cases hi:t.length < own.length
 case neg=>
  have hw:PK own t.length= []:=by unfold PK; rw[List.getElem?_eq_none (by omega)]
  rw[decide_eq_false (by rw[List.length_map]; omega),cond_false] at e2
  refine akr false (by rw[e2]; rfl) (by rw[e2]; kernel_rfl) (by rw[e2]; rfl) hw (fun h=>by cases h)
 have hp:own[t.length]? =some own[t.length]:=List.getElem?_eq_getElem hi
 have hpo:=ho.2 _ (List.mem_of_getElem? hp)
 generalize own[t.length]=px at hp hpo
 obtain⟨n1,rfl⟩:∃ n1,N=n1+1:=⟨N - 1,by omega⟩
 rw[decide_eq_true (by rw[List.length_map]; omega),cond_true,aA (aC hp),aH (x9 hpo (by omega))] at e2
 refine akr (dB px) (by rw[e2]; rfl) (by rw[e2]; kernel_rfl) (by rw[e2]; rfl) ?_ (fun _=>hi)
 unfold PK
 rw[hp]
end
section
open Go.RowKit Go.Proofs
variable [Lv]
theorem atx (N:Nat) (c0 c1 c2:Cf) (l:List Lk) (j:Int) (b:Bool):(dO env (N+1) 32 [6,2] 0 3 ⟨slots 153 ((58,.t (.bool b))::Bd l j),fO 3 [c0,c1,c2] []⟩)=bK (List.map Lk.t l) j fun e=>chk (e.cells.length==3&& !e.aY) (iT IntKind.i64 (e.ay 0 1 false) fun a=>bif decide (a≥0) then iT IntKind.i64 (e.ay 0 1 false) fun a=>bif !decide (a < 3) then ah.ok (Ex.exit 3,{tmps:=slots 153 [(7,.ptr 0 0),(9,.fn 71 [] [PV.ptr 0 0]),(11,.ptr 5 0),(55,.t (.sl 3 (List.map Lk.t l))),(56,.t (i64 (↑(List.map Lk.t l).length:Int))),(57,.t (i64 j)),(58,.t (.bool b)),(59,.rp 3 e 0),(60,.t e),(61,.fn 71 [] [PV.ptr 0 0]),(62,.ptr 5 0),(63,.t (e.ay 0 1 false)),(64,.t (.bool (decide (a < 3)))),(65,.t (.bool !decide (a < 3))),(66,.t (.bool true)),(67,.au []),(68,.au []),(69,.au []),(70,.au []),(71,.au []),(72,.t (.bool true)),(73,.t (.bool true)),(74,.au []),(75,.au []),(76,.au []),(77,.au []),(78,.au []),(79,.t (.bool true)),(80,.t (.bool true)),(81,.au []),(82,.au []),(83,.au []),(84,.t (.bool true)),(85,.t (.bool true)),(86,.au []),(87,.au []),(88,.au []),(89,.t (.bool true))],heap:=fO 3 [c0,c1,c2] [.box 67 3 (.t e)]}) else iT IntKind.i64 (e.ay 1 1 false) fun a_1=>bif decide (a_1≥0) then iT IntKind.i64 (e.ay 1 1 false) fun a_2=>bif !decide (a_2 < 3) then ah.ok (Ex.exit 3,{tmps:=slots 153 [(7,.ptr 0 0),(9,.fn 71 [] [PV.ptr 0 0]),(11,.ptr 5 0),(55,.t (.sl 3 (List.map Lk.t l))),(56,.t (i64 (↑(List.map Lk.t l).length:Int))),(57,.t (i64 j)),(58,.t (.bool b)),(59,.rp 3 e 0),(60,.t e),(61,.fn 71 [] [PV.ptr 0 0]),(62,.ptr 5 0),(63,.t (e.ay 0 1 false)),(64,.t (.bool (decide (a < 3)))),(65,.t (.bool !decide (a < 3))),(66,.t (.bool false)),(67,.fn 71 [] [PV.ptr 0 0]),(68,.ptr 5 1),(69,.t (e.ay 1 1 false)),(70,.t (.bool (decide (a_2 < 3)))),(71,.t (.bool !decide (a_2 < 3))),(72,.t (.bool !decide (a_2 < 3))),(73,.t (.bool true)),(74,.au []),(75,.au []),(76,.au []),(77,.au []),(78,.au []),(79,.t (.bool true)),(80,.t (.bool true)),(81,.au []),(82,.au []),(83,.au []),(84,.t (.bool true)),(85,.t (.bool true)),(86,.au []),(87,.au []),(88,.au []),(89,.t (.bool true))],heap:=fO 3 [c0,c1,c2] [.box 67 3 (.t e)]}) else iT IntKind.i64 (e.ay 0 1 false) fun Xr=>iT IntKind.i64 (e.ay 1 1 false) fun b_1=>bif Xr==b_1 then ah.ok (Ex.exit 3,{tmps:=slots 153 [(7,.ptr 0 0),(9,.fn 71 [] [PV.ptr 0 0]),(11,.ptr 5 0),(55,.t (.sl 3 (List.map Lk.t l))),(56,.t (i64 (↑(List.map Lk.t l).length:Int))),(57,.t (i64 j)),(58,.t (.bool b)),(59,.rp 3 e 0),(60,.t e),(61,.fn 71 [] [PV.ptr 0 0]),(62,.ptr 5 0),(63,.t (e.ay 0 1 false)),(64,.t (.bool (decide (a < 3)))),(65,.t (.bool !decide (a < 3))),(66,.t (.bool false)),(67,.fn 71 [] [PV.ptr 0 0]),(68,.ptr 5 1),(69,.t (e.ay 1 1 false)),(70,.t (.bool (decide (a_2 < 3)))),(71,.t (.bool !decide (a_2 < 3))),(72,.t (.bool !decide (a_2 < 3))),(73,.t (.bool false)),(74,.ptr 5 0),(75,.t (e.ay 0 1 false)),(76,.ptr 5 1),(77,.t (e.ay 1 1 false)),(78,.t (.bool (Xr==b_1))),(79,.t (.bool (Xr==b_1))),(80,.t (.bool true)),(81,.au []),(82,.au []),(83,.au []),(84,.t (.bool true)),(85,.t (.bool true)),(86,.au []),(87,.au []),(88,.au []),(89,.t (.bool true))],heap:=fO 3 [c0,c1,c2] [.box 67 3 (.t e)]}) else iT IntKind.i64 (e.ay 2 1 false) fun a_4=>bif decide (a_4 < 1) then ah.ok (Ex.exit 3,{tmps:=slots 153 [(7,.ptr 0 0),(9,.fn 71 [] [PV.ptr 0 0]),(11,.ptr 5 0),(55,.t (.sl 3 (List.map Lk.t l))),(56,.t (i64 (↑(List.map Lk.t l).length:Int))),(57,.t (i64 j)),(58,.t (.bool b)),(59,.rp 3 e 0),(60,.t e),(61,.fn 71 [] [PV.ptr 0 0]),(62,.ptr 5 0),(63,.t (e.ay 0 1 false)),(64,.t (.bool (decide (a < 3)))),(65,.t (.bool !decide (a < 3))),(66,.t (.bool false)),(67,.fn 71 [] [PV.ptr 0 0]),(68,.ptr 5 1),(69,.t (e.ay 1 1 false)),(70,.t (.bool (decide (a_2 < 3)))),(71,.t (.bool !decide (a_2 < 3))),(72,.t (.bool !decide (a_2 < 3))),(73,.t (.bool false)),(74,.ptr 5 0),(75,.t (e.ay 0 1 false)),(76,.ptr 5 1),(77,.t (e.ay 1 1 false)),(78,.t (.bool (Xr==b_1))),(79,.t (.bool (Xr==b_1))),(80,.t (.bool false)),(81,.ptr 5 2),(82,.t (e.ay 2 1 false)),(83,.t (.bool (decide (a_4 < 1)))),(84,.t (.bool (decide (a_4 < 1)))),(85,.t (.bool true)),(86,.au []),(87,.au []),(88,.au []),(89,.t (.bool true))],heap:=fO 3 [c0,c1,c2] [.box 67 3 (.t e)]}) else iT IntKind.i64 (e.ay 2 1 false) fun a_5=>bif decide (a_5 > 3) then ah.ok (Ex.exit 3,{tmps:=slots 153 [(7,.ptr 0 0),(9,.fn 71 [] [PV.ptr 0 0]),(11,.ptr 5 0),(55,.t (.sl 3 (List.map Lk.t l))),(56,.t (i64 (↑(List.map Lk.t l).length:Int))),(57,.t (i64 j)),(58,.t (.bool b)),(59,.rp 3 e 0),(60,.t e),(61,.fn 71 [] [PV.ptr 0 0]),(62,.ptr 5 0),(63,.t (e.ay 0 1 false)),(64,.t (.bool (decide (a < 3)))),(65,.t (.bool !decide (a < 3))),(66,.t (.bool false)),(67,.fn 71 [] [PV.ptr 0 0]),(68,.ptr 5 1),(69,.t (e.ay 1 1 false)),(70,.t (.bool (decide (a_2 < 3)))),(71,.t (.bool !decide (a_2 < 3))),(72,.t (.bool !decide (a_2 < 3))),(73,.t (.bool false)),(74,.ptr 5 0),(75,.t (e.ay 0 1 false)),(76,.ptr 5 1),(77,.t (e.ay 1 1 false)),(78,.t (.bool (Xr==b_1))),(79,.t (.bool (Xr==b_1))),(80,.t (.bool false)),(81,.ptr 5 2),(82,.t (e.ay 2 1 false)),(83,.t (.bool (decide (a_4 < 1)))),(84,.t (.bool (decide (a_4 < 1)))),(85,.t (.bool false)),(86,.ptr 5 2),(87,.t (e.ay 2 1 false)),(88,.t (.bool (decide (a_5 > 3)))),(89,.t (.bool (decide (a_5 > 3))))],heap:=fO 3 [c0,c1,c2] [.box 67 3 (.t e)]}) else ah.ok (Ex.norm,{tmps:=slots 153 [(7,.ptr 0 0),(9,.fn 71 [] [PV.ptr 0 0]),(11,.ptr 5 0),(55,.t (.sl 3 (List.map Lk.t l))),(56,.t (i64 (↑(List.map Lk.t l).length:Int))),(57,.t (i64 j)),(58,.t (.bool b)),(59,.rp 3 e 0),(60,.t e),(61,.fn 71 [] [PV.ptr 0 0]),(62,.ptr 5 0),(63,.t (e.ay 0 1 false)),(64,.t (.bool (decide (a < 3)))),(65,.t (.bool !decide (a < 3))),(66,.t (.bool false)),(67,.fn 71 [] [PV.ptr 0 0]),(68,.ptr 5 1),(69,.t (e.ay 1 1 false)),(70,.t (.bool (decide (a_2 < 3)))),(71,.t (.bool !decide (a_2 < 3))),(72,.t (.bool !decide (a_2 < 3))),(73,.t (.bool false)),(74,.ptr 5 0),(75,.t (e.ay 0 1 false)),(76,.ptr 5 1),(77,.t (e.ay 1 1 false)),(78,.t (.bool (Xr==b_1))),(79,.t (.bool (Xr==b_1))),(80,.t (.bool false)),(81,.ptr 5 2),(82,.t (e.ay 2 1 false)),(83,.t (.bool (decide (a_4 < 1)))),(84,.t (.bool (decide (a_4 < 1)))),(85,.t (.bool false)),(86,.ptr 5 2),(87,.t (e.ay 2 1 false)),(88,.t (.bool (decide (a_5 > 3)))),(89,.t (.bool (decide (a_5 > 3))))],heap:=fO 3 [c0,c1,c2] [.box 67 3 (.t e)]}) else ah.ok (Ex.exit 3,{tmps:=slots 153 [(7,.ptr 0 0),(9,.fn 71 [] [PV.ptr 0 0]),(11,.ptr 5 0),(55,.t (.sl 3 (List.map Lk.t l))),(56,.t (i64 (↑(List.map Lk.t l).length:Int))),(57,.t (i64 j)),(58,.t (.bool b)),(59,.rp 3 e 0),(60,.t e),(61,.fn 71 [] [PV.ptr 0 0]),(62,.ptr 5 0),(63,.t (e.ay 0 1 false)),(64,.t (.bool (decide (a < 3)))),(65,.t (.bool !decide (a < 3))),(66,.t (.bool false)),(67,.fn 71 [] [PV.ptr 0 0]),(68,.ptr 5 1),(69,.t (e.ay 1 1 false)),(70,.t (.bool false)),(71,.t (.bool true)),(72,.t (.bool true)),(73,.t (.bool true)),(74,.au []),(75,.au []),(76,.au []),(77,.au []),(78,.au []),(79,.t (.bool true)),(80,.t (.bool true)),(81,.au []),(82,.au []),(83,.au []),(84,.t (.bool true)),(85,.t (.bool true)),(86,.au []),(87,.au []),(88,.au []),(89,.t (.bool true))],heap:=fO 3 [c0,c1,c2] [.box 67 3 (.t e)]}) else ah.ok (Ex.exit 3,{tmps:=slots 153 [(7,.ptr 0 0),(9,.fn 71 [] [PV.ptr 0 0]),(11,.ptr 5 0),(55,.t (.sl 3 (List.map Lk.t l))),(56,.t (i64 (↑(List.map Lk.t l).length:Int))),(57,.t (i64 j)),(58,.t (.bool b)),(59,.rp 3 e 0),(60,.t e),(61,.fn 71 [] [PV.ptr 0 0]),(62,.ptr 5 0),(63,.t (e.ay 0 1 false)),(64,.t (.bool false)),(65,.t (.bool true)),(66,.t (.bool true)),(67,.au []),(68,.au []),(69,.au []),(70,.au []),(71,.au []),(72,.t (.bool true)),(73,.t (.bool true)),(74,.au []),(75,.au []),(76,.au []),(77,.au []),(78,.au []),(79,.t (.bool true)),(80,.t (.bool true)),(81,.au []),(82,.au []),(83,.au []),(84,.t (.bool true)),(85,.t (.bool true)),(86,.au []),(87,.au []),(88,.au []),(89,.t (.bool true))],heap:=fO 3 [c0,c1,c2] [.box 67 3 (.t e)]})):=by kernel_rfl
end
section
open Go.RowKit Go.Proofs
variable [Lv]
def P5 (l:List Lk) (t:List Cf) (j:Int) (b:Bool):St:=⟨slots 153 ((58,.t (.bool b))::Bd l j),fO t.length t []⟩
theorem EH {e:Ex} {st:St} {mk:(Nat→PV)→St} (h:st=mk (dOf st)):∃ d,(ah.ok (e,st):ah (Ex×St))= .ok (e,mk d):=⟨dOf st,congrArg (fun s=>ah.ok (e,s)) h⟩
def Oo (N:Nat) (l:List Lk) (t:List Cf) (j:Nat) (x:Lk) (b:Bool):Prop:=(Iy t.length x=false→∃ d,dO env (N+1) 32 [6,2] 0 3 (P5 l t j b)= .ok (.exit 3,sG3 l t j x d))∧(Iy t.length x=true→∃ d,dO env (N+1) 32 [6,2] 0 3 (P5 l t j b)= .ok (.norm,sG3 l t j x d))
theorem aoW {N:Nat} {c0 c1 c2:Cf} {l:List Lk} {j:Nat} {x:Lk} {b:Bool} (hx:l[j]? =some x):Oo N l [c0,c1,c2] j x b:=by
 have e0:dO env (N+1) 32 [6,2] 0 3 (P5 l [c0,c1,c2] j b)=_:=atx N c0 c1 c2 l j b
 rw[aA (aC hx),show(x.t.cells.length==3&& !x.t.aY)=true from rfl,aN,show x.t.ay 0 1 false=i64 x.a from rfl,show x.t.ay 1 1 false=i64 x.b from rfl,show x.t.ay 2 1 false=i64 x.r from rfl] at e0
 simp only[dI] at e0
 unfold Oo Iy
 simp only[List.length_cons,List.length_nil,Nat.zero_add,Nat.reduceAdd]
 rw[e0]
 by_cases h1:x.a≥0
 case neg=>
  rw[decide_eq_false h1]
  refine⟨fun _=>EH (mk:=fun d=>sG3 l [c0,c1,c2] j x d) (by kernel_rfl),fun h=>by cases h⟩
 rw[decide_eq_true h1]
 simp only[cond_true,Bool.true_and]
 by_cases h2:x.a < 3
 case neg=>
  rw[decide_eq_false h2,decide_eq_false (show ¬ x.a < ((3:Nat):Int) by omega)]
  refine⟨fun _=>EH (mk:=fun d=>sG3 l [c0,c1,c2] j x d) (by kernel_rfl),fun h=>by cases h⟩
 rw[decide_eq_true h2,decide_eq_true (show x.a < ((3:Nat):Int) by omega)]
 simp only[Bool.not_true,cond_false,Bool.true_and]
 by_cases h3:x.b≥0
 case neg=>
  rw[decide_eq_false h3]
  refine⟨fun _=>EH (mk:=fun d=>sG3 l [c0,c1,c2] j x d) (by kernel_rfl),fun h=>by cases h⟩
 rw[decide_eq_true h3]
 simp only[cond_true,Bool.true_and]
 by_cases h4:x.b < 3
 case neg=>
  rw[decide_eq_false h4,decide_eq_false (show ¬ x.b < ((3:Nat):Int) by omega)]
  refine⟨fun _=>EH (mk:=fun d=>sG3 l [c0,c1,c2] j x d) (by kernel_rfl),fun h=>by cases h⟩
 rw[decide_eq_true h4,decide_eq_true (show x.b < ((3:Nat):Int) by omega)]
 simp only[Bool.not_true,cond_false,Bool.true_and]
 cases h5:x.a==x.b with
 |true=>exact⟨fun _=>EH (mk:=fun d=>sG3 l [c0,c1,c2] j x d) (by kernel_rfl),fun h=>(by cases h)⟩
 |false=>
 simp only[cond_false,Bool.not_false,Bool.true_and]
 by_cases h6:x.r < 1
 case pos=>
  rw[decide_eq_true h6,decide_eq_false (show ¬ 1≤x.r by omega)]
  refine⟨fun _=>EH (mk:=fun d=>sG3 l [c0,c1,c2] j x d) (by kernel_rfl),fun h=>by cases h⟩
 rw[decide_eq_false h6,decide_eq_true (show 1≤x.r by omega)]
 simp only[cond_false,Bool.true_and]
 by_cases h7:x.r > 3
 case pos=>
  rw[decide_eq_true h7,decide_eq_false (show ¬ x.r≤3 by omega)]
  refine⟨fun _=>EH (mk:=fun d=>sG3 l [c0,c1,c2] j x d) (by kernel_rfl),fun h=>by cases h⟩
 rw[decide_eq_false h7,decide_eq_true (show x.r≤3 by omega)]
 exact⟨fun h=>(by cases h),fun _=>EH (mk:=fun d=>sG3 l [c0,c1,c2] j x d) (by kernel_rfl)⟩
theorem IG {P:List Cf→Prop} (h3:∀ c0 c1 c2,P [c0,c1,c2]):∀ t:List Cf,t≠ []→t.length=3→P t
 | [c0,c1,c2],_,_=>h3 c0 c1 c2
 | [],h,_=>absurd rfl h
 | [_],_,h=>by simp at h
 | [_,_],_,h=>by simp at h
 |_::_::_::_::_,_,h=>by simp at h
theorem aqG {N:Nat} {t:List Cf} (h0:t≠ []) (h8:t.length=3) {l:List Lk} {j:Nat} {x:Lk} {b:Bool} (hx:l[j]? =some x):Oo N l t j x b:=
 IG (P:=fun t=>Oo N l t j x b) (fun _ _ _=>aoW hx) t h0 h8
end
section
open Go.RowKit Go.Proofs
variable [Lv]
noncomputable def xq (i:Nat):Array Oper:=iW env 32 [6,2] i
noncomputable def Yo (N i k n:Nat) (s:St):ah St:=bn env (aJ env N) (xq i) (((dG (xq i)).drop k).take n) s fun s=>(.ok s:ah St)
noncomputable def Fh (N Nc i k n:Nat) (s:St):ah St:=ab3 env (aJ env N) (xq i) Nc (((dG (xq i)).drop k).take n) s fun s=>(.ok s:ah St)
def lkH (a b:Nat) (r:Int):List aj:=[.box 67 3 (.t (.agg [i64 a,i64 b,i64 r]))]
def NI (l:List Lk) (t:List Cf) (j:Int) (a b:Nat) (r:Int):St:=⟨slots 153 ((11,.ptr (t.length+2) 0)::Bd l j),fO t.length t (lkH a b r)⟩
def sGd (l:List Lk) (t:List Cf) (j:Int) (a b:Nat) (r:Int) (v:Bool):St:=⟨slots 153 ((11,.ptr (t.length+2) 0)::(13,.t (.bool v))::Bd l j),fO t.length t (lkH a b r)⟩
def sGe (l:List Lk) (t:List Cf) (j:Int) (a b:Nat) (r:Int) (v:Bool):St:=⟨slots 153 ((11,.ptr (t.length+2) 0)::(13,.t (.bool v))::(105,.t (.bool v))::Bd l j),fO t.length t (lkH a b r)⟩
noncomputable def s14 (N:Nat) (l:List Lk) (t:List Cf) (j:Int) (a b:Nat) (r:Int):St:=adN (Yo N 3 0 11 (NI l t j a b r))
noncomputable def aoi (N:Nat) (l:List Lk) (t:List Cf) (j:Int) (a b:Nat) (r k:Int) (v:Bool):St:=⟨(s14 N l t j a b r).tmps.set 102 (.t (.au [i64 k,.bool v])),(s14 N l t j a b r).heap⟩
noncomputable def s16 (N i n:Nat) (s:St):St:=adN (Fh N s.heap.length i 0 n s)
noncomputable def aok (N i n d:Nat) (s:St) (x:T):St:=⟨(s16 N i n s).tmps.set d (.t x),(s16 N i n s).heap⟩
noncomputable def agL (N i n d:Nat) (s:St) (x:T):St:=adN (Fh N s.heap.length i (n+1) 1 (aok N i n d s x))
noncomputable def aoj (N i n d dd ra:Nat) (s:St) (xs:List T) (x:T):St:=⟨(PV.kills (· ==ra) (agL N i n d s x).tmps).set dd (.own ra),((agL N i n d s x).heap.map (aj.kill (· ==ra))).set ra (.row 86 4 (xs++ [x]))⟩
structure adE (N i n d dd ra:Nat) (s:St) (xs:List T) (p w:Int):Prop where
 a1:Fh N s.heap.length i 0 n s= .ok (s16 N i n s)
 a2:Fh N s.heap.length i n 1 (s16 N i n s)=(ak env N 72 [i64 p,i64 w]).bind fun x=> .ok ⟨(s16 N i n s).tmps.set d (.t x),(s16 N i n s).heap⟩
 a3:∀ S:Sd,Fh N s.heap.length i (n+1) 1 (aok N i n d s S.t)= .ok (agL N i n d s S.t)
 a4:∀ S:Sd,Fh N s.heap.length i (n+2) 1 (agL N i n d s S.t)=chk (decide ((xs.length+1)*64≤140737488355328)) (.ok (aoj N i n d dd ra s xs S.t))
 a5:∀ S:Sd,(Fh N s.heap.length i (n+3) 3 (aoj N i n d dd ra s xs S.t)).bind (fun s=>(.ok ⟨dP [7,9,11,55,56,57] s.tmps,s.heap⟩:ah St))= .ok ⟨s.tmps,s.heap.set ra (.row 86 4 (xs++ [S.t]))⟩
structure wE (N:Nat) (l:List Lk) (t:List Cf) (a b:Nat) (ca cb:Cf):Prop where
 r1:∀ j r,Yo N 3 0 11 (NI l t j a b r)= .ok (s14 N l t j a b r)
 r2:∀ j r,Yo N 3 11 1 (s14 N l t j a b r)=(ak env N 51 [ca.t,i64 cb.a]).bind fun x=>chk x.plain (.ok ⟨(s14 N l t j a b r).tmps.set 102 (.t x),(s14 N l t j a b r).heap⟩)
 r3:∀ j r k v,(Yo N 3 12 9 (aoi N l t j a b r k v)).bind (fun s=>(.ok ⟨dP [7,9,11,13,55,56,57] s.tmps,s.heap⟩:ah St))= .ok (sGd l t j a b r v)
 ra:∀ j r,adE N 6 17 123 125 (2+a) (NI l t j a b r) (ca.s.map Sd.t) cb.a r
 rb:∀ j r,adE N 7 18 146 148 (2+b) (NI l t j a b r) (cb.s.map Sd.t) ca.a (IntKind.i64.wrap (4 - r))
end
section
open Go.RowKit Go.Proofs
variable [Lv]
theorem aiT (N:Nat) (l:List Lk) (c0 c1 c2:Cf):wE N l [c0,c1,c2] 0 1 c0 c1:=⟨fun j r=>by kernel_rfl,fun j r=>by kernel_rfl,fun j r k v=>by kernel_rfl,fun j r=>⟨by kernel_rfl,by kernel_rfl,fun S=>by kernel_rfl,fun S=>by kernel_rfl,fun S=>by kernel_rfl⟩,fun j r=>⟨by kernel_rfl,by kernel_rfl,fun S=>by kernel_rfl,fun S=>by kernel_rfl,fun S=>by kernel_rfl⟩⟩
theorem aiU (N:Nat) (l:List Lk) (c0 c1 c2:Cf):wE N l [c0,c1,c2] 0 2 c0 c2:=⟨fun j r=>by kernel_rfl,fun j r=>by kernel_rfl,fun j r k v=>by kernel_rfl,fun j r=>⟨by kernel_rfl,by kernel_rfl,fun S=>by kernel_rfl,fun S=>by kernel_rfl,fun S=>by kernel_rfl⟩,fun j r=>⟨by kernel_rfl,by kernel_rfl,fun S=>by kernel_rfl,fun S=>by kernel_rfl,fun S=>by kernel_rfl⟩⟩
theorem aiV (N:Nat) (l:List Lk) (c0 c1 c2:Cf):wE N l [c0,c1,c2] 1 0 c1 c0:=⟨fun j r=>by kernel_rfl,fun j r=>by kernel_rfl,fun j r k v=>by kernel_rfl,fun j r=>⟨by kernel_rfl,by kernel_rfl,fun S=>by kernel_rfl,fun S=>by kernel_rfl,fun S=>by kernel_rfl⟩,fun j r=>⟨by kernel_rfl,by kernel_rfl,fun S=>by kernel_rfl,fun S=>by kernel_rfl,fun S=>by kernel_rfl⟩⟩
theorem aiW (N:Nat) (l:List Lk) (c0 c1 c2:Cf):wE N l [c0,c1,c2] 1 2 c1 c2:=⟨fun j r=>by kernel_rfl,fun j r=>by kernel_rfl,fun j r k v=>by kernel_rfl,fun j r=>⟨by kernel_rfl,by kernel_rfl,fun S=>by kernel_rfl,fun S=>by kernel_rfl,fun S=>by kernel_rfl⟩,fun j r=>⟨by kernel_rfl,by kernel_rfl,fun S=>by kernel_rfl,fun S=>by kernel_rfl,fun S=>by kernel_rfl⟩⟩
theorem aiX (N:Nat) (l:List Lk) (c0 c1 c2:Cf):wE N l [c0,c1,c2] 2 0 c2 c0:=⟨fun j r=>by kernel_rfl,fun j r=>by kernel_rfl,fun j r k v=>by kernel_rfl,fun j r=>⟨by kernel_rfl,by kernel_rfl,fun S=>by kernel_rfl,fun S=>by kernel_rfl,fun S=>by kernel_rfl⟩,fun j r=>⟨by kernel_rfl,by kernel_rfl,fun S=>by kernel_rfl,fun S=>by kernel_rfl,fun S=>by kernel_rfl⟩⟩
theorem aiY (N:Nat) (l:List Lk) (c0 c1 c2:Cf):wE N l [c0,c1,c2] 2 1 c2 c1:=⟨fun j r=>by kernel_rfl,fun j r=>by kernel_rfl,fun j r k v=>by kernel_rfl,fun j r=>⟨by kernel_rfl,by kernel_rfl,fun S=>by kernel_rfl,fun S=>by kernel_rfl,fun S=>by kernel_rfl⟩,fun j r=>⟨by kernel_rfl,by kernel_rfl,fun S=>by kernel_rfl,fun S=>by kernel_rfl,fun S=>by kernel_rfl⟩⟩
theorem lk3 {N:Nat} {l:List Lk} {c0 c1 c2 ca cb:Cf}:∀ {a b:Nat},a≠b→ [c0,c1,c2][a]? =some ca→ [c0,c1,c2][b]? =some cb→wE N l [c0,c1,c2] a b ca cb
 |0,0,h,_,_=>absurd rfl h
 |0,1,_,ha,hb=>by cases ha; cases hb; exact aiT N l c0 c1 c2
 |0,2,_,ha,hb=>by cases ha; cases hb; exact aiU N l c0 c1 c2
 |0,b+3,_,_,hb=>by simp at hb
 |1,0,_,ha,hb=>by cases ha; cases hb; exact aiV N l c0 c1 c2
 |1,1,h,_,_=>absurd rfl h
 |1,2,_,ha,hb=>by cases ha; cases hb; exact aiW N l c0 c1 c2
 |1,b+3,_,_,hb=>by simp at hb
 |2,0,_,ha,hb=>by cases ha; cases hb; exact aiX N l c0 c1 c2
 |2,1,_,ha,hb=>by cases ha; cases hb; exact aiY N l c0 c1 c2
 |2,2,h,_,_=>absurd rfl h
 |2,b+3,_,_,hb=>by simp at hb
 |a+3,_,_,ha,_=>by simp at ha
end
section
open Go.RowKit Go.Proofs
theorem Ov:∀ {t:List Cf} {a b:Nat} {c c':Cf},t[a]? =some c→c'.a=c.a→c'.d=c.d→c'.h=c.h→c'.k=c.k→c'.w=c.w→BH b (t.set a c')=BH b t
 | [],a,b,c,c',h,_,_,_,_,_=>by simp at h
 |x::t,0,b,c,c',h,h1,h2,h3,h4,h5=>by
  simp only[List.getElem?_cons_zero,Option.some.injEq] at h
  subst h
  simp only[List.set_cons_zero,BH,h1,h2,h3,h4,h5]
 |x::t,a+1,b,c,c',h,h1,h2,h3,h4,h5=>by
  simp only[List.set_cons_succ,BH]
  rw[Ov (a:=a) (by simpa using h) h1 h2 h3 h4 h5]
theorem Vb:∀ (t:List Cf) (a:Nat) (c':Cf),IC (t.set a c')=(IC t).set a (.row 86 4 (c'.s.map Sd.t))
 | [],_,_=>rfl
 |x::t,0,c'=>rfl
 |x::t,a+1,c'=>by simp only[List.set_cons_succ,IC]; rw[Vb t a c']
theorem Va:∀ t:List Cf,(IC t).length=t.length
 | []=>rfl
 |x::t=>by simp only[IC,List.length_cons,Va t]
theorem UE {t:List Cf} {a m:Nat} {c:Cf} {S:Sd} {H:List aj} (h:t[a]? =some c):(fO m t H).set (2+a) (.row 86 4 (c.s.map Sd.t++ [S.t]))=fO m (t.set a (kQ c S)) H:=by
 have hl:=(List.getElem?_eq_some_iff.1 h).1
 unfold fO
 rw[show 2+a=a+1+1 by omega,List.set_cons_succ,List.set_cons_succ,List.set_append_left _ _ (by rw[Va]; exact hl),Vb,List.length_set,Ov (c':=kQ c S) h rfl rfl rfl rfl rfl]
 simp[kQ]
variable [Lv]
theorem apl (N:Nat) (a:Int):ak env (N+6) 72 [i64 a,i64 1]=W [i64 a,i64 1] (.ok (iQ a 1).t):=by kernel_rfl
theorem apm (N:Nat) (a:Int):ak env (N+6) 72 [i64 a,i64 2]=W [i64 a,i64 2] (.ok (iQ a 2).t):=by kernel_rfl
theorem apn (N:Nat) (a:Int):ak env (N+6) 72 [i64 a,i64 3]=W [i64 a,i64 3] (.ok (iQ a 3).t):=by kernel_rfl
theorem aeN {M:Nat} {a r:Int} (hM:6≤M) (ha:aV a=true) (h1:1≤r) (h3:r≤3):ak env M 72 [i64 a,i64 r]= .ok (iQ a r).t:=by
 obtain⟨m,rfl⟩:∃ m,M=m+6:=⟨M - 6,by omega⟩
 have hr:r=1∨r=2∨r=3:=by omega
 rcases hr with rfl|rfl|rfl
 · rw[apl,aX (dM (aZ ha) rfl)]
 · rw[apm,aX (dM (aZ ha) rfl)]
 · rw[apn,aX (dM (aZ ha) rfl)]
theorem aay (N:Nat) (l:List Lk) (t:List Cf) (j:Nat):dO env N 32 [6] 0 2 (sG2 l t j)=bif decide ((j:Int) < (((l.map Lk.t).length:Nat):Int)) then .ok (.norm,P5 l t j (decide ((j:Int) < (((l.map Lk.t).length:Nat):Int)))) else .ok (.exit 2,P5 l t j (decide ((j:Int) < (((l.map Lk.t).length:Nat):Int)))):=by kernel_rfl
noncomputable def aob:Array Oper:=iW env 32 [6] 3
def sGz (l:List Lk) (t:List Cf) (j:Int) (x:T):St:=⟨slots 153 (Bd l j),fO t.length t [.box 67 3 (.t x)]⟩
theorem aiM (N:Nat) (l:List Lk) (j:Int) (p:Nat) (H:List aj) (d:Nat→PV):(bn env (aJ env N) aob (aob.toList.map fun o=>(o,false)) ⟨zH 153 d ((11,.ptr p 0)::Bd l j),H⟩ fun s=>(.ok s:ah St)).bind (fun s=>(.ok ⟨dP [7,9,55,56,57] s.tmps,id s.heap⟩:ah St))= .ok ⟨slots 153 (Bd l (IntKind.i64.wrap (j+1))),H⟩:=by kernel_rfl
theorem aiO (l:List Lk) (j:Int) (p:Nat) (d:Nat→PV):dP [7,9,11,55,56,57] (zH 153 d ((11,.ptr p 0)::Bd l j))=slots 153 ((11,.ptr p 0)::Bd l j):=by kernel_rfl
theorem afs (l:List Lk) (j:Int) (p:Nat) (v:Bool):dP [7,9,11,55,56,57] (slots 153 ((11,.ptr p 0)::(13,.t (.bool v))::(105,.t (.bool v))::Bd l j))=slots 153 ((11,.ptr p 0)::Bd l j):=by kernel_rfl
theorem aiP (N:Nat) (l:List Lk) (t:List Cf) (j:Int) (a b:Nat) (r:Int):dO env N 32 [6,2] 4 2 (sGd l t j a b r true)= .ok (.exit 3,sGe l t j a b r true):=by kernel_rfl
theorem aiN (N:Nat) (l:List Lk) (t:List Cf) (j:Int) (a b:Nat) (r:Int):dO env N 32 [6,2] 4 2 (sGd l t j a b r false)= .ok (.norm,sGe l t j a b r false):=by kernel_rfl
theorem apt (l:List Lk) (j:Int) (p:Nat) (H:List aj):(⟨slots 153 ((11,.ptr p 0)::Bd l j),H⟩:St)=⟨zH 153 (fun _=> .junk) ((11,.ptr p 0)::Bd l j),H⟩:=by kernel_rfl
theorem apu (l:List Lk) (j:Int) (p:Nat) (v:Bool) (H:List aj):(⟨slots 153 ((11,.ptr p 0)::(13,.t (.bool v))::(105,.t (.bool v))::Bd l j),H⟩:St)=⟨zH 153 (XR [(13,.t (.bool v)),(105,.t (.bool v))]) ((11,.ptr p 0)::Bd l j),H⟩:=by kernel_rfl
theorem aeX {N:Nat} {l:List Lk} {t:List Cf} {a b:Nat} {ca cb:Cf} (h0:t≠ []) (h8:t.length=3) (hab:a≠b) (ha:t[a]? =some ca) (hb:t[b]? =some cb):wE N l t a b ca cb:=
 IG (P:=fun t=>t[a]? =some ca→t[b]? =some cb→wE N l t a b ca cb) (fun _ _ _=>lk3 hab) t h0 h8 ha hb
theorem alC {l:List Lk} {t:List Cf} {j:Int} {x:T} (h0:t≠ []) (h8:t.length=3):canon 0 (dZ env 32 [] 6).1 (sGz l t j x)=sG2 l t j:=
 IG (P:=fun t=>canon 0 (dZ env 32 [] 6).1 (sGz l t j x)=sG2 l t j) (fun _ _ _=>by kernel_rfl) t h0 h8
theorem TW {N i n d dd ra:Nat} {s:St} {xs:List T} {p w:Int} {S:Sd} (h:adE N i n d dd ra s xs p w) (hc:ak env N 72 [i64 p,i64 w]= .ok S.t) (hx:(xs.length+1)*64≤big)
 (hl:((dG (xq i)).drop (n+3)).take 3=(dG (xq i)).drop (n+3)):∃ sf,qV env (aJ env N) (xq i) s.heap.length (dG (xq i)) s sf∧dP [7,9,11,55,56,57] sf.tmps=s.tmps∧sf.heap=s.heap.set ra (.row 86 4 (xs++ [S.t])):=by
 have hn:=fH env N
 have h2:=h.a2
 rw[hc] at h2
 have h4:=h.a4 S
 rw[decide_eq_true (show(xs.length+1)*64≤140737488355328 by have:=aU; omega),aN] at h4
 obtain⟨sf,h5,h6⟩:=bQ (h.a5 S)
 simp only[ah.ok.injEq,St.mk.injEq] at h6
 have h1:=h.a1
 have h3:=h.a3 S
 unfold Fh at h1 h2 h3 h4 h5
 generalize hL:dG (xq i)=L at h1 h2 h3 h4 h5 hl ⊢
 have r1:=uT hn h1
 have r2:=uT hn h2
 have r3:=uT hn h3
 have r4:=uT hn h4
 have r5:=uT hn h5
 rw[hl] at r5
 have cut:∀ (k m:Nat) {s1 s2 s3:St},qV env (aJ env N) (xq i) s.heap.length ((L.drop k).take m) s1 s2→qV env (aJ env N) (xq i) s.heap.length (L.drop (k+m)) s2 s3→qV env (aJ env N) (xq i) s.heap.length (L.drop k) s1 s3:=fun k m s1 s2 s3 a b=>acs _ a (by rw[List.drop_drop]; exact b)
 have c4:=cut (n+2) 1 r4 r5
 have c3:=cut (n+1) 1 r3 c4
 have c2:=cut n 1 r2 c3
 have c1:=cut 0 n r1 (by rw[Nat.zero_add]; exact c2)
 rw[List.drop_zero] at c1
 exact⟨sf,c1,h6.1,h6.2⟩
end
section
open Go.RowKit Go.Proofs
variable [Lv]
theorem Dw {E:Env} {n:Nat} {f:FuncId} {p:List Nat} (he:nK E) {i:Nat} {st st':St} {Q:Ex→St→Prop} {R:St→Prop} (hp:∃ id ops,(aO E f p)[i]? =some (.region id ops true)∧jg E (.region id ops true) st' R) (ht:fD st st') (hR:∀ s,R s→∃ s2,fD s s2∧ay E n f p (i+1) s2 Q):ay E n f p i st Q:=by
 obtain⟨id,ops,h1,h2⟩:=hp
 exact Gt h1 ⟨_,_,_,rfl⟩ (jg.pre ht (jg.turn h2 hR))
theorem as5:∃ id,(aO env 32 [6,2])[3]? =some (.region id (xq 3) true):=⟨bG ((aO env 32 [6,2]).getD 3 .skip),by kernel_rfl⟩
theorem as6:∃ id,(aO env 32 [6,2])[6]? =some (.region id (xq 6) true):=⟨bG ((aO env 32 [6,2]).getD 6 .skip),by kernel_rfl⟩
theorem as7:∃ id,(aO env 32 [6,2])[7]? =some (.region id (xq 7) true):=⟨bG ((aO env 32 [6,2]).getD 7 .skip),by kernel_rfl⟩
theorem aq1:((dG (xq 3)).drop 12).take 9=(dG (xq 3)).drop 12:=by kernel_rfl
theorem aq2:((dG (xq 6)).drop (17+3)).take 3=(dG (xq 6)).drop (17+3):=by kernel_rfl
theorem aq3:((dG (xq 7)).drop (18+3)).take 3=(dG (xq 7)).drop (18+3):=by kernel_rfl
theorem ok3:sJ (xq 3)=true:=by kernel_rfl
theorem ok6:yI (xq 6)=true:=by kernel_rfl
theorem ok7:yI (xq 7)=true:=by kernel_rfl
theorem agv {N:Nat} {l:List Lk} {t:List Cf} {a b:Nat} {ca cb:Cf} {j r k:Int} {v:Bool} (h:wE N l t a b ca cb) (hc:ak env N 51 [ca.t,i64 cb.a]= .ok (.au [i64 k,.bool v])):
 ∃ sf,bn env (aJ env N) (xq 3) (dG (xq 3)) (NI l t j a b r) (fun s=>(.ok s:ah St))= .ok sf∧dP [7,9,11,13,55,56,57] sf.tmps=(sGd l t j a b r v).tmps∧sf.heap=(sGd l t j a b r v).heap:=by
 have hn:=fH env N
 have h1:=h.r1 j r
 have h2:=h.r2 j r
 rw[hc] at h2
 have h2:Yo N 3 11 1 (s14 N l t j a b r)= .ok (aoi N l t j a b r k v):=h2
 obtain⟨sf,h3,h4⟩:=bQ (h.r3 j r k v)
 simp only[ah.ok.injEq] at h4
 unfold Yo at h1 h2 h3
 rw[aq1] at h3
 have c2:=U2 (l:=(dG (xq 3)).drop 11) hn 1 h2 (by rw[List.drop_drop]; exact h3)
 have c1:=U2 (l:=dG (xq 3)) hn 11 (by rw[List.drop_zero] at h1; exact h1) c2
 exact⟨sf,c1,by have:=congrArg St.tmps h4; exact this,by have:=congrArg St.heap h4; exact this⟩
omit [Lv] in
theorem wM {A C:Prop} {B:Nat→Prop} {j:Nat} (h:B j):Ex.kP (.exit j) A B C:=h
theorem aft {N:Nat} (he:nK env) (hN:big+30≤N) {l:List Lk} {t:List Cf} {j:Nat} {x:Lk} {Q:Ex→St→Prop} (h0:t≠ []) (h8:t.length=3) (hl:l.length≤big) (hx:l[j]? =some x) (hxo:x.ok) (ht:∀ c∈t,c.ok∧(c.s.length+1)*64≤big)
 (hQ:∀ s,canon 0 (dZ env 32 [] 6).1 s=sG2 l (uh t x) ((j+1:Nat):Int)→Q .norm s):ay env N 32 [6] 0 (sG2 l t j) Q:=by
 have hbg:=aU
 have hj:=(List.getElem?_eq_some_iff.1 hx).1
 obtain⟨n1,rfl⟩:∃ n1,N=n1+1:=⟨N - 1,by omega⟩
 have h1:=aay (n1+1) l t j
 rw[decide_eq_true (show(j:Int) < (((l.map Lk.t).length:Nat):Int) by rw[List.length_map]; omega)] at h1
 refine fF (e:= .norm) 2 h1 ?_
 refine oC (p:=[6]) (i:=2) (id:=3) (c:=gZ ((aO env 32 [6]).getD 2 .skip)) (by kernel_rfl) (by kernel_rfl) ?_
 show ay env (n1+1) 32 [6,2] 0 _ _
 have hB:=aqG (N:=n1) (t:=t) h0 h8 (b:=true) hx
 have hw:=wrap_succ (show j≤big by omega)
 have behind:∀ (t':List Cf) (p:Nat) (y:T) (d:Nat→PV),t'≠ []→t'.length=3→uh t x=t'→ay env (n1+1) 32 [6] 3 ⟨zH 153 d ((11,.ptr p 0)::Bd l j),fO t'.length t' [.box 67 3 (.t y)]⟩ Q:=fun t' p y d g0 g8 e=>by
  have h3:=aiM (n1+1) l j p (fO t'.length t' [.box 67 3 (.t y)]) d
  rw[hw] at h3
  refine rO (i:=3) (g:=id) he (by kernel_rfl) (of_decide_eq_true (by kernel_rfl)) h3 Jd ?_
  refine kU (by kernel_rfl) (hQ _ ?_)
  rw[e]
  exact alC g0 g8
 cases hg:Iy t.length x with
 |false=>
  obtain⟨d,hs⟩:=hB.1 hg
  refine fF (e:= .exit 3) 3 hs ?_
  refine wM (wM ?_)
  simp only[if_true]
  exact behind t _ x.t d h0 h8 (by unfold uh; rw[hg]; rfl)
 |true=>
 obtain⟨d,hs⟩:=hB.2 hg
 refine fF (e:= .norm) 3 hs ?_
 obtain⟨xa,xb,r⟩:=x
 have hg':=hg
 unfold Iy at hg'
 simp only[Bool.and_eq_true,decide_eq_true_eq,Bool.not_eq_true',beq_eq_false_iff_ne] at hg'
 obtain⟨⟨⟨⟨⟨⟨a1,a2⟩,a3⟩,a4⟩,a5⟩,a6⟩,a7⟩:=hg'
 obtain⟨a,rfl⟩:∃ a:Nat,xa=a:=⟨xa.toNat,by omega⟩
 obtain⟨b,rfl⟩:∃ b:Nat,xb=b:=⟨xb.toNat,by omega⟩
 have hab:a≠b:=fun e=>a5 (by rw[e])
 have hca:t[a]? =some t[a]:=List.getElem?_eq_getElem (by omega)
 have hcb:t[b]? =some t[b]:=List.getElem?_eq_getElem (by omega)
 generalize t[a]=ca at hca
 generalize t[b]=cb at hcb
 have hco:=(ht ca (List.mem_of_getElem? hca)).1
 have hdo:=(ht cb (List.mem_of_getElem? hcb)).1
 have hlk:uh t ⟨a,b,r⟩=if (idxOf ca cb.a).isSome then t else(t.set a (kQ ca (iQ cb.a r))).set b (kQ cb (iQ ca.a (4 - r))):=by
  unfold uh
  rw[hg,if_pos rfl]
  simp only[Int.toNat_natCast,hca,hcb]
 have L1:=aeX (N:=n1+1) (l:=l) h0 h8 hab hca hcb
 obtain⟨n2,rfl⟩:∃ n2,n1=n2+1:=⟨n1 - 1,by omega⟩
 have hside:=OQ (M:=n2+1) (c:=ca) (n:=cb.a) (by omega) hco hdo.a
 generalize hv:(idxOf ca cb.a).isSome=v at hside hlk
 obtain⟨sf,k1,k2,k3⟩:=agv (j:=j) (r:=r) L1 hside
 have hn:=fH env (n2+1+1)
 obtain⟨_,n2'⟩:=yM he (n2+1+1)
 have akN:fG env (aJ env (n2+1+1)):=tY he hn n2'
 obtain⟨id3,e3⟩:=as5
 refine Dw he (st':=NI l t j a b r) (R:=fun s=>s=sf) ⟨id3,xq 3,e3,jg.draw he.mixed akN ok3 k1 rfl⟩ ?_ fun s hs=>?_
 · exact fD.Jk [7,9,11,55,56,57] (aiO l j (t.length+2) d)
 subst hs
 refine⟨sGd l t j a b r v,?_,?_⟩
 · have:s=⟨s.tmps,(sGd l t j a b r v).heap⟩:=by rw[←k3]
   rw[this]
   exact fD.Jk [7,9,11,13,55,56,57] k2
 cases v with
 |true=>
  refine fF (e:= .exit 3) 2 (aiP (n2+1+1) l t j a b r) ?_
  refine wM (wM ?_)
  simp only[if_true]
  unfold sGe
  rw[apu]
  exact behind t _ _ _ h0 h8 (by rw[hlk]; rfl)
 |false=>
 refine fF (e:= .norm) 2 (aiN (n2+1+1) l t j a b r) ?_
 have s1:=aeN (M:=n2+1+1) (a:=cb.a) (r:=r) (by omega) hdo.a a6 a7
 have ha8:=(ht ca (List.mem_of_getElem? hca)).2
 have hb8:=(ht cb (List.mem_of_getElem? hcb)).2
 obtain⟨sa,r1,r2,r3⟩:=TW (L1.ra j r) s1 (by rw[List.length_map]; exact ha8) aq2
 obtain⟨id6,e6⟩:=as6
 refine Dw he (st':=NI l t j a b r) (R:=fun s=>s=sa) ⟨id6,xq 6,e6,Ul he.mixed akN ok6 r1 rfl⟩ ?_ fun s hs=>?_
 · exact fD.Jk [7,9,11,55,56,57] (afs l j (t.length+2) false)
 subst hs
 have ht1:t.set a (kQ ca (iQ cb.a r))≠ []:=by
  intro e
  have:=congrArg List.length e
  rw[List.length_set] at this
  exact h0 (List.eq_nil_of_length_eq_zero this)
 have hl1:(t.set a (kQ ca (iQ cb.a r))).length=t.length:=List.length_set ..
 refine⟨NI l (t.set a (kQ ca (iQ cb.a r))) j a b r,?_,?_⟩
 · have e1:s=⟨s.tmps,(NI l (t.set a (kQ ca (iQ cb.a r))) j a b r).heap⟩:=by
    have:s.heap=(NI l (t.set a (kQ ca (iQ cb.a r))) j a b r).heap:=by
     rw[r3]
     show(fO t.length t (lkH a b r)).set (2+a) _=fO (t.set a (kQ ca (iQ cb.a r))).length _ _
     rw[hl1]
     exact UE hca
    rw[←this]
   rw[e1]
   refine fD.Jk [7,9,11,55,56,57] (r2.trans ?_)
   show slots 153 ((11,.ptr (t.length+2) 0)::Bd l j)=slots 153 ((11,.ptr ((t.set a (kQ ca (iQ cb.a r))).length+2) 0)::Bd l j)
   rw[hl1]
 have aqJ:(t.set a (kQ ca (iQ cb.a r)))[a]? =some (kQ ca (iQ cb.a r)):=List.getElem?_set_self (by omega)
 have anS:(t.set a (kQ ca (iQ cb.a r)))[b]? =some cb:=by rw[List.getElem?_set_ne hab]; exact hcb
 have L2:=aeX (N:=n2+1+1) (l:=l) ht1 (by rw[hl1]; exact h8) hab aqJ anS
 have hwr:IntKind.i64.wrap (4 - r)=4 - r:=wrap64 (by omega)
 have s2:=aeN (M:=n2+1+1) (a:=ca.a) (r:=4 - r) (by omega) hco.a (by omega) (by omega)
 have L2b:=L2.rb j r
 rw[hwr] at L2b
 obtain⟨sb,q1,q2,q3⟩:=TW L2b s2 (by rw[List.length_map]; exact hb8) aq3
 obtain⟨id7,e7⟩:=as7
 refine Dw he (st':=NI l (t.set a (kQ ca (iQ cb.a r))) j a b r) (R:=fun s=>s=sb) ⟨id7,xq 7,e7,Ul he.mixed akN ok7 q1 rfl⟩ (fD.refl _) fun s hs=>?_
 subst hs
 have hl2:((t.set a (kQ ca (iQ cb.a r))).set b (kQ cb (iQ ca.a (4 - r)))).length=t.length:=by rw[List.length_set,List.length_set]
 have ht2:(t.set a (kQ ca (iQ cb.a r))).set b (kQ cb (iQ ca.a (4 - r)))≠ []:=by
  intro e
  have:=congrArg List.length e
  rw[hl2] at this
  exact h0 (List.eq_nil_of_length_eq_zero this)
 refine⟨NI l ((t.set a (kQ ca (iQ cb.a r))).set b (kQ cb (iQ ca.a (4 - r)))) j a b r,?_,?_⟩
 · have e1:s=⟨s.tmps,(NI l ((t.set a (kQ ca (iQ cb.a r))).set b (kQ cb (iQ ca.a (4 - r)))) j a b r).heap⟩:=by
    have:s.heap=(NI l ((t.set a (kQ ca (iQ cb.a r))).set b (kQ cb (iQ ca.a (4 - r)))) j a b r).heap:=by
     rw[q3]
     show(fO (t.set a (kQ ca (iQ cb.a r))).length _ (lkH a b r)).set (2+b) _=fO ((t.set a (kQ ca (iQ cb.a r))).set b (kQ cb (iQ ca.a (4 - r)))).length _ _
     rw[hl1,hl2]
     exact UE anS
    rw[←this]
   rw[e1]
   refine fD.Jk [7,9,11,55,56,57] (q2.trans ?_)
   show slots 153 ((11,.ptr ((t.set a (kQ ca (iQ cb.a r))).length+2) 0)::Bd l j)=slots 153 ((11,.ptr (((t.set a (kQ ca (iQ cb.a r))).set b (kQ cb (iQ ca.a (4 - r)))).length+2) 0)::Bd l j)
   rw[hl1,hl2]
 refine kU (by kernel_rfl) ?_
 show ay env (n2+1+1) 32 [6] 3 _ Q
 unfold NI
 rw[apt]
 exact behind _ _ _ _ ht2 (by rw[hl2]; exact h8) (by rw[hlk]; rfl)
end
section
open Go.RowKit Go.Proofs
theorem Vp {a r:Int} (ha:aV a=true) (h1:1≤r) (h3:r≤3):(iQ a r).ok:=by
 have hr:∀ m v x n:Int,aV m=true→aV v=true→aV x=true→aV n=true→Ru.ok ⟨m,⟨0,0⟩,v,x,n⟩:=fun m v x n h1 h2 h3 h4=>⟨h1,⟨rfl,rfl⟩,h2,h3,h4⟩
 have hb:=aU
 refine⟨ha,iH.2 (by show -9223372036854775808≤r∧r≤_; omega),⟨by show 1≤big; omega,fun x hx=>?_⟩,?_⟩
 · simp only[iQ,List.mem_singleton] at hx
   subst hx
   exact hr _ _ _ _ rfl rfl rfl (iH.2 (by omega))
 · show cO Ru.ok (if r=1 then _ else _)
   split
   · refine⟨by show 1≤big; omega,fun x hx=>?_⟩
     rw[List.mem_singleton] at hx
     subst hx
     exact hr _ _ _ _ rfl rfl rfl rfl
   · refine⟨by show 2≤big; omega,fun x hx=>?_⟩
     simp only[List.mem_cons,List.not_mem_nil,or_false] at hx
     rcases hx with rfl|rfl
     · exact hr _ _ _ _ rfl rfl rfl rfl
     · exact hr _ _ _ _ rfl rfl rfl rfl
def gOk (m j:Nat) (t:List Cf):Prop:=t.length=m∧∀ c∈t,c.ok∧c.s.length≤j
theorem ZY {c:Cf} {s:Sd} (h:c.ok) (hs:s.ok) (hl:c.s.length+1≤big):(kQ c s).ok:=⟨h.a,h.d,h.h,h.k,h.w,⟨by simpa[kQ] using hl,fun x hx=>by
 rcases List.mem_append.1 hx with hx|hx
 · exact h.s.2 x hx
 · rw[List.mem_singleton.1 hx]; exact hs⟩⟩
theorem afI {m j:Nat} {t:List Cf} {x:Lk} (h:gOk m j t) (hj:j+1≤big):gOk m (j+1) (uh t x):=by
 have weak:gOk m (j+1) t:=⟨h.1,fun c hc=>⟨(h.2 c hc).1,by have:=(h.2 c hc).2; omega⟩⟩
 unfold uh
 split
 · rename_i hg
   split
   · rename_i c d hc hd
     split
     · exact weak
     · unfold Iy at hg
       simp only[Bool.and_eq_true,decide_eq_true_eq,Bool.not_eq_true',beq_eq_false_iff_ne] at hg
       obtain⟨⟨⟨⟨⟨⟨a1,a2⟩,a3⟩,a4⟩,a5⟩,a6⟩,a7⟩:=hg
       have h1:=h.2 c (List.mem_of_getElem? hc)
       have h2:=h.2 d (List.mem_of_getElem? hd)
       refine⟨by rw[List.length_set,List.length_set]; exact h.1,fun e he=>?_⟩
       rcases List.mem_or_eq_of_mem_set he with he|rfl
       · rcases List.mem_or_eq_of_mem_set he with he|rfl
         · exact weak.2 e he
         · exact⟨ZY h1.1 (Vp h2.1.a a6 a7) (by omega),by simp[kQ]; omega⟩
       · exact⟨ZY h2.1 (Vp h1.1.a (by omega) (by omega)) (by omega),by simp[kQ]; omega⟩
   · exact weak
 · exact weak
theorem JR {m:Nat}:∀ (l:List Lk) {j:Nat} {t:List Cf},gOk m j t→j+l.length≤big→gOk m (j+l.length) (l.foldl uh t)
 | [],j,t,h,_=>h
 |x::l,j,t,h,hj=>by
  rw[List.foldl_cons,List.length_cons,show j+(l.length+1)=(j+1)+l.length by omega]
  rw[List.length_cons] at hj
  exact JR l (afI h (by omega)) (by omega)
theorem VX (n:Int):1≤yZ n∧yZ n≤8:=by unfold yZ; omega
theorem VP (n:Int):dh true [dh false [8] n] 1=((yZ n:Nat):Int):=by
 unfold yZ
 show(if (if (8:Int) < n then(8:Int) else n) > 1 then(if (8:Int) < n then(8:Int) else n) else 1)=_
 split<;>split<;>omega
theorem afU {own:List Px} {i:Nat} (ho:cO Px.ok own) (hi:i < 8):(sF own i).ok:=by
 have hb:=aU
 have hw:cO Px.ok (PK own i):=by
  unfold PK
  split
  · rename_i p hp
    split
    · exact⟨by show 1≤big; omega,fun x hx=>by rw[List.mem_singleton.1 hx]; exact ho.2 p (List.mem_of_getElem? hp)⟩
    · exact⟨Nat.zero_le _,fun x hx=>by cases hx⟩
  · exact⟨Nat.zero_le _,fun x hx=>by cases hx⟩
 exact⟨iH.2 (by show -9223372036854775808≤65001+(i:Int)∧65001+(i:Int)≤_; omega),iH.2 (by show -9223372036854775808≤167772161+(i:Int)∧167772161+(i:Int)≤_; omega),rfl,rfl,hw,⟨Nat.zero_le _,fun x hx=>by cases hx⟩⟩
theorem UY {own:List Px} {m:Nat} (ho:cO Px.ok own) (hm:m≤8):gOk m 0 ((List.range m).map (sF own)):=⟨by simp,fun c hc=>by
 obtain⟨i,hi,rfl⟩:=List.mem_map.1 hc
 exact⟨afU ho (by have:=List.mem_range.1 hi; omega),Nat.le_refl _⟩⟩
variable [Lv]
def sGs (n:Int) (own:List Px) (l:List Lk):St:=⟨slots 153 [(0,.t (i64 n)),(1,.t (.sl 2 (own.map Px.t))),(2,.t (.sl 3 (l.map Lk.t)))],[]⟩
def acy (n:Int) (own:List Px) (l:List Lk) (k m:Int):St:=⟨slots 153 [(0,.t (i64 n)),(1,.t (.sl 2 (own.map Px.t))),(2,.t (.sl 3 (l.map Lk.t))),(14,.t (i64 n)),(15,.t (i64 k)),(16,.t (i64 m))],[]⟩
def agY (own:List Px) (l:List Lk) (m:Nat) (xs:List PV):St:=⟨slots 153 [(1,.t (.sl 2 (own.map Px.t))),(2,.t (.sl 3 (l.map Lk.t))),(7,.ptr 1 0)],[.vec 56 6 m xs,.box 22 1 (.own 0)]⟩
noncomputable def y5:Array Oper:=iW env 32 [] 1
theorem gR0 (N:Nat) (n:Int) (own:List Px) (l:List Lk):(bn env (aJ env N) (iW env 32 [] 0) ((iW env 32 [] 0).toList.map fun o=>(o,false)) (oq env 32 [.t (i64 n),.t (.sl 2 (own.map Px.t)),.t (.sl 3 (l.map Lk.t))]) (fun s=>(.ok s:ah St))).bind (fun s=>(.ok ⟨dP [0,1,2] s.tmps,id s.heap⟩:ah St))= .ok (sGs n own l):=by kernel_rfl
theorem aqD (N:Nat) (n:Int) (own:List Px) (l:List Lk):bn env (aJ env N) y5 ((y5.toList.take 3).map fun o=>(o,false)) (sGs n own l) (fun s=>(.ok s:ah St))= .ok (acy n own l (dh false [8] n) (dh true [dh false [8] n] 1)):=by kernel_rfl
theorem aqE (n k:Int) (own:List Px) (l:List Lk):∀ m:Nat,1≤m→m=3→Ed env (acy n own l k m) 22 (.t (i64 m)) (.t (i64 m))=some (.own 0,⟨(acy n own l k m).tmps,[.vec 56 6 m (zK m)]⟩)
 |_,_,rfl=>by kernel_rfl
theorem aqF (N:Nat) (n k:Int) (own:List Px) (l:List Lk) (m:Nat) (xs:List PV):(bn env (aJ env N) y5 ((y5.toList.drop 4).map fun o=>(o,false)) ⟨dL (acy n own l k m).tmps (some 17) (.own 0),[.vec 56 6 m xs]⟩ (fun s=>(.ok s:ah St))).bind (fun s=>(.ok ⟨dP [1,2,7] s.tmps,s.heap⟩:ah St))= .ok (agY own l m xs):=by kernel_rfl
theorem gR2 (N:Nat) (own:List Px) (l:List Lk):∀ m:Nat,1≤m→m=3→D8 env 32 [] (2+1) (dO env N 32 [] 2 1 (agY own l m (zK m)))= .ok (.norm,sG1 own l m [])
 |_,_,rfl=>by kernel_rfl
theorem gX1 {own:List Px} {l:List Lk} {t:List Cf} (h0:t≠ []) (h8:t.length=3):canon 0 (dZ env 32 [] 3).2 (Yz own l t.length t false)=agW l t:=
 IG (P:=fun t=>canon 0 (dZ env 32 [] 3).2 (Yz own l t.length t false)=agW l t) (fun _ _ _=>by kernel_rfl) t h0 h8
theorem gX2 {N:Nat} {l:List Lk} {t:List Cf} (h0:t≠ []) (h8:t.length=3):D8 env 32 [] (4+2) (dO env N 32 [] 4 2 (agW l t))= .ok (.norm,sG2 l t ((0:Nat):Int)):=
 IG (P:=fun t=>D8 env 32 [] (4+2) (dO env N 32 [] 4 2 (agW l t))= .ok (.norm,sG2 l t ((0:Nat):Int))) (fun _ _ _=>by kernel_rfl) t h0 h8
theorem gX3 {l:List Lk} {t:List Cf} {j:Nat} (h0:t≠ []) (h8:t.length=3):canon 0 (dZ env 32 [] 6).2 (P5 l t j false)=agX t:=
 IG (P:=fun t=>canon 0 (dZ env 32 [] 6).2 (P5 l t j false)=agX t) (fun _ _ _=>by kernel_rfl) t h0 h8
def aeU:List Cf→List aj
 | []=>[]
 |c::r=> .jT 86 4 (c.s.map Sd.t)::aeU r
def sGy (t:List Cf):St:=⟨slots 153 [(6,.own 1)],.box 22 1 (.own 1):: .jT 56 6 (t.map Cf.t)::aeU t⟩
theorem gX4 {N:Nat} {t:List Cf} (h0:t≠ []) (h8:t.length=3):(bn env (aJ env N) (iW env 32 [] 7) ((iW env 32 [] 7).toList.map fun o=>(o,false)) (agX t) (fun s=>(.ok s:ah St))).bind (fun s=>(.ok ⟨dP [6] s.tmps,DN 1 s.heap⟩:ah St))= .ok (sGy t):=
 IG (P:=fun t=>(bn env (aJ env N) (iW env 32 [] 7) ((iW env 32 [] 7).toList.map fun o=>(o,false)) (agX t) (fun s=>(.ok s:ah St))).bind (fun s=>(.ok ⟨dP [6] s.tmps,DN 1 s.heap⟩:ah St))= .ok (sGy t)) (fun _ _ _=>by kernel_rfl) t h0 h8
theorem gRet (N:Nat) (t:List Cf):dO env N 32 [] 8 1 (sGy t)= .ok (.ret,sGy t):=by kernel_rfl
theorem aqC (t:List Cf):AZ env (dW env 32) (fun r H'=>aW env 32 r H'= .ok (.sl 6 (t.map Cf.t))) (sGy t):=⟨.own 1,(sGy t).heap,by kernel_rfl,show aW env 32 (.own 1) (sGy t).heap= .ok (.sl 6 (t.map Cf.t)) by kernel_rfl⟩
theorem afv {N:Nat} (he:nK env) {n k:Int} {own:List Px} {l:List Lk} {m:Nat} (h1:1≤m) (h8:m=3) (hm:dh true [dh false [8] n] 1=(m:Int)) {Q:Ex→St→Prop} (hQ:ay env N 32 [] 2 (agY own l m (zK m)) Q):ay env N 32 [] 1 (sGs n own l) Q:=by
 obtain⟨n1,n2⟩:=yM he N
 have hc:fG env (aJ env N):=tY he n1 n2
 have hp:(aO env 32 [])[1]? =some (.region (bG ((aO env 32 []).getD 1 .skip)) y5 false):=by kernel_rfl
 obtain⟨sf,g1,g2⟩:=bQ (aqF N n (dh false [8] n) own l m (zK m))
 simp only[ah.ok.injEq] at g2
 refine Gt hp ⟨_,_,_,rfl⟩ (jg.turn (Q':=fun s=>s=sf) (jg.aaN ?_) fun s hs=>?_)
 · have e1:y5.toList=y5.toList.take 3++y5.toList.drop 3:=(List.take_append_drop _ _).symm
   rw[e1]
   have h3:=aqD N n own l
   rw[hm] at h3
   refine Em n1 hc h3 ?_
   have e2:y5.toList.drop 3=(y5.toList.getD 3 default)::y5.toList.drop 4:=by kernel_rfl
   rw[e2]
   have q1:(y5.toList.getD 3 default).guard=none:=by kernel_rfl
   have q2:(y5.toList.getD 3 default).op= .makeSlice 22 (.tmp 16) (.tmp 16):=by kernel_rfl
   have q3:bV env.P (acy n own l (dh false [8] n) m).tmps 0 (.tmp 16)=some (.t (i64 m)):=by kernel_rfl
   refine RX q1 q2 q3 q3 (aqE n _ own l m h1 h8) ?_
   have e3:(y5.toList.getD 3 default).dst=some 17:=by kernel_rfl
   rw[e3]
   have:=Em (ops:=y5) (l:=y5.toList.drop 4) (m:=[]) (Q:=fun s=>s=sf) n1 hc g1 rfl
   rwa [List.append_nil] at this
 · subst hs
   refine⟨agY own l m (zK m),?_,hQ⟩
   rw[←g2]
   exact fD.keep [1,2,7] s.tmps s.heap
theorem afu {N:Nat} (he:nK env) (hN:big+40≤N) {n:Int} {own:List Px} {l:List Lk} (ho:cO Px.ok own) (hl:cO Lk.ok l) (hlb:(l.length+1)*64≤big) (h3:yZ n=3):
 O4 env (aJ env N) 32 ([i64 n,.sl 2 (own.map Px.t),.sl 3 (l.map Lk.t)].map .t) [] (fun r H'=>aW env 32 r H'= .ok (.sl 6 ((TG n own l).map Cf.t))):=by
 have hbg:=aU
 have hm1:1≤yZ n:=by omega
 have hm8:=h3
 clear h3
 refine Dj ⟨dW env 32,by kernel_rfl,by kernel_rfl⟩ ?_
 refine rO (i:=0) he (by kernel_rfl) (of_decide_eq_true (by kernel_rfl)) (gR0 N n own l) Jd ?_
 refine afv (k:=n) he hm1 hm8 (VP n) ?_
 unfold TG
 generalize yZ n=m at hm1 hm8 ⊢
 refine zq (i:=2) 1 (id:=0) (c:=gZ ((aO env 32 []).getD 3 .skip)) (gR2 N own l m hm1 hm8) (by kernel_rfl) (by kernel_rfl) (fun k st=>∃ i,i+k=m∧st=sG1 own l m ((List.range i).map (sF own))) (m:=m) ⟨0,by omega,rfl⟩ ?_
 rintro k st ⟨i,hik,rfl⟩
 show ay env N 32 [3] 0 _ _
 have hli:((List.range i).map (sF own)).length=i:=by simp
 by_cases him:i < m
 · refine afr he (by omega) ho hm8 (by rw[hli]; exact him) ?_
   refine⟨k - 1,by omega,i+1,by omega,?_⟩
   rw[hli]
   have e:(List.range i).map (sF own)++ [sF own i]=(List.range (i+1)).map (sF own):=by rw[List.range_succ,List.map_append]; rfl
   rw[e]
   have hl1:((List.range (i+1)).map (sF own)).length=i+1:=by simp
   exact(akl (N:=N) (own:=own) (l:=l) (m:=m) (i:=i) hl1 (by omega) hm8).n5
 · obtain rfl:i=m:=by omega
   have h1:=aax N own l i ((List.range i).map (sF own))
   rw[hli,decide_eq_false (by omega)] at h1
   refine fF (e:= .exit 0) 2 h1 ?_
   refine wM (wM ?_)
   simp only[if_true]
   have hne:(List.range i).map (sF own)≠ []:=fun e=>by rw[e] at hli; simp at hli; omega
   have hx:=gX1 (own:=own) (l:=l) hne (by rw[hli]; exact hm8)
   rw[hli] at hx
   have hg0:=UY (own:=own) (m:=i) ho (by omega)
   generalize (List.range i).map (sF own)=t0 at hli hne hx hg0 h1
   show ay env N 32 [] (2+1+1) (canon 0 (dZ env 32 [] 3).2 (Yz own l i t0 false)) _
   rw[hx]
   refine zq (i:=4) 2 (id:=2) (c:=gZ ((aO env 32 []).getD 6 .skip)) (gX2 hne (by omega)) (by kernel_rfl) (by kernel_rfl) (fun k st=>∃ j,j+k=l.length∧st=sG2 l ((l.take j).foldl uh t0) (j:Nat)) (m:=l.length) ⟨0,by omega,rfl⟩ ?_
   rintro k st ⟨j,hjk,rfl⟩
   show ay env N 32 [6] 0 _ _
   have hgj:gOk i (0+(l.take j).length) ((l.take j).foldl uh t0):=JR _ hg0 (by rw[List.length_take]; omega)
   rw[List.length_take,Nat.min_eq_left (show j≤l.length by omega),Nat.zero_add] at hgj
   have hnj:(l.take j).foldl uh t0≠ []:=fun e=>by have:=hgj.1; rw[e] at this; simp at this; omega
   by_cases hj:j < l.length
   · have hx':l[j]? =some l[j]:=List.getElem?_eq_getElem hj
     refine aft he (by omega) hnj (by rw[hgj.1]; omega) hl.1 hx' (hl.2 _ (List.mem_of_getElem? hx')) (fun c hc=>⟨(hgj.2 c hc).1,by have:=(hgj.2 c hc).2; have:(c.s.length+1)*64≤(l.length+1)*64:=Nat.mul_le_mul_right _ (by omega); omega⟩) fun s hs=>?_
     refine⟨k - 1,by omega,j+1,by omega,?_⟩
     show canon 0 (dZ env 32 [] 6).1 s=_
     rw[hs,List.take_add_one,hx',List.foldl_append]
     rfl
   · obtain rfl:j=l.length:=by omega
     have h1:=aay N l ((l.take l.length).foldl uh t0) l.length
     rw[decide_eq_false (show ¬ ((l.length:Nat):Int) < (((l.map Lk.t).length:Nat):Int) by rw[List.length_map]; omega)] at h1
     refine fF (e:= .exit 2) 2 h1 ?_
     refine wM (wM ?_)
     simp only[if_true]
     rw[List.take_length] at hnj hgj ⊢
     show ay env N 32 [] (4+2+1) (canon 0 (dZ env 32 [] 6).2 (P5 l (l.foldl uh t0) l.length false)) _
     rw[gX3 hnj (by rw[hgj.1]; omega)]
     refine rO (i:=7) (g:=DN 1) he (by kernel_rfl) (of_decide_eq_true (by kernel_rfl)) (gX4 hnj (by rw[hgj.1]; omega)) (fun tm H=>Tz 1) ?_
     refine fF (e:= .ret) 1 (gRet N _) ?_
     exact aqC _
end
section
open Go.RowKit Go.Proofs
theorem Lk.tells (x y:Lk) (h:x.t=y.t):x=y:=by
 cases x; cases y
 simp only[Lk.t,T.agg.injEq,List.cons.injEq,and_true] at h
 simp only[eF _ _ h.1,eF _ _ h.2.1,eF _ _ h.2.2]
def RG (t:List Cf):Prop:=∀ c∈t,(c.s.length+1)*8≤big
noncomputable def Fe (ts:List T):ah T:=open Classical in if h:∃ t:List Cf,ts= [.sl 6 (t.map Cf.t)]∧cO Cf.ok t∧RG t then .ok (Gp (uX h.choose)) else .stuck
theorem U7 {t:List Cf} (h:cO Cf.ok t) (hr:RG t):Fe [.sl 6 (t.map Cf.t)]= .ok (Gp (uX t)):=by
 have hc:∃ t':List Cf,[T.sl 6 (t.map Cf.t)]= [.sl 6 (t'.map Cf.t)]∧cO Cf.ok t'∧RG t':=⟨t,rfl,h,hr⟩
 unfold Fe
 rw[dif_pos hc]
 have h1:=hc.choose_spec.1
 generalize hc.choose=q at h1 ⊢
 simp only[List.cons.injEq,T.sl.injEq,true_and,and_true] at h1
 rw[←lV Cf.tells h1]
noncomputable def O5 (ts:List T):ah T:=open Classical in if h:∃ q:Int×List Px×List Lk,ts= [i64 q.1,.sl 2 (q.2.1.map Px.t),.sl 3 (q.2.2.map Lk.t)]∧cO Px.ok q.2.1∧cO Lk.ok q.2.2∧(q.2.2.length+1)*64≤big∧yZ q.1=3 then .ok (.sl 6 ((TG h.choose.1 h.choose.2.1 h.choose.2.2).map Cf.t)) else .stuck
theorem aaA {n:Int} {own:List Px} {l:List Lk} (h1:cO Px.ok own) (h2:cO Lk.ok l) (h3:(l.length+1)*64≤big) (h4:yZ n=3):O5 [i64 n,.sl 2 (own.map Px.t),.sl 3 (l.map Lk.t)]= .ok (.sl 6 ((TG n own l).map Cf.t)):=by
 have hc:∃ q:Int×List Px×List Lk,[i64 n,.sl 2 (own.map Px.t),.sl 3 (l.map Lk.t)]= [i64 q.1,.sl 2 (q.2.1.map Px.t),.sl 3 (q.2.2.map Lk.t)]∧cO Px.ok q.2.1∧cO Lk.ok q.2.2∧(q.2.2.length+1)*64≤big∧yZ q.1=3:=⟨(n,own,l),rfl,h1,h2,h3,h4⟩
 unfold O5
 rw[dif_pos hc]
 have e:=hc.choose_spec.1
 generalize hc.choose=q at e ⊢
 simp only[List.cons.injEq,T.sl.injEq,true_and,and_true] at e
 rw[←eF _ _ e.1,←lV Px.tells e.2.1,←lV Lk.tells e.2.2]
@[reducible] def XL:Lv:={}
theorem ok0:nK (@env XL):=@OH XL (fun e h=>by cases h) (fun e h=>by cases h) (fun e h=>by cases h)
theorem aiZ:xK (@env XL) 76 (Po):=by
 refine Qp ok0 (f:=76) (G:=Po) fun ts hw hne=>?_
 letI:=XL
 by_cases hc:∃ q:Cf×List (List En),ts= [q.1.t,.sl 1 (fP q.2)]∧q.1.ok∧DY q.2∧uY q.1 q.2
 · obtain⟨⟨c,t⟩,rfl,h1,h2,h3⟩:=hc
   exact⟨big+80,_,aaH h1 h2 h3,afJ ok0 (Nat.le_refl _) h1 h2 h3⟩
 · refine absurd ?_ hne
   unfold Po
   exact dif_neg hc
theorem aga:xK (@env XL) 60 Fe:=by
 refine Qp ok0 (f:=60) (G:=Fe) fun ts hw hne=>?_
 letI:=XL
 by_cases hc:∃ t:List Cf,ts= [.sl 6 (t.map Cf.t)]∧cO Cf.ok t∧RG t
 · obtain⟨t,rfl,h1,h2⟩:=hc
   exact⟨big+80,_,U7 h1 h2,ach (Nat.le_refl _) h1 h2⟩
 · refine absurd ?_ hne
   unfold Fe
   exact dif_neg hc
theorem aiR:xK (@env XL) 32 O5:=by
 refine Qp ok0 (f:=32) (G:=O5) fun ts hw hne=>?_
 letI:=XL
 by_cases hc:∃ q:Int×List Px×List Lk,ts= [i64 q.1,.sl 2 (q.2.1.map Px.t),.sl 3 (q.2.2.map Lk.t)]∧cO Px.ok q.2.1∧cO Lk.ok q.2.2∧(q.2.2.length+1)*64≤big∧yZ q.1=3
 · obtain⟨⟨n,own,l⟩,rfl,h1,h2,h3,h4⟩:=hc
   exact⟨big+80,_,aaA h1 h2 h3 h4,afu ok0 (by omega) h1 h2 h3 h4⟩
 · refine absurd ?_ hne
   unfold O5
   exact dif_neg hc
@[reducible] noncomputable def lv1:Lv:={loc:=some (Po),ring:=some Fe,gao:=some O5}
theorem ok1:nK (@env lv1):=@OH lv1 (fun e h=>by
 have h:some (Po)=some e:=h
 injection h with h
 subst h
 exact xK.env (E:=@env XL) (E':=@env lv1) rfl rfl aiZ) (fun e h=>by
 have h:some Fe=some e:=h
 injection h with h
 subst h
 exact xK.env (E:=@env XL) (E':=@env lv1) rfl rfl aga) (fun e h=>by
 have h:some O5=some e:=h
 injection h with h
 subst h
 exact xK.env (E:=@env XL) (E':=@env lv1) rfl rfl aiR)
noncomputable instance lvI:Lv:=lv1
theorem alG:nK env:=ok1
theorem alS {M:Nat} {n:Int} {own:List Px} {l:List Lk} (hn:aV n=true) (h1:cO Px.ok own) (h2:cO Lk.ok l) (h3:(l.length+1)*64≤big) (h4:yZ n=3):ak env M 32 [i64 n,.sl 2 (own.map Px.t),.sl 3 (l.map Lk.t)]= .ok (.sl 6 ((TG n own l).map Cf.t)):=by
 have e:ak env M 32 [i64 n,.sl 2 (own.map Px.t),.sl 3 (l.map Lk.t)]=bif T.wfs [i64 n,.sl 2 (own.map Px.t),.sl 3 (l.map Lk.t)] then O5 [i64 n,.sl 2 (own.map Px.t),.sl 3 (l.map Lk.t)] else .absurd:=rfl
 rw[e,yG (aZ hn) (dD (fun _ h=>Px.ok.wf h) h1) (dD (fun _ h=>Lk.ok.wf h) h2)]
 exact aaA h1 h2 h3 h4
theorem amb {M:Nat} {c:Cf} {t:List (List En)} (h:c.ok) (ht:DY t) (hr:uY c t):ak env M 76 [c.t,.sl 1 (fP t)]= .ok (.sl 8 ((iM c t).map Ch.t)):=by
 have e:ak env M 76 [c.t,.sl 1 (fP t)]=bif T.wfs [c.t,.sl 1 (fP t)] then Po [c.t,.sl 1 (fP t)] else .absurd:=rfl
 rw[e,dM h.wf ht.wf]
 exact aaH h ht hr
end
end Go.aT
