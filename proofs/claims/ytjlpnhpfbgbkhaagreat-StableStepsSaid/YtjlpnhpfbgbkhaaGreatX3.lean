/- The texts of a proof, one behind the other: an interpreter and its soundness, what the functions of the program answer, and plain laws on that. -/
import Derived.Test.YtjlpnhpfbgbkhaaGreatX2
import Derived.Test.YtjlpnhpfbgbkhaaGreatX1
import Derived.Test.YtjlpnhpfbgbkhaaGreatK9
set_option linter.unusedVariables false
set_option linter.unusedSimpArgs false
set_option linter.unnecessarySimpa false
set_option linter.unusedSectionVars false
set_option maxRecDepth 100000
namespace Go.aP
section
open Go.RowKit Go.Proofs
def MW (n:Int):Bool:=decide (n < 1)||decide (n > 4294967295)
def gU (p:Pa):Bool:= !(p.s.any MW)&&(decide (p.s.length≤255)&&(decide (p.o≥0)&&(decide (p.o≤2)&&(decide (p.h > 0)&&(decide (p.h≤4294967295)&&(decide (p.c≥0)&&decide (p.c≤4294967295)))))))
def Qe (a b:Int):Int:=if a=0 then b else a
def ou (a b c:Int):Option Int:=if a=3 then some (Qe c b) else if a=2 then(if Qe c b=b then some (Qe c b) else none) else if a=1 then(if c=0 then some 0 else none) else none
def kL (a b c:Int):Option Int:=if a=1 then some (Qe c b) else if a=2 then(if c=0 then some (Qe c b) else none) else if a=3 then(if c=0 then some 0 else none) else none
def sH (v:Vw) (r:Ru):Bool:=if r.m=0 then true else if r.m=1 then acn r.x v.x else if r.m=2 then v.s.contains r.v else if r.m=3 then decide ((v.s.length:Int) > r.v) else if r.m=4 then v.c==r.v else false
def kM (l:List Ru) (v:Vw):Option Ru:=l.find? (sH v)
theorem rQ {p:Pa} (h:p.ok):bZ okI p.s:=⟨h.l,h.s⟩
variable [Lv]
theorem aX (l:List Int):ints l=l.map i64:=rfl
theorem ah5 {M:Nat} {l:List Int} {n:Int} (hM:big+1≤M) (hl:bZ okI l) (hn:aT n=true):ak env (M+1) 199 [.sl 1 (ints l),i64 n]= .ok (i64 (rV (l.findIdx? fun y=>n==y))):=by
 rw[arM,aZ (dN (qO hl) (bg hn))]
 have hb:=hl.1
 exact Ko (S:=sIx l n) (l:=l) (fun y=>n==y) (by omega) (fun j x hx=>by
  have hj:j < l.length:=(List.getElem?_eq_some_iff.1 hx).1
  rw[aei,decide_eq_true (by rw[aX,List.length_map]; omega)]
  simp only[cond_true,aA (jm hx),bW,wrap_succ (show j≤big by omega)]) (by rw[aei,decide_eq_false (by rw[aX,List.length_map]; omega)]; rfl) (ZU M) (TI M)
theorem aaA {M:Nat} {l:List Int} {n:Int} (hM:big+2≤M) (hl:bZ okI l) (hn:aT n=true):ak env (M+1) 173 [.sl 1 (ints l),i64 n]= .ok (.bool (l.contains n)):=by
 obtain⟨m,rfl⟩:=dL (show 1≤M by omega)
 rw[arz,aZ (dN (qO hl) (bg hn)),nI (ah5 (by omega) hl hn),wP,qI]
 congr 2
 rw[List.contains_eq_any_beq]
theorem aia {M:Nat} {l:List Int} {g:FuncId} {cs:List T} {q:Int→Bool} (hM:big+1≤M) (hl:bZ okI l) (hw:T.wfs cs=true) (hm:env.mode g=0) (hq:∀ r∈l,ak env M g (i64 r::cs)= .ok (.bool (q r))):
 ak env (M+1) 209 [.sl 1 (ints l),.fn g [] cs]= .ok (i64 (rV (l.findIdx? q))):=by
 rw[arR,aZ (dN (qO hl) (xu hw))]
 exact Ec i64 (S:=agQ l _) q (by have:=hl.1; omega) hl.1 (akV M l _) (ZW M) (TL M) fun x hx K=>(lS hm).trans (aF (hq x hx))
theorem ah1 {M:Nat} {n:Int} (hn:aT n=true):ak env (M+1) 192 [i64 n]= .ok (.bool (MW n)):=by
 rw[arG,aZ (gQ (bg hn)),Yu]; rfl
theorem QW {M:Nat} {p:Pa} (hM:big+4≤M) (h:p.ok):ak env (M+1) 150 [p.t]= .ok (.bool (gU p)):=by
 obtain⟨m,rfl⟩:=dL (show 1≤M by omega)
 obtain⟨m,rfl⟩:=dL (show 1≤m by omega)
 have hl:=rQ h
 have hc:ak env (m+1+1) 191 [.sl 1 (ints p.s),.fn 192 [] []]= .ok (.bool (p.s.any MW)):=by
  rw[arF,aZ (dN (qO hl) (xu rfl)),nI (aia (q:=MW) (by omega) hl rfl rfl fun r hr=>by obtain⟨m,rfl⟩:=dL (show 1≤m by omega); exact ah1 (hl.2 r hr)),wP,qI]
 rw[arb,aZ (gQ h.wf),bD hc]
 simp only[jC]
 congr 2
 have:decide (((ints p.s).length:Int)≤255)=decide (p.s.length≤255):=by rw[aX,List.length_map]; exact decide_eq_decide.2 (by omega)
 rw[this]
theorem aaz {M:Nat} {a b:Int} (ha:aT a=true) (hb:aT b=true):ak env (M+1) 154 [i64 a,i64 b]= .ok (i64 (Qe a b)):=by
 rw[ari,aZ (dN (bg ha) (bg hb)),aam]; unfold Qe; split<;>rfl
theorem ahP {M:Nat} {r:Ru} {v:Vw} (hM:big+6≤M) (h:r.ok) (hv:v.ok):ak env (M+1) 153 [r.t,v.t]= .ok (.bool (sH v r)):=by
 obtain⟨m,rfl⟩:=dL (show 1≤M by omega)
 obtain⟨m,rfl⟩:=dL (show 1≤m by omega)
 have hw:=dN h.wf hv.wf
 rw[arh,aZ hw,aF (aaE h (by omega))]
 simp only[aG,List.getElem?_cons_zero,List.getElem?_cons_succ]
 unfold sH
 have a2:ak env (m+1+1) 219 [r.t,v.t]= .ok (.bool true):=by rw[ar0,aZ hw]
 have a4:ak env (m+1+1) 221 [r.t,v.t]= .ok (.bool (acn r.x v.x)):=by rw[ar2,aZ hw,aF (aik h.x hv.x (by omega))]
 have a6:ak env (m+1+1) 224 [r.t,v.t]= .ok (.bool (v.s.contains r.v)):=by rw[ar6,aZ hw,aF (aaA (by omega) hv.s h.v)]
 have a8:ak env (m+1+1) 226 [r.t,v.t]= .ok (.bool (decide ((v.s.length:Int) > r.v))):=by rw[ar8,aZ hw,aX,List.length_map]
 have a10:ak env (m+1+1) 228 [r.t,v.t]= .ok (.bool (v.c==r.v)):=by rw[asa,aZ hw]
 rcases DL r.m with ⟨hk,_,n0,n1,n2,n3,n4⟩|e|e|e|e|e
 · rw[hk,if_neg n0,if_neg n1,if_neg n2,if_neg n3,if_neg n4]
   unfold CW
   rw[if_neg n0,if_neg n1,if_neg n2,if_neg n3,if_neg n4]
   rfl
 all_goals rw[e]
 · refine Eq.trans (show _=oN env (aK env (m+1+1)) (.fn 219 [] []) [r.t,v.t] (fun r=>aj.ok r) from rfl) ((lS rfl).trans (aF a2))
 · refine Eq.trans (show _=oN env (aK env (m+1+1)) (.fn 221 [] []) [r.t,v.t] (fun r=>aj.ok r) from rfl) ((lS rfl).trans (aF a4))
 · refine Eq.trans (show _=oN env (aK env (m+1+1)) (.fn 224 [] []) [r.t,v.t] (fun r=>aj.ok r) from rfl) ((lS rfl).trans (aF a6))
 · refine Eq.trans (show _=oN env (aK env (m+1+1)) (.fn 226 [] []) [r.t,v.t] (fun r=>aj.ok r) from rfl) ((lS rfl).trans (aF a8))
 · refine Eq.trans (show _=oN env (aK env (m+1+1)) (.fn 228 [] []) [r.t,v.t] (fun r=>aj.ok r) from rfl) ((lS rfl).trans (aF a10))
theorem aav {M:Nat} {l:List Ru} {v:Vw} (hM:big+9≤M) (hl:bZ Ru.ok l) (hv:v.ok):ak env (M+1) 117 [.sl 6 (l.map Ru.t),v.t]= .ok (match kM l v with|some r=> .au [r.t,.bool true]|none=> .au [.agg [i64 0,i64 0,i64 0,i64 0,i64 0,i64 0],.bool false]):=by
 obtain⟨m,rfl⟩:=dL (show 1≤M by omega)
 obtain⟨m,rfl⟩:=dL (show 1≤m by omega)
 have hi:=Ea (M:=m+1) (g:=152) (cs:=[.ref v.t]) (q:=sH v) (by omega) hl (gQ (lG hv.wf)) rfl fun r hr=>by
  obtain⟨m,rfl⟩:=dL (show 1≤m by omega)
  rw[arf,aZ (dN (hl.2 r hr).wf (lG hv.wf)),aF (ahP (by omega) (hl.2 r hr) hv)]
 rw[aqO,aZ (dN (dG (fun _ h=>Ru.ok.wf h) hl) hv.wf),aF hi]
 simp only[bW]
 unfold kM
 cases h:l.findIdx? (sH v) with
 |none=>
  rw[List.findIdx?_eq_none_iff] at h
  rw[List.find?_eq_none.2 fun x hx=>by rw[h x hx]; exact Bool.false_ne_true]
  rfl
 |some k=>
  obtain⟨hk,hq,hj⟩:=List.findIdx?_eq_some_iff_getElem.1 h
  have hf:l.find? (sH v)=some l[k]:=List.find?_eq_some_iff_getElem.2 ⟨hq,k,hk,rfl,fun j hj'=>by simpa using hj j hj'⟩
  rw[hf]
  rw[decide_eq_false (show ¬ rV (some k) < 0 from by show ¬ (k:Int) < 0; omega)]
  refine Eq.trans (show _=bV (l.map Ru.t) (k:Int) fun e=>chk (e.cells.length==6&& !e.aV) (aj.ok (T.au [e,T.bool true])) from rfl) ?_
  rw[aA (aC (List.getElem?_eq_getElem hk))]
  rfl
end
section
open Go.RowKit Go.Proofs
variable [Lv]
def Ic:List PV:=[.fn 170 [] [.ptr 0 0,.ptr 1 0,.ptr 2 0,.ptr 3 0],.fn 171 [] [.ptr 3 0,.ptr 0 0,.ptr 1 0],.fn 172 [] [.ptr 3 0,.ptr 0 0],.fn 174 [] [.ptr 0 0,.ptr 1 0,.ptr 3 0,.ptr 6 0],.fn 176 [] [.ptr 0 0,.ptr 1 0,.ptr 2 0,.ptr 3 0,.ptr 5 0]]
def ap2 (c:Cf) (k:Int) (x:Px) (p:Pa) (r:T) (o:Int):List ah:=[.box 56 6 (.t c.t),.box 3 1 (.t (i64 k)),.box 25 2 (.t x.t),.box 42 4 (.t p.t),.box 44 6 (.agg [.t (i64 0),.t (i64 0),.nil 3 1,.t (i64 0),.t (i64 0),.t (i64 0)]),.box 123 6 (.t r),.box 3 1 (.t (i64 o)),.vec 26 1 5 Ic]
def Ib (c:Cf) (k:Int) (x:Px) (p:Pa) (r:T) (o:Int):List ah:=[.box 56 6 (.t c.t),.box 3 1 (.t (i64 k)),.box 25 2 (.t x.t),.box 42 4 (.t p.t),.box 44 6 (.agg [.t (i64 0),.t (i64 0),.own 8,.t (i64 0),.t (i64 0),.t (i64 0)]),.box 123 6 (.t r),.box 3 1 (.t (i64 o)),.vec 26 1 5 Ic,.row 3 1 []]
theorem aqb (N:Nat) (c:Cf) (k:Int) (x:Px) (p:Pa) (r:T) (o:Int) {β:Type} (K:PV→List ah→aj β):fQ env (aK env N) N 170 [.ptr 0 0,.ptr 1 0,.ptr 2 0,.ptr 3 0] [.box 56 6 (.t c.t),.box 3 1 (.t (i64 k)),.box 25 2 (.t x.t),.box 42 4 (.t p.t),.box 44 6 (.agg [.t (i64 0),.t (i64 0),.own 8,.t (i64 0),.t (i64 0),.t (i64 0)]),.box 123 6 (.t r),.box 3 1 (.t (i64 o)),.vec 26 1 5 Ic,.row 3 1 []] K=iO N 52 [c.t] fun b=>bif b then iO N 113 [c.t,i64 k] fun b=>bif b then iO N 70 [x.t] fun b=>bif b then cl N 150 [p.t] fun x_1=>K (PV.t x_1) [ah.box 56 6 (PV.t c.t),ah.box 3 1 (PV.t (i64 k)),ah.box 25 2 (PV.t x.t),ah.box 42 4 (PV.t p.t),ah.box 44 6 (PV.agg [PV.t (i64 0),PV.t (i64 0),PV.own 8,PV.t (i64 0),PV.t (i64 0),PV.t (i64 0)]),ah.box 123 6 (PV.t r),ah.box 3 1 (PV.t (i64 o)),ah.vec 26 1 5 [PV.fn 170 [] [PV.ptr 0 0,PV.ptr 1 0,PV.ptr 2 0,PV.ptr 3 0],PV.fn 171 [] [PV.ptr 3 0,PV.ptr 0 0,PV.ptr 1 0],PV.fn 172 [] [PV.ptr 3 0,PV.ptr 0 0],PV.fn 174 [] [PV.ptr 0 0,PV.ptr 1 0,PV.ptr 3 0,PV.ptr 6 0],PV.fn 176 [] [PV.ptr 0 0,PV.ptr 1 0,PV.ptr 2 0,PV.ptr 3 0,PV.ptr 5 0]],ah.row 3 1 []] else K (PV.t (T.bool false)) [ah.box 56 6 (PV.t c.t),ah.box 3 1 (PV.t (i64 k)),ah.box 25 2 (PV.t x.t),ah.box 42 4 (PV.t p.t),ah.box 44 6 (PV.agg [PV.t (i64 0),PV.t (i64 0),PV.own 8,PV.t (i64 0),PV.t (i64 0),PV.t (i64 0)]),ah.box 123 6 (PV.t r),ah.box 3 1 (PV.t (i64 o)),ah.vec 26 1 5 [PV.fn 170 [] [PV.ptr 0 0,PV.ptr 1 0,PV.ptr 2 0,PV.ptr 3 0],PV.fn 171 [] [PV.ptr 3 0,PV.ptr 0 0,PV.ptr 1 0],PV.fn 172 [] [PV.ptr 3 0,PV.ptr 0 0],PV.fn 174 [] [PV.ptr 0 0,PV.ptr 1 0,PV.ptr 3 0,PV.ptr 6 0],PV.fn 176 [] [PV.ptr 0 0,PV.ptr 1 0,PV.ptr 2 0,PV.ptr 3 0,PV.ptr 5 0]],ah.row 3 1 []] else K (PV.t (T.bool false)) [ah.box 56 6 (PV.t c.t),ah.box 3 1 (PV.t (i64 k)),ah.box 25 2 (PV.t x.t),ah.box 42 4 (PV.t p.t),ah.box 44 6 (PV.agg [PV.t (i64 0),PV.t (i64 0),PV.own 8,PV.t (i64 0),PV.t (i64 0),PV.t (i64 0)]),ah.box 123 6 (PV.t r),ah.box 3 1 (PV.t (i64 o)),ah.vec 26 1 5 [PV.fn 170 [] [PV.ptr 0 0,PV.ptr 1 0,PV.ptr 2 0,PV.ptr 3 0],PV.fn 171 [] [PV.ptr 3 0,PV.ptr 0 0,PV.ptr 1 0],PV.fn 172 [] [PV.ptr 3 0,PV.ptr 0 0],PV.fn 174 [] [PV.ptr 0 0,PV.ptr 1 0,PV.ptr 3 0,PV.ptr 6 0],PV.fn 176 [] [PV.ptr 0 0,PV.ptr 1 0,PV.ptr 2 0,PV.ptr 3 0,PV.ptr 5 0]],ah.row 3 1 []] else K (PV.t (T.bool false)) [ah.box 56 6 (PV.t c.t),ah.box 3 1 (PV.t (i64 k)),ah.box 25 2 (PV.t x.t),ah.box 42 4 (PV.t p.t),ah.box 44 6 (PV.agg [PV.t (i64 0),PV.t (i64 0),PV.own 8,PV.t (i64 0),PV.t (i64 0),PV.t (i64 0)]),ah.box 123 6 (PV.t r),ah.box 3 1 (PV.t (i64 o)),ah.vec 26 1 5 [PV.fn 170 [] [PV.ptr 0 0,PV.ptr 1 0,PV.ptr 2 0,PV.ptr 3 0],PV.fn 171 [] [PV.ptr 3 0,PV.ptr 0 0,PV.ptr 1 0],PV.fn 172 [] [PV.ptr 3 0,PV.ptr 0 0],PV.fn 174 [] [PV.ptr 0 0,PV.ptr 1 0,PV.ptr 3 0,PV.ptr 6 0],PV.fn 176 [] [PV.ptr 0 0,PV.ptr 1 0,PV.ptr 2 0,PV.ptr 3 0,PV.ptr 5 0]],ah.row 3 1 []]:=by kernel_rfl
theorem aqc (N:Nat) (c:Cf) (k:Int) (x:Px) (p:Pa) (r:T) (o:Int) {β:Type} (K:PV→List ah→aj β):fQ env (aK env N) N 171 [.ptr 3 0,.ptr 0 0,.ptr 1 0] [.box 56 6 (.t c.t),.box 3 1 (.t (i64 k)),.box 25 2 (.t x.t),.box 42 4 (.t p.t),.box 44 6 (.agg [.t (i64 0),.t (i64 0),.own 8,.t (i64 0),.t (i64 0),.t (i64 0)]),.box 123 6 (.t r),.box 3 1 (.t (i64 o)),.vec 26 1 5 Ic,.row 3 1 []] K=bif decide ((↑(ints p.s).length:Int) > 0) then bif decide ((↑(ints p.s).length:Int)≤32) then bV (ints p.s) 0 fun e=>bV (List.map Sd.t c.s) k fun e_1=>iT IntKind.i64 e fun a=>iT IntKind.i64 (e_1.ay 0 1 false) fun b=>K (PV.t (T.bool (a==b))) [ah.box 56 6 (PV.t c.t),ah.box 3 1 (PV.t (i64 k)),ah.box 25 2 (PV.t x.t),ah.box 42 4 (PV.t p.t),ah.box 44 6 (PV.agg [PV.t (i64 0),PV.t (i64 0),PV.own 8,PV.t (i64 0),PV.t (i64 0),PV.t (i64 0)]),ah.box 123 6 (PV.t r),ah.box 3 1 (PV.t (i64 o)),ah.vec 26 1 5 [PV.fn 170 [] [PV.ptr 0 0,PV.ptr 1 0,PV.ptr 2 0,PV.ptr 3 0],PV.fn 171 [] [PV.ptr 3 0,PV.ptr 0 0,PV.ptr 1 0],PV.fn 172 [] [PV.ptr 3 0,PV.ptr 0 0],PV.fn 174 [] [PV.ptr 0 0,PV.ptr 1 0,PV.ptr 3 0,PV.ptr 6 0],PV.fn 176 [] [PV.ptr 0 0,PV.ptr 1 0,PV.ptr 2 0,PV.ptr 3 0,PV.ptr 5 0]],ah.row 3 1 []] else K (PV.t (T.bool false)) [ah.box 56 6 (PV.t c.t),ah.box 3 1 (PV.t (i64 k)),ah.box 25 2 (PV.t x.t),ah.box 42 4 (PV.t p.t),ah.box 44 6 (PV.agg [PV.t (i64 0),PV.t (i64 0),PV.own 8,PV.t (i64 0),PV.t (i64 0),PV.t (i64 0)]),ah.box 123 6 (PV.t r),ah.box 3 1 (PV.t (i64 o)),ah.vec 26 1 5 [PV.fn 170 [] [PV.ptr 0 0,PV.ptr 1 0,PV.ptr 2 0,PV.ptr 3 0],PV.fn 171 [] [PV.ptr 3 0,PV.ptr 0 0,PV.ptr 1 0],PV.fn 172 [] [PV.ptr 3 0,PV.ptr 0 0],PV.fn 174 [] [PV.ptr 0 0,PV.ptr 1 0,PV.ptr 3 0,PV.ptr 6 0],PV.fn 176 [] [PV.ptr 0 0,PV.ptr 1 0,PV.ptr 2 0,PV.ptr 3 0,PV.ptr 5 0]],ah.row 3 1 []] else K (PV.t (T.bool false)) [ah.box 56 6 (PV.t c.t),ah.box 3 1 (PV.t (i64 k)),ah.box 25 2 (PV.t x.t),ah.box 42 4 (PV.t p.t),ah.box 44 6 (PV.agg [PV.t (i64 0),PV.t (i64 0),PV.own 8,PV.t (i64 0),PV.t (i64 0),PV.t (i64 0)]),ah.box 123 6 (PV.t r),ah.box 3 1 (PV.t (i64 o)),ah.vec 26 1 5 [PV.fn 170 [] [PV.ptr 0 0,PV.ptr 1 0,PV.ptr 2 0,PV.ptr 3 0],PV.fn 171 [] [PV.ptr 3 0,PV.ptr 0 0,PV.ptr 1 0],PV.fn 172 [] [PV.ptr 3 0,PV.ptr 0 0],PV.fn 174 [] [PV.ptr 0 0,PV.ptr 1 0,PV.ptr 3 0,PV.ptr 6 0],PV.fn 176 [] [PV.ptr 0 0,PV.ptr 1 0,PV.ptr 2 0,PV.ptr 3 0,PV.ptr 5 0]],ah.row 3 1 []]:=by kernel_rfl
theorem aqd (N:Nat) (c:Cf) (k:Int) (x:Px) (p:Pa) (r:T) (o:Int) {β:Type} (K:PV→List ah→aj β):fQ env (aK env N) N 172 [.ptr 3 0,.ptr 0 0] [.box 56 6 (.t c.t),.box 3 1 (.t (i64 k)),.box 25 2 (.t x.t),.box 42 4 (.t p.t),.box 44 6 (.agg [.t (i64 0),.t (i64 0),.own 8,.t (i64 0),.t (i64 0),.t (i64 0)]),.box 123 6 (.t r),.box 3 1 (.t (i64 o)),.vec 26 1 5 Ic,.row 3 1 []] K=iO N 173 [T.sl 1 (ints p.s),i64 c.a] fun b=>K (PV.t (T.bool !b)) [ah.box 56 6 (PV.t c.t),ah.box 3 1 (PV.t (i64 k)),ah.box 25 2 (PV.t x.t),ah.box 42 4 (PV.t p.t),ah.box 44 6 (PV.agg [PV.t (i64 0),PV.t (i64 0),PV.own 8,PV.t (i64 0),PV.t (i64 0),PV.t (i64 0)]),ah.box 123 6 (PV.t r),ah.box 3 1 (PV.t (i64 o)),ah.vec 26 1 5 [PV.fn 170 [] [PV.ptr 0 0,PV.ptr 1 0,PV.ptr 2 0,PV.ptr 3 0],PV.fn 171 [] [PV.ptr 3 0,PV.ptr 0 0,PV.ptr 1 0],PV.fn 172 [] [PV.ptr 3 0,PV.ptr 0 0],PV.fn 174 [] [PV.ptr 0 0,PV.ptr 1 0,PV.ptr 3 0,PV.ptr 6 0],PV.fn 176 [] [PV.ptr 0 0,PV.ptr 1 0,PV.ptr 2 0,PV.ptr 3 0,PV.ptr 5 0]],ah.row 3 1 []]:=by kernel_rfl
theorem aqe (N:Nat) (c:Cf) (k:Int) (x:Px) (p:Pa) (r:T) (o:Int) {β:Type} (K:PV→List ah→aj β):fQ env (aK env N) N 174 [.ptr 0 0,.ptr 1 0,.ptr 3 0,.ptr 6 0] [.box 56 6 (.t c.t),.box 3 1 (.t (i64 k)),.box 25 2 (.t x.t),.box 42 4 (.t p.t),.box 44 6 (.agg [.t (i64 0),.t (i64 0),.own 8,.t (i64 0),.t (i64 0),.t (i64 0)]),.box 123 6 (.t r),.box 3 1 (.t (i64 o)),.vec 26 1 5 Ic,.row 3 1 []] K=bV (List.map Sd.t c.s) k fun e=>bV (List.map Sd.t c.s) k fun e_1=>cl N 175 [e.ay 1 1 false,e_1.ay 0 1 false,i64 p.c] fun x_1=>aG x_1 0 fun y=>aG x_1 1 fun y_1=>chk (y.cells.length==1&& !y.aV) (K (PV.t y_1) [ah.box 56 6 (PV.t c.t),ah.box 3 1 (PV.t (i64 k)),ah.box 25 2 (PV.t x.t),ah.box 42 4 (PV.t p.t),ah.box 44 6 (PV.agg [PV.t (i64 0),PV.t (i64 0),PV.own 8,PV.t (i64 0),PV.t (i64 0),PV.t (i64 0)]),ah.box 123 6 (PV.t r),ah.box 3 1 (PV.t y),ah.vec 26 1 5 [PV.fn 170 [] [PV.ptr 0 0,PV.ptr 1 0,PV.ptr 2 0,PV.ptr 3 0],PV.fn 171 [] [PV.ptr 3 0,PV.ptr 0 0,PV.ptr 1 0],PV.fn 172 [] [PV.ptr 3 0,PV.ptr 0 0],PV.fn 174 [] [PV.ptr 0 0,PV.ptr 1 0,PV.ptr 3 0,PV.ptr 6 0],PV.fn 176 [] [PV.ptr 0 0,PV.ptr 1 0,PV.ptr 2 0,PV.ptr 3 0,PV.ptr 5 0]],ah.row 3 1 []]):=by kernel_rfl
theorem aqf (N:Nat) (c:Cf) (k:Int) (x:Px) (p:Pa) (r:T) (o:Int) {β:Type} (K:PV→List ah→aj β):fQ env (aK env N) N 176 [.ptr 0 0,.ptr 1 0,.ptr 2 0,.ptr 3 0,.ptr 5 0] [.box 56 6 (.t c.t),.box 3 1 (.t (i64 k)),.box 25 2 (.t x.t),.box 42 4 (.t p.t),.box 44 6 (.agg [.t (i64 0),.t (i64 0),.own 8,.t (i64 0),.t (i64 0),.t (i64 0)]),.box 123 6 (.t r),.box 3 1 (.t (i64 o)),.vec 26 1 5 Ic,.row 3 1 []] K=bV (List.map Sd.t c.s) k fun e=>bV (List.map Sd.t c.s) k fun e_1=>chk ((e_1.ay 1 1 false).cells.length==1&& !(e_1.ay 1 1 false).aV) (cl N 117 [e.ay 2 1 false,T.agg [i64 x.a,i64 x.n,T.sl 1 (ints p.s),(e_1.ay 1 1 false).cell 0]] fun x_1=>aG x_1 0 fun y=>aG x_1 1 fun y_1=>chk (y.cells.length==6&& !y.aV) (bT y_1 fun b=>bif b then iT IntKind.i64 (y.ay 4 1 false) fun a=>K (PV.t (T.bool (a==2))) [ah.box 56 6 (PV.t c.t),ah.box 3 1 (PV.t (i64 k)),ah.box 25 2 (PV.t x.t),ah.box 42 4 (PV.t p.t),ah.box 44 6 (PV.agg [PV.t (i64 0),PV.t (i64 0),PV.own 8,PV.t (i64 0),PV.t (i64 0),PV.t (i64 0)]),ah.box 123 6 (PV.t y),ah.box 3 1 (PV.t (i64 o)),ah.vec 26 1 5 [PV.fn 170 [] [PV.ptr 0 0,PV.ptr 1 0,PV.ptr 2 0,PV.ptr 3 0],PV.fn 171 [] [PV.ptr 3 0,PV.ptr 0 0,PV.ptr 1 0],PV.fn 172 [] [PV.ptr 3 0,PV.ptr 0 0],PV.fn 174 [] [PV.ptr 0 0,PV.ptr 1 0,PV.ptr 3 0,PV.ptr 6 0],PV.fn 176 [] [PV.ptr 0 0,PV.ptr 1 0,PV.ptr 2 0,PV.ptr 3 0,PV.ptr 5 0]],ah.row 3 1 []] else K (PV.t (T.bool false)) [ah.box 56 6 (PV.t c.t),ah.box 3 1 (PV.t (i64 k)),ah.box 25 2 (PV.t x.t),ah.box 42 4 (PV.t p.t),ah.box 44 6 (PV.agg [PV.t (i64 0),PV.t (i64 0),PV.own 8,PV.t (i64 0),PV.t (i64 0),PV.t (i64 0)]),ah.box 123 6 (PV.t y),ah.box 3 1 (PV.t (i64 o)),ah.vec 26 1 5 [PV.fn 170 [] [PV.ptr 0 0,PV.ptr 1 0,PV.ptr 2 0,PV.ptr 3 0],PV.fn 171 [] [PV.ptr 3 0,PV.ptr 0 0,PV.ptr 1 0],PV.fn 172 [] [PV.ptr 3 0,PV.ptr 0 0],PV.fn 174 [] [PV.ptr 0 0,PV.ptr 1 0,PV.ptr 3 0,PV.ptr 6 0],PV.fn 176 [] [PV.ptr 0 0,PV.ptr 1 0,PV.ptr 2 0,PV.ptr 3 0,PV.ptr 5 0]],ah.row 3 1 []])):=by kernel_rfl
end
section
open Go.RowKit Go.Proofs
variable [Lv]
def gJ (c:Cf) (k:Int) (x:Px) (p:Pa) (b:Bool):Pin:=⟨170,[.ptr 0 0,.ptr 1 0,.ptr 2 0,.ptr 3 0],Ib c k x p (T.agg [i64 0,i64 0,i64 0,i64 0,i64 0,i64 0]) 0,.t (.bool b),Ib c k x p (T.agg [i64 0,i64 0,i64 0,i64 0,i64 0,i64 0]) 0⟩
def jc (c:Cf) (k:Int) (x:Px) (p:Pa) (b:Bool):Pin:=⟨171,[.ptr 3 0,.ptr 0 0,.ptr 1 0],Ib c k x p (T.agg [i64 0,i64 0,i64 0,i64 0,i64 0,i64 0]) 0,.t (.bool b),Ib c k x p (T.agg [i64 0,i64 0,i64 0,i64 0,i64 0,i64 0]) 0⟩
def kD (c:Cf) (k:Int) (x:Px) (p:Pa) (b:Bool):Pin:=⟨172,[.ptr 3 0,.ptr 0 0],Ib c k x p (T.agg [i64 0,i64 0,i64 0,i64 0,i64 0,i64 0]) 0,.t (.bool b),Ib c k x p (T.agg [i64 0,i64 0,i64 0,i64 0,i64 0,i64 0]) 0⟩
def nU (c:Cf) (k:Int) (x:Px) (p:Pa) (b:Bool) (o:Int):Pin:=⟨174,[.ptr 0 0,.ptr 1 0,.ptr 3 0,.ptr 6 0],Ib c k x p (T.agg [i64 0,i64 0,i64 0,i64 0,i64 0,i64 0]) 0,.t (.bool b),Ib c k x p (T.agg [i64 0,i64 0,i64 0,i64 0,i64 0,i64 0]) o⟩
def wE (c:Cf) (k:Int) (x:Px) (p:Pa) (b:Bool) (o:Int) (r:T):Pin:=⟨176,[.ptr 0 0,.ptr 1 0,.ptr 2 0,.ptr 3 0,.ptr 5 0],Ib c k x p (T.agg [i64 0,i64 0,i64 0,i64 0,i64 0,i64 0]) o,.t (.bool b),Ib c k x p r o⟩
def zF (c:Cf) (k:Int) (x:Px) (p:Pa) (b:Bool) (o:Int) (r:T):Pin:=⟨111,[.own 7],ap2 c k x p (T.agg [i64 0,i64 0,i64 0,i64 0,i64 0,i64 0]) 0,.t (.bool b),Ib c k x p r o⟩
def rZ (c:Cf) (k:Int) (x:Px) (p:Pa) (r:T) (o:Int):St:=⟨slots 15 [(5,.own 7),(6,.t (i64 5)),(7,.t (i64 0))],[.box 56 6 (.t c.t),.box 3 1 (.t (i64 k)),.box 25 2 (.t x.t),.box 42 4 (.t p.t),.box 44 6 (.agg [.t (i64 0),.t (i64 0),.own 8,.t (i64 0),.t (i64 0),.t (i64 0)]),.box 123 6 (.t r),.box 3 1 (.t (i64 o)),.vec 26 1 5 Ic,.row 3 1 []]⟩
def ND (c:Cf) (k:Int) (x:Px) (p:Pa) (r:T) (o:Int):St:=⟨slots 15 [(5,.own 7),(6,.t (i64 5)),(7,.t (i64 1))],[.box 56 6 (.t c.t),.box 3 1 (.t (i64 k)),.box 25 2 (.t x.t),.box 42 4 (.t p.t),.box 44 6 (.agg [.t (i64 0),.t (i64 0),.own 8,.t (i64 0),.t (i64 0),.t (i64 0)]),.box 123 6 (.t r),.box 3 1 (.t (i64 o)),.vec 26 1 5 Ic,.row 3 1 []]⟩
def Uk (c:Cf) (k:Int) (x:Px) (p:Pa) (r:T) (o:Int):St:=⟨slots 15 [(5,.own 7),(6,.t (i64 5)),(7,.t (i64 2))],[.box 56 6 (.t c.t),.box 3 1 (.t (i64 k)),.box 25 2 (.t x.t),.box 42 4 (.t p.t),.box 44 6 (.agg [.t (i64 0),.t (i64 0),.own 8,.t (i64 0),.t (i64 0),.t (i64 0)]),.box 123 6 (.t r),.box 3 1 (.t (i64 o)),.vec 26 1 5 Ic,.row 3 1 []]⟩
def acE (c:Cf) (k:Int) (x:Px) (p:Pa) (r:T) (o:Int):St:=⟨slots 15 [(5,.own 7),(6,.t (i64 5)),(7,.t (i64 3))],[.box 56 6 (.t c.t),.box 3 1 (.t (i64 k)),.box 25 2 (.t x.t),.box 42 4 (.t p.t),.box 44 6 (.agg [.t (i64 0),.t (i64 0),.own 8,.t (i64 0),.t (i64 0),.t (i64 0)]),.box 123 6 (.t r),.box 3 1 (.t (i64 o)),.vec 26 1 5 Ic,.row 3 1 []]⟩
def akB (c:Cf) (k:Int) (x:Px) (p:Pa) (r:T) (o:Int):St:=⟨slots 15 [(5,.own 7),(6,.t (i64 5)),(7,.t (i64 4))],[.box 56 6 (.t c.t),.box 3 1 (.t (i64 k)),.box 25 2 (.t x.t),.box 42 4 (.t p.t),.box 44 6 (.agg [.t (i64 0),.t (i64 0),.own 8,.t (i64 0),.t (i64 0),.t (i64 0)]),.box 123 6 (.t r),.box 3 1 (.t (i64 o)),.vec 26 1 5 Ic,.row 3 1 []]⟩
def anH (c:Cf) (k:Int) (x:Px) (p:Pa) (r:T) (o:Int):St:=⟨slots 15 [(5,.own 7),(6,.t (i64 5)),(7,.t (i64 5))],[.box 56 6 (.t c.t),.box 3 1 (.t (i64 k)),.box 25 2 (.t x.t),.box 42 4 (.t p.t),.box 44 6 (.agg [.t (i64 0),.t (i64 0),.own 8,.t (i64 0),.t (i64 0),.t (i64 0)]),.box 123 6 (.t r),.box 3 1 (.t (i64 o)),.vec 26 1 5 Ic,.row 3 1 []]⟩
def jr (c:Cf) (k:Int) (x:Px) (p:Pa):List ah:=[ah.box 56 6 (PV.t c.t),ah.box 3 1 (PV.t (i64 k)),ah.box 25 2 (PV.t x.t),ah.box 42 4 (PV.t p.t),ah.box 44 6 (PV.agg [PV.t (i64 0),PV.t (i64 0),PV.own 8,PV.t (i64 0),PV.t (i64 0),PV.t (i64 0)]),ah.box 123 6 (PV.t (T.agg [i64 0,i64 0,i64 0,i64 0,i64 0,i64 0])),ah.box 3 1 (PV.t (i64 0)),ah.vec 26 1 5 [PV.fn 170 [] [PV.ptr 0 0,PV.ptr 1 0,PV.ptr 2 0,PV.ptr 3 0],PV.fn 171 [] [PV.ptr 3 0,PV.ptr 0 0,PV.ptr 1 0],PV.fn 172 [] [PV.ptr 3 0,PV.ptr 0 0],PV.fn 174 [] [PV.ptr 0 0,PV.ptr 1 0,PV.ptr 3 0,PV.ptr 6 0],PV.fn 176 [] [PV.ptr 0 0,PV.ptr 1 0,PV.ptr 2 0,PV.ptr 3 0,PV.ptr 5 0]],ah.row 3 1 []]
def abO (c:Cf) (k:Int) (x:Px) (p:Pa) (o:Int):List ah:=[ah.box 56 6 (PV.t c.t),ah.box 3 1 (PV.t (i64 k)),ah.box 25 2 (PV.t x.t),ah.box 42 4 (PV.t p.t),ah.box 44 6 (PV.agg [PV.t (i64 0),PV.t (i64 0),PV.own 8,PV.t (i64 0),PV.t (i64 0),PV.t (i64 0)]),ah.box 123 6 (PV.t (T.agg [i64 0,i64 0,i64 0,i64 0,i64 0,i64 0])),ah.box 3 1 (PV.t (i64 o)),ah.vec 26 1 5 [PV.fn 170 [] [PV.ptr 0 0,PV.ptr 1 0,PV.ptr 2 0,PV.ptr 3 0],PV.fn 171 [] [PV.ptr 3 0,PV.ptr 0 0,PV.ptr 1 0],PV.fn 172 [] [PV.ptr 3 0,PV.ptr 0 0],PV.fn 174 [] [PV.ptr 0 0,PV.ptr 1 0,PV.ptr 3 0,PV.ptr 6 0],PV.fn 176 [] [PV.ptr 0 0,PV.ptr 1 0,PV.ptr 2 0,PV.ptr 3 0,PV.ptr 5 0]],ah.row 3 1 []]
def akq (c:Cf) (k:Int) (x:Px) (p:Pa) (o:Int) (r:T):List ah:=[ah.box 56 6 (PV.t c.t),ah.box 3 1 (PV.t (i64 k)),ah.box 25 2 (PV.t x.t),ah.box 42 4 (PV.t p.t),ah.box 44 6 (PV.agg [PV.t (i64 0),PV.t (i64 0),PV.own 8,PV.t (i64 0),PV.t (i64 0),PV.t (i64 0)]),ah.box 123 6 (PV.t r),ah.box 3 1 (PV.t (i64 o)),ah.vec 26 1 5 [PV.fn 170 [] [PV.ptr 0 0,PV.ptr 1 0,PV.ptr 2 0,PV.ptr 3 0],PV.fn 171 [] [PV.ptr 3 0,PV.ptr 0 0,PV.ptr 1 0],PV.fn 172 [] [PV.ptr 3 0,PV.ptr 0 0],PV.fn 174 [] [PV.ptr 0 0,PV.ptr 1 0,PV.ptr 3 0,PV.ptr 6 0],PV.fn 176 [] [PV.ptr 0 0,PV.ptr 1 0,PV.ptr 2 0,PV.ptr 3 0,PV.ptr 5 0]],ah.row 3 1 []]
theorem aoE (N:Nat) (c:Cf) (k:Int) (x:Px) (p:Pa) (b:Bool) {β:Type} (K:PV→List ah→aj β):fQ env (bI env N [gJ c k x p b]) N 111 [.own 7] [.box 56 6 (.t c.t),.box 3 1 (.t (i64 k)),.box 25 2 (.t x.t),.box 42 4 (.t p.t),.box 44 6 (.agg [.t (i64 0),.t (i64 0),.nil 3 1,.t (i64 0),.t (i64 0),.t (i64 0)]),.box 123 6 (.t (T.agg [i64 0,i64 0,i64 0,i64 0,i64 0,i64 0])),.box 3 1 (.t (i64 0)),.vec 26 1 5 Ic] K=uD env (bI env N [gJ c k x p b]) N 111 8 2 K {tmps:=slots 15 [(5,PV.own 7),(6,PV.t (i64 5)),(7,PV.t (i64 0))],heap:=(jr c k x p)}:=by kernel_rfl
theorem afU (N:Nat) (c:Cf) (k:Int) (x:Px) (p:Pa) (b:Bool):bU env (bI env N [gJ c k x p b]) N 111 8 2 (rZ c k x p (T.agg [i64 0,i64 0,i64 0,i64 0,i64 0,i64 0]) 0)=iQ ([PV.ptr 0 0,PV.ptr 1 0,PV.ptr 2 0,PV.ptr 3 0]= [PV.ptr 0 0,PV.ptr 1 0,PV.ptr 2 0,PV.ptr 3 0]∧(jr c k x p)=(jr c k x p)) (bif !b then aj.ok (Ex.ret,{tmps:=slots 15 [(2,PV.t (T.bool false))],heap:=(jr c k x p)}) else aj.ok (Ex.norm,{tmps:=slots 15 [(5,PV.own 7),(6,PV.t (i64 5)),(7,PV.t (i64 1))],heap:=(jr c k x p)})):=by kernel_rfl
theorem SA (N:Nat) (c:Cf) (k:Int) (x:Px) (p:Pa) (b:Bool) (H:List ah) {β:Type} (K:PV→List ah→aj β):rF env (bI env N [gJ c k x p b]) N 111 8 2 K (.ret) (⟨slots 15 [(2,.t (.bool false))],H⟩)=K (PV.t (T.bool false)) H:=by kernel_rfl
theorem ai0 (N:Nat) (c:Cf) (k:Int) (x:Px) (p:Pa) (b:Bool) {β:Type} (K:PV→List ah→aj β):fQ env (bI env N [gJ c k x p true,jc c k x p b]) N 111 [.own 7] [.box 56 6 (.t c.t),.box 3 1 (.t (i64 k)),.box 25 2 (.t x.t),.box 42 4 (.t p.t),.box 44 6 (.agg [.t (i64 0),.t (i64 0),.nil 3 1,.t (i64 0),.t (i64 0),.t (i64 0)]),.box 123 6 (.t (T.agg [i64 0,i64 0,i64 0,i64 0,i64 0,i64 0])),.box 3 1 (.t (i64 0)),.vec 26 1 5 Ic] K=uD env (bI env N [gJ c k x p true,jc c k x p b]) N 111 8 2 K {tmps:=slots 15 [(5,PV.own 7),(6,PV.t (i64 5)),(7,PV.t (i64 0))],heap:=(jr c k x p)}:=by kernel_rfl
theorem Zm (N:Nat) (c:Cf) (k:Int) (x:Px) (p:Pa) (b:Bool):bU env (bI env N [gJ c k x p true,jc c k x p b]) N 111 8 2 (rZ c k x p (T.agg [i64 0,i64 0,i64 0,i64 0,i64 0,i64 0]) 0)=iQ ([PV.ptr 0 0,PV.ptr 1 0,PV.ptr 2 0,PV.ptr 3 0]= [PV.ptr 0 0,PV.ptr 1 0,PV.ptr 2 0,PV.ptr 3 0]∧(jr c k x p)=(jr c k x p)) (aj.ok (Ex.norm,{tmps:=slots 15 [(5,PV.own 7),(6,PV.t (i64 5)),(7,PV.t (i64 1))],heap:=(jr c k x p)})):=by kernel_rfl
theorem Zn (N:Nat) (c:Cf) (k:Int) (x:Px) (p:Pa) (b:Bool):bU env (bI env N [gJ c k x p true,jc c k x p b]) N 111 8 2 (ND c k x p (T.agg [i64 0,i64 0,i64 0,i64 0,i64 0,i64 0]) 0)=iQ ([PV.ptr 3 0,PV.ptr 0 0,PV.ptr 1 0]= [PV.ptr 3 0,PV.ptr 0 0,PV.ptr 1 0]∧(jr c k x p)=(jr c k x p)) (bif !b then aj.ok (Ex.ret,{tmps:=slots 15 [(2,PV.t (T.bool false))],heap:=(jr c k x p)}) else aj.ok (Ex.norm,{tmps:=slots 15 [(5,PV.own 7),(6,PV.t (i64 5)),(7,PV.t (i64 2))],heap:=(jr c k x p)})):=by kernel_rfl
theorem Nu (N:Nat) (c:Cf) (k:Int) (x:Px) (p:Pa) (b:Bool) (H:List ah) {β:Type} (K:PV→List ah→aj β):rF env (bI env N [gJ c k x p true,jc c k x p b]) N 111 8 2 K (.ret) (⟨slots 15 [(2,.t (.bool false))],H⟩)=K (PV.t (T.bool false)) H:=by kernel_rfl
theorem ai1 (N:Nat) (c:Cf) (k:Int) (x:Px) (p:Pa) (b:Bool) {β:Type} (K:PV→List ah→aj β):fQ env (bI env N [gJ c k x p true,jc c k x p true,kD c k x p b]) N 111 [.own 7] [.box 56 6 (.t c.t),.box 3 1 (.t (i64 k)),.box 25 2 (.t x.t),.box 42 4 (.t p.t),.box 44 6 (.agg [.t (i64 0),.t (i64 0),.nil 3 1,.t (i64 0),.t (i64 0),.t (i64 0)]),.box 123 6 (.t (T.agg [i64 0,i64 0,i64 0,i64 0,i64 0,i64 0])),.box 3 1 (.t (i64 0)),.vec 26 1 5 Ic] K=uD env (bI env N [gJ c k x p true,jc c k x p true,kD c k x p b]) N 111 8 2 K {tmps:=slots 15 [(5,PV.own 7),(6,PV.t (i64 5)),(7,PV.t (i64 0))],heap:=(jr c k x p)}:=by kernel_rfl
theorem Zo (N:Nat) (c:Cf) (k:Int) (x:Px) (p:Pa) (b:Bool):bU env (bI env N [gJ c k x p true,jc c k x p true,kD c k x p b]) N 111 8 2 (rZ c k x p (T.agg [i64 0,i64 0,i64 0,i64 0,i64 0,i64 0]) 0)=iQ ([PV.ptr 0 0,PV.ptr 1 0,PV.ptr 2 0,PV.ptr 3 0]= [PV.ptr 0 0,PV.ptr 1 0,PV.ptr 2 0,PV.ptr 3 0]∧(jr c k x p)=(jr c k x p)) (aj.ok (Ex.norm,{tmps:=slots 15 [(5,PV.own 7),(6,PV.t (i64 5)),(7,PV.t (i64 1))],heap:=(jr c k x p)})):=by kernel_rfl
theorem Zp (N:Nat) (c:Cf) (k:Int) (x:Px) (p:Pa) (b:Bool):bU env (bI env N [gJ c k x p true,jc c k x p true,kD c k x p b]) N 111 8 2 (ND c k x p (T.agg [i64 0,i64 0,i64 0,i64 0,i64 0,i64 0]) 0)=iQ ([PV.ptr 3 0,PV.ptr 0 0,PV.ptr 1 0]= [PV.ptr 3 0,PV.ptr 0 0,PV.ptr 1 0]∧(jr c k x p)=(jr c k x p)) (aj.ok (Ex.norm,{tmps:=slots 15 [(5,PV.own 7),(6,PV.t (i64 5)),(7,PV.t (i64 2))],heap:=(jr c k x p)})):=by kernel_rfl
theorem Zq (N:Nat) (c:Cf) (k:Int) (x:Px) (p:Pa) (b:Bool):bU env (bI env N [gJ c k x p true,jc c k x p true,kD c k x p b]) N 111 8 2 (Uk c k x p (T.agg [i64 0,i64 0,i64 0,i64 0,i64 0,i64 0]) 0)=iQ ([PV.ptr 3 0,PV.ptr 0 0]= [PV.ptr 3 0,PV.ptr 0 0]∧(jr c k x p)=(jr c k x p)) (bif !b then aj.ok (Ex.ret,{tmps:=slots 15 [(2,PV.t (T.bool false))],heap:=(jr c k x p)}) else aj.ok (Ex.norm,{tmps:=slots 15 [(5,PV.own 7),(6,PV.t (i64 5)),(7,PV.t (i64 3))],heap:=(jr c k x p)})):=by kernel_rfl
theorem Nv (N:Nat) (c:Cf) (k:Int) (x:Px) (p:Pa) (b:Bool) (H:List ah) {β:Type} (K:PV→List ah→aj β):rF env (bI env N [gJ c k x p true,jc c k x p true,kD c k x p b]) N 111 8 2 K (.ret) (⟨slots 15 [(2,.t (.bool false))],H⟩)=K (PV.t (T.bool false)) H:=by kernel_rfl
theorem ai2 (N:Nat) (c:Cf) (k:Int) (x:Px) (p:Pa) (b:Bool) (o:Int) {β:Type} (K:PV→List ah→aj β):fQ env (bI env N [gJ c k x p true,jc c k x p true,kD c k x p true,nU c k x p b o]) N 111 [.own 7] [.box 56 6 (.t c.t),.box 3 1 (.t (i64 k)),.box 25 2 (.t x.t),.box 42 4 (.t p.t),.box 44 6 (.agg [.t (i64 0),.t (i64 0),.nil 3 1,.t (i64 0),.t (i64 0),.t (i64 0)]),.box 123 6 (.t (T.agg [i64 0,i64 0,i64 0,i64 0,i64 0,i64 0])),.box 3 1 (.t (i64 0)),.vec 26 1 5 Ic] K=uD env (bI env N [gJ c k x p true,jc c k x p true,kD c k x p true,nU c k x p b o]) N 111 8 2 K {tmps:=slots 15 [(5,PV.own 7),(6,PV.t (i64 5)),(7,PV.t (i64 0))],heap:=(jr c k x p)}:=by kernel_rfl
theorem Zr (N:Nat) (c:Cf) (k:Int) (x:Px) (p:Pa) (b:Bool) (o:Int):bU env (bI env N [gJ c k x p true,jc c k x p true,kD c k x p true,nU c k x p b o]) N 111 8 2 (rZ c k x p (T.agg [i64 0,i64 0,i64 0,i64 0,i64 0,i64 0]) 0)=iQ ([PV.ptr 0 0,PV.ptr 1 0,PV.ptr 2 0,PV.ptr 3 0]= [PV.ptr 0 0,PV.ptr 1 0,PV.ptr 2 0,PV.ptr 3 0]∧(jr c k x p)=(jr c k x p)) (aj.ok (Ex.norm,{tmps:=slots 15 [(5,PV.own 7),(6,PV.t (i64 5)),(7,PV.t (i64 1))],heap:=(jr c k x p)})):=by kernel_rfl
theorem Zt (N:Nat) (c:Cf) (k:Int) (x:Px) (p:Pa) (b:Bool) (o:Int):bU env (bI env N [gJ c k x p true,jc c k x p true,kD c k x p true,nU c k x p b o]) N 111 8 2 (ND c k x p (T.agg [i64 0,i64 0,i64 0,i64 0,i64 0,i64 0]) 0)=iQ ([PV.ptr 3 0,PV.ptr 0 0,PV.ptr 1 0]= [PV.ptr 3 0,PV.ptr 0 0,PV.ptr 1 0]∧(jr c k x p)=(jr c k x p)) (aj.ok (Ex.norm,{tmps:=slots 15 [(5,PV.own 7),(6,PV.t (i64 5)),(7,PV.t (i64 2))],heap:=(jr c k x p)})):=by kernel_rfl
theorem Zu (N:Nat) (c:Cf) (k:Int) (x:Px) (p:Pa) (b:Bool) (o:Int):bU env (bI env N [gJ c k x p true,jc c k x p true,kD c k x p true,nU c k x p b o]) N 111 8 2 (Uk c k x p (T.agg [i64 0,i64 0,i64 0,i64 0,i64 0,i64 0]) 0)=iQ ([PV.ptr 3 0,PV.ptr 0 0]= [PV.ptr 3 0,PV.ptr 0 0]∧(jr c k x p)=(jr c k x p)) (aj.ok (Ex.norm,{tmps:=slots 15 [(5,PV.own 7),(6,PV.t (i64 5)),(7,PV.t (i64 3))],heap:=(jr c k x p)})):=by kernel_rfl
theorem WE (N:Nat) (c:Cf) (k:Int) (x:Px) (p:Pa) (b:Bool) (o:Int):bU env (bI env N [gJ c k x p true,jc c k x p true,kD c k x p true,nU c k x p b o]) N 111 8 2 (acE c k x p (T.agg [i64 0,i64 0,i64 0,i64 0,i64 0,i64 0]) 0)=iQ ([PV.ptr 0 0,PV.ptr 1 0,PV.ptr 3 0,PV.ptr 6 0]= [PV.ptr 0 0,PV.ptr 1 0,PV.ptr 3 0,PV.ptr 6 0]∧(jr c k x p)=(jr c k x p)) (bif !b then aj.ok (Ex.ret,{tmps:=slots 15 [(2,PV.t (T.bool false))],heap:=(abO c k x p o)}) else aj.ok (Ex.norm,{tmps:=slots 15 [(5,PV.own 7),(6,PV.t (i64 5)),(7,PV.t (i64 4))],heap:=(abO c k x p o)})):=by kernel_rfl
theorem Ny (N:Nat) (c:Cf) (k:Int) (x:Px) (p:Pa) (b:Bool) (o:Int) (H:List ah) {β:Type} (K:PV→List ah→aj β):rF env (bI env N [gJ c k x p true,jc c k x p true,kD c k x p true,nU c k x p b o]) N 111 8 2 K (.ret) (⟨slots 15 [(2,.t (.bool false))],H⟩)=K (PV.t (T.bool false)) H:=by kernel_rfl
theorem aa2 (N:Nat) (c:Cf) (k:Int) (x:Px) (p:Pa) (b:Bool) (o:Int) (r:T) {β:Type} (K:PV→List ah→aj β):fQ env (bI env N [gJ c k x p true,jc c k x p true,kD c k x p true,nU c k x p true o,wE c k x p b o r]) N 111 [.own 7] [.box 56 6 (.t c.t),.box 3 1 (.t (i64 k)),.box 25 2 (.t x.t),.box 42 4 (.t p.t),.box 44 6 (.agg [.t (i64 0),.t (i64 0),.nil 3 1,.t (i64 0),.t (i64 0),.t (i64 0)]),.box 123 6 (.t (T.agg [i64 0,i64 0,i64 0,i64 0,i64 0,i64 0])),.box 3 1 (.t (i64 0)),.vec 26 1 5 Ic] K=uD env (bI env N [gJ c k x p true,jc c k x p true,kD c k x p true,nU c k x p true o,wE c k x p b o r]) N 111 8 2 K {tmps:=slots 15 [(5,PV.own 7),(6,PV.t (i64 5)),(7,PV.t (i64 0))],heap:=(jr c k x p)}:=by kernel_rfl
theorem Io (N:Nat) (c:Cf) (k:Int) (x:Px) (p:Pa) (b:Bool) (o:Int) (r:T):bU env (bI env N [gJ c k x p true,jc c k x p true,kD c k x p true,nU c k x p true o,wE c k x p b o r]) N 111 8 2 (rZ c k x p (T.agg [i64 0,i64 0,i64 0,i64 0,i64 0,i64 0]) 0)=iQ ([PV.ptr 0 0,PV.ptr 1 0,PV.ptr 2 0,PV.ptr 3 0]= [PV.ptr 0 0,PV.ptr 1 0,PV.ptr 2 0,PV.ptr 3 0]∧(jr c k x p)=(jr c k x p)) (aj.ok (Ex.norm,{tmps:=slots 15 [(5,PV.own 7),(6,PV.t (i64 5)),(7,PV.t (i64 1))],heap:=(jr c k x p)})):=by kernel_rfl
theorem Ip (N:Nat) (c:Cf) (k:Int) (x:Px) (p:Pa) (b:Bool) (o:Int) (r:T):bU env (bI env N [gJ c k x p true,jc c k x p true,kD c k x p true,nU c k x p true o,wE c k x p b o r]) N 111 8 2 (ND c k x p (T.agg [i64 0,i64 0,i64 0,i64 0,i64 0,i64 0]) 0)=iQ ([PV.ptr 3 0,PV.ptr 0 0,PV.ptr 1 0]= [PV.ptr 3 0,PV.ptr 0 0,PV.ptr 1 0]∧(jr c k x p)=(jr c k x p)) (aj.ok (Ex.norm,{tmps:=slots 15 [(5,PV.own 7),(6,PV.t (i64 5)),(7,PV.t (i64 2))],heap:=(jr c k x p)})):=by kernel_rfl
theorem Iq (N:Nat) (c:Cf) (k:Int) (x:Px) (p:Pa) (b:Bool) (o:Int) (r:T):bU env (bI env N [gJ c k x p true,jc c k x p true,kD c k x p true,nU c k x p true o,wE c k x p b o r]) N 111 8 2 (Uk c k x p (T.agg [i64 0,i64 0,i64 0,i64 0,i64 0,i64 0]) 0)=iQ ([PV.ptr 3 0,PV.ptr 0 0]= [PV.ptr 3 0,PV.ptr 0 0]∧(jr c k x p)=(jr c k x p)) (aj.ok (Ex.norm,{tmps:=slots 15 [(5,PV.own 7),(6,PV.t (i64 5)),(7,PV.t (i64 3))],heap:=(jr c k x p)})):=by kernel_rfl
theorem Ir (N:Nat) (c:Cf) (k:Int) (x:Px) (p:Pa) (b:Bool) (o:Int) (r:T):bU env (bI env N [gJ c k x p true,jc c k x p true,kD c k x p true,nU c k x p true o,wE c k x p b o r]) N 111 8 2 (acE c k x p (T.agg [i64 0,i64 0,i64 0,i64 0,i64 0,i64 0]) 0)=iQ ([PV.ptr 0 0,PV.ptr 1 0,PV.ptr 3 0,PV.ptr 6 0]= [PV.ptr 0 0,PV.ptr 1 0,PV.ptr 3 0,PV.ptr 6 0]∧(jr c k x p)=(jr c k x p)) (aj.ok (Ex.norm,{tmps:=slots 15 [(5,PV.own 7),(6,PV.t (i64 5)),(7,PV.t (i64 4))],heap:=(abO c k x p o)})):=by kernel_rfl
theorem Iu (N:Nat) (c:Cf) (k:Int) (x:Px) (p:Pa) (b:Bool) (o:Int) (r:T):bU env (bI env N [gJ c k x p true,jc c k x p true,kD c k x p true,nU c k x p true o,wE c k x p b o r]) N 111 8 2 (akB c k x p (T.agg [i64 0,i64 0,i64 0,i64 0,i64 0,i64 0]) o)=iQ ([PV.ptr 0 0,PV.ptr 1 0,PV.ptr 2 0,PV.ptr 3 0,PV.ptr 5 0]= [PV.ptr 0 0,PV.ptr 1 0,PV.ptr 2 0,PV.ptr 3 0,PV.ptr 5 0]∧(abO c k x p o)=(abO c k x p o)) (bif !b then aj.ok (Ex.ret,{tmps:=slots 15 [(2,PV.t (T.bool false))],heap:=(akq c k x p o r)}) else aj.ok (Ex.norm,{tmps:=slots 15 [(5,PV.own 7),(6,PV.t (i64 5)),(7,PV.t (i64 5))],heap:=(akq c k x p o r)})):=by kernel_rfl
theorem WG (N:Nat) (c:Cf) (k:Int) (x:Px) (p:Pa) (b:Bool) (o:Int) (r:T):bU env (bI env N [gJ c k x p true,jc c k x p true,kD c k x p true,nU c k x p true o,wE c k x p b o r]) N 111 8 2 (anH c k x p r o)=aj.ok (Ex.exit 0,{tmps:=slots 15 [],heap:=(akq c k x p o r)}):=by kernel_rfl
theorem Nz (N:Nat) (c:Cf) (k:Int) (x:Px) (p:Pa) (b:Bool) (o:Int) (r:T) (H:List ah) {β:Type} (K:PV→List ah→aj β):rF env (bI env N [gJ c k x p true,jc c k x p true,kD c k x p true,nU c k x p true o,wE c k x p b o r]) N 111 8 2 K (.ret) (⟨slots 15 [(2,.t (.bool false))],H⟩)=K (PV.t (T.bool false)) H:=by kernel_rfl
theorem Ns (N:Nat) (c:Cf) (k:Int) (x:Px) (p:Pa) (b:Bool) (o:Int) (r:T) (H:List ah) {β:Type} (K:PV→List ah→aj β):rF env (bI env N [gJ c k x p true,jc c k x p true,kD c k x p true,nU c k x p true o,wE c k x p b o r]) N 111 8 2 K (.exit 0) (⟨slots 15 [],H⟩)=K (PV.t (T.bool true)) H:=by kernel_rfl
theorem aj2 (N:Nat) (c:Cf) (k:Int) (x:Px) (p:Pa) (b:Bool) (o:Int) (r:T):fQ env (bI env N [zF c k x p b o r]) N 136 [.t (c.t),.t (i64 k),.t (x.t),.t (p.t)] [] (aY env 136)=dB (fun p=>((match p with|PV.t x=>x.cells.length==1&& !x.aV|PV.agg cs=>cs.length==1|PV.au xs=>false|PV.junk=>false|x=>true)&& !match p with|PV.agg cs=>true|x=>false)&& !match p with|PV.t x=>x.isAgg|x=>false) [PV.fn 170 [] [PV.ptr 0 0,PV.ptr 1 0,PV.ptr 2 0,PV.ptr 3 0],PV.fn 171 [] [PV.ptr 3 0,PV.ptr 0 0,PV.ptr 1 0],PV.fn 172 [] [PV.ptr 3 0,PV.ptr 0 0],PV.fn 174 [] [PV.ptr 0 0,PV.ptr 1 0,PV.ptr 3 0,PV.ptr 6 0],PV.fn 176 [] [PV.ptr 0 0,PV.ptr 1 0,PV.ptr 2 0,PV.ptr 3 0,PV.ptr 5 0]] (iQ ([PV.own 7]= [PV.own 7]∧ [ah.box 56 6 (PV.t c.t),ah.box 3 1 (PV.t (i64 k)),ah.box 25 2 (PV.t x.t),ah.box 42 4 (PV.t p.t),ah.box 44 6 (PV.agg [PV.t (i64 0),PV.t (i64 0),PV.nil 3 1,PV.t (i64 0),PV.t (i64 0),PV.t (i64 0)]),ah.box 123 6 (PV.t (T.agg [i64 0,i64 0,i64 0,i64 0,i64 0,i64 0])),ah.box 3 1 (PV.t (i64 0)),ah.vec 26 1 5 [PV.fn 170 [] [PV.ptr 0 0,PV.ptr 1 0,PV.ptr 2 0,PV.ptr 3 0],PV.fn 171 [] [PV.ptr 3 0,PV.ptr 0 0,PV.ptr 1 0],PV.fn 172 [] [PV.ptr 3 0,PV.ptr 0 0],PV.fn 174 [] [PV.ptr 0 0,PV.ptr 1 0,PV.ptr 3 0,PV.ptr 6 0],PV.fn 176 [] [PV.ptr 0 0,PV.ptr 1 0,PV.ptr 2 0,PV.ptr 3 0,PV.ptr 5 0]]]= [ah.box 56 6 (PV.t c.t),ah.box 3 1 (PV.t (i64 k)),ah.box 25 2 (PV.t x.t),ah.box 42 4 (PV.t p.t),ah.box 44 6 (PV.agg [PV.t (i64 0),PV.t (i64 0),PV.nil 3 1,PV.t (i64 0),PV.t (i64 0),PV.t (i64 0)]),ah.box 123 6 (PV.t (T.agg [i64 0,i64 0,i64 0,i64 0,i64 0,i64 0])),ah.box 3 1 (PV.t (i64 0)),ah.vec 26 1 5 [PV.fn 170 [] [PV.ptr 0 0,PV.ptr 1 0,PV.ptr 2 0,PV.ptr 3 0],PV.fn 171 [] [PV.ptr 3 0,PV.ptr 0 0,PV.ptr 1 0],PV.fn 172 [] [PV.ptr 3 0,PV.ptr 0 0],PV.fn 174 [] [PV.ptr 0 0,PV.ptr 1 0,PV.ptr 3 0,PV.ptr 6 0],PV.fn 176 [] [PV.ptr 0 0,PV.ptr 1 0,PV.ptr 2 0,PV.ptr 3 0,PV.ptr 5 0]]]) (bif !b then aj.ok (T.au [T.agg [i64 0,i64 0,T.sl 1 [],i64 0,i64 0,i64 0],T.bool false]) else chk ((r.ay 5 1 false).cells.length==1&& !(r.ay 5 1 false).aV) (aj.ok (T.au [T.agg [(r.ay 5 1 false).cell 0,i64 p.o,T.sl 1 (ints p.s),i64 p.h,i64 o,i64 k],T.bool true])))):=by kernel_rfl
end
section
open Go.RowKit Go.Proofs
variable [Lv]
theorem ahZ {M:Nat} {a b c:Int} (hM:1≤M) (ha:aT a=true) (hb:aT b=true) (hc:aT c=true):ak env (M+1) 175 [i64 a,i64 b,i64 c]= .ok (.au [i64 ((ou a b c).getD 0),.bool (ou a b c).isSome]):=by
 obtain⟨m,rfl⟩:=dL hM
 have ho:=aaz (M:=m) hc hb
 rw[arA,aZ (BP (bg ha) (bg hb) (bg hc))]
 unfold ou
 by_cases h3:a=3
 · rw[beq_iff_eq.2 h3,if_pos h3]; simp only[cond_true]; rw[aF ho]; rfl
 rw[beq_eq_false_iff_ne.2 h3,if_neg h3]; simp only[cond_false]
 by_cases h2:a=2
 · have h1:a≠1:=by omega
   rw[beq_iff_eq.2 h2,if_pos h2,beq_eq_false_iff_ne.2 h1]; simp only[cond_true,cond_false]
   rw[nI ho]
   by_cases he:Qe c b=b
   · rw[beq_iff_eq.2 he,if_pos he]; simp only[cond_true]; rw[aF ho]; rfl
   · rw[beq_eq_false_iff_ne.2 he,if_neg he]; rfl
 rw[beq_eq_false_iff_ne.2 h2,if_neg h2]; simp only[cond_false]
 by_cases h1:a=1
 · rw[beq_iff_eq.2 h1,if_pos h1]; simp only[cond_true]
   by_cases he:c=0
   · rw[beq_iff_eq.2 he,if_pos he]; rfl
   · rw[beq_eq_false_iff_ne.2 he,if_neg he]; rfl
 · rw[beq_eq_false_iff_ne.2 h1,if_neg h1]; rfl
def hasB (c:Cf) (k:Int):Bool:=decide (k≥0)&&decide (k < (c.s.length:Int))
def eX (c:Cf) (k:Int):Int:=if 0≤k then(match c.s[k.toNat]? with|some s=>s.r|none=>0) else 0
theorem QS {M:Nat} {c:Cf} {k:Int} (h:c.ok) (hk:aT k=true):ak env (M+1) 113 [c.t,i64 k]= .ok (.bool (hasB c k)):=by
 rw[aqM,aZ (dN h.wf (bg hk)),jC,List.length_map]; rfl
theorem wO {c:Cf} {k:Int} (h:hasB c k=true):∃ (i:Nat) (s:Sd),k=i∧i < c.s.length∧c.s[i]? =some s:=by
 unfold hasB at h
 simp only[Bool.and_eq_true,decide_eq_true_eq] at h
 exact⟨k.toNat,c.s[k.toNat]'(by omega),by omega,by omega,List.getElem?_eq_getElem _⟩
theorem ahA {M:Nat} {c:Cf} {k:Int} (hM:1≤M) (h:c.ok) (hk:aT k=true):ak env (M+1) 118 [c.t,i64 k]= .ok (i64 (eX c k)):=by
 obtain⟨m,rfl⟩:=dL hM
 rw[aqP,aZ (dN h.wf (bg hk)),bD (QS h hk)]
 cases hh:hasB c k with
 |false=>
  have:eX c k=0:=by
   unfold eX
   unfold hasB at hh
   split
   · rw[List.getElem?_eq_none (by simp at hh; omega)]
   · rfl
  rw[this]; rfl
 |true=>
  obtain⟨i,s,rfl,hi,hx⟩:=wO hh
  simp only[Bool.not_true,cond_false]
  rw[aA (aC hx)]
  unfold eX
  rw[if_pos (by omega),Int.toNat_natCast,hx]
  rfl
end
section
open Go.RowKit Go.Proofs
variable [Lv]
def Uf (c:Cf) (k:Int) (x:Px) (p:Pa):Bool:=dF c&&(hasB c k&&(dA x&&gU p))
theorem aqu {M:Nat} {c:Cf} {k:Int} {x:Px} {p:Pa} (hM:big+15≤M) (h:c.ok) (hk:aT k=true) (hx:x.ok) (hp:p.ok):iY env (M+1) (gJ c k x p (Uf c k x p)):=fun β K=>by
 obtain⟨m,rfl⟩:=dL (show 1≤M by omega)
 refine(aqb (m+1) c k x p _ 0 K).trans ?_
 rw[bD (Cb (by omega) h)]
 unfold gJ Uf
 cases dF c with
 |false=>rfl
 |true=>
 rw[cond_true,bD (QS h hk)]
 cases hasB c k with
 |false=>rfl
 |true=>
 rw[cond_true,bD (yD hx (by omega))]
 cases dA x with
 |false=>rfl
 |true=>
 rw[cond_true,aF (QW (by omega) hp)]
 rfl
theorem aqw {M:Nat} {c:Cf} {k:Int} {x:Px} {p:Pa} (hM:big+15≤M) (h:c.ok) (hp:p.ok):iY env (M+1) (kD c k x p (!(p.s.contains c.a))):=fun β K=>by
 obtain⟨m,rfl⟩:=dL (show 1≤M by omega)
 refine(aqd (m+1) c k x p _ 0 K).trans ?_
 rw[bD (aaA (by omega) (rQ hp) h.a)]
 rfl
theorem aqv {M:Nat} {c:Cf} {k:Nat} {x:Px} {p:Pa} {s:Sd} (hs:c.s[k]? =some s):iY env (M+1) (jc c k x p (decide (0 < p.s.length)&&(decide (p.s.length≤32)&&decide (p.s[0]? =some s.a)))):=fun β K=>by
 refine(aqc M c k x p _ 0 K).trans ?_
 have hl:((ints p.s).length:Int)=(p.s.length:Int):=by rw[aX,List.length_map]
 rw[hl]
 unfold jc
 by_cases h0:p.s.length > 0
 case neg=>rw[decide_eq_false (show ¬ (p.s.length:Int) > 0 by omega),decide_eq_false (show ¬ 0 < p.s.length by omega)]; rfl
 rw[decide_eq_true (show(p.s.length:Int) > 0 by omega),decide_eq_true (show 0 < p.s.length by omega)]
 by_cases h1:p.s.length≤32
 case neg=>rw[decide_eq_false (show ¬ (p.s.length:Int)≤32 by omega),decide_eq_false h1]; rfl
 rw[decide_eq_true (show(p.s.length:Int)≤32 by omega),decide_eq_true h1]
 have hg:p.s[0]? =some p.s[0]:=List.getElem?_eq_getElem h0
 have ha:=aA (K:=fun e=>bV (List.map Sd.t c.s) k fun e_1=>iT IntKind.i64 e fun a=>iT IntKind.i64 (e_1.ay 0 1 false) fun b=>K (PV.t (T.bool (a==b))) (Ib c k x p (T.agg [i64 0,i64 0,i64 0,i64 0,i64 0,i64 0]) 0)) (jm hg)
 simp only[cond_true]
 refine ha.trans ?_
 rw[aA (aC hs),hg]
 have e:s.t.ay 0 1 false=i64 s.a:=rfl
 simp only[e,bW]
 have:(p.s[0]==s.a)=decide (some p.s[0]=some s.a):=by rw[Bool.eq_iff_iff]; simp
 rw[this]
 rfl
theorem aqx {M:Nat} {c:Cf} {k:Nat} {x:Px} {p:Pa} {s:Sd} (hM:2≤M) (hs:c.s[k]? =some s) (h:c.ok) (hp:p.ok):iY env (M+1) (nU c k x p (ou s.r s.a p.c).isSome ((ou s.r s.a p.c).getD 0)):=fun β K=>by
 obtain⟨m,rfl⟩:=dL (show 1≤M by omega)
 have ho:=h.s.2 _ (List.mem_of_getElem? hs)
 refine(aqe (m+1) c k x p _ 0 K).trans ?_
 rw[aA (aC hs),aA (aC hs)]
 refine(aF (ahZ (M:=m) (by omega) ho.r ho.a hp.c)).trans ?_
 rfl
def BO (x:Px) (p:Pa) (r:Int):Vw:=⟨x,p.s,r⟩
theorem aqy {M:Nat} {c:Cf} {k:Nat} {x:Px} {p:Pa} {s:Sd} {o:Int} (hM:big+10≤M) (hs:c.s[k]? =some s) (h:c.ok) (hx:x.ok) (hp:p.ok):
 iY env (M+1) (wE c k x p (match kM s.i (BO x p s.r) with|some r=>r.a==2|none=>false) o (match kM s.i (BO x p s.r) with|some r=>r.t|none=>T.agg [i64 0,i64 0,i64 0,i64 0,i64 0,i64 0])):=fun β K=>by
 obtain⟨m,rfl⟩:=dL (show 1≤M by omega)
 have ho:=h.s.2 _ (List.mem_of_getElem? hs)
 refine(aqf (m+1) c k x p _ o K).trans ?_
 rw[aA (aC hs),aA (aC hs)]
 have hv:(BO x p s.r).ok:=⟨hx,rQ hp,ho.r⟩
 have hc:=aav (M:=m) (by omega) ho.i hv
 refine(aF hc).trans ?_
 cases kM s.i (BO x p s.r)<;>rfl
end
section
open Go.RowKit Go.Proofs
variable [Lv]
theorem all1 {M:Nat} {c:Cf} {k:Int} {x:Px} {p:Pa} (hM:6≤M) (h:oZ env M [gJ c k x p false]):iY env (M+1) (zF c k x p false 0 (T.agg [i64 0,i64 0,i64 0,i64 0,i64 0,i64 0])):=by
 refine jZ h ?_
 refine(aoE M c k x p false _).trans ?_
 have it:∀ n,bH (bU env (bI env M [gJ c k x p false]) M 111 8 2) (n+1) (rZ c k x p (T.agg [i64 0,i64 0,i64 0,i64 0,i64 0,i64 0]) 0)= .ok (.ret,⟨slots 15 [(2,.t (.bool false))],Ib c k x p (T.agg [i64 0,i64 0,i64 0,i64 0,i64 0,i64 0]) 0⟩):=fun n=>by
  exact eF (n:=n) ((afU M c k x p false).trans bG)
 obtain⟨n,hn⟩:∃ n,M=n+1:=⟨M - 1,by omega⟩
 have it':bH (bU env (bI env M [gJ c k x p false]) M 111 8 2) M (rZ c k x p (T.agg [i64 0,i64 0,i64 0,i64 0,i64 0,i64 0]) 0)=_:=(congrArg (fun z=>bH (bU env (bI env M [gJ c k x p false]) M 111 8 2) z (rZ c k x p (T.agg [i64 0,i64 0,i64 0,i64 0,i64 0,i64 0]) 0)) hn).trans (it n)
 exact(jA it').trans (SA M c k x p false _ _)
theorem all2 {M:Nat} {c:Cf} {k:Int} {x:Px} {p:Pa} (hM:6≤M) (h:oZ env M [gJ c k x p true,jc c k x p false]):iY env (M+1) (zF c k x p false 0 (T.agg [i64 0,i64 0,i64 0,i64 0,i64 0,i64 0])):=by
 refine jZ h ?_
 refine(ai0 M c k x p false _).trans ?_
 have it:∀ n,bH (bU env (bI env M [gJ c k x p true,jc c k x p false]) M 111 8 2) (n+2) (rZ c k x p (T.agg [i64 0,i64 0,i64 0,i64 0,i64 0,i64 0]) 0)= .ok (.ret,⟨slots 15 [(2,.t (.bool false))],Ib c k x p (T.agg [i64 0,i64 0,i64 0,i64 0,i64 0,i64 0]) 0⟩):=fun n=>by
  refine(aW (n:=n+1) (s':=ND c k x p (T.agg [i64 0,i64 0,i64 0,i64 0,i64 0,i64 0]) 0) ((Zm M c k x p false).trans bG)).trans ?_
  exact eF (n:=n) ((Zn M c k x p false).trans bG)
 obtain⟨n,hn⟩:∃ n,M=n+2:=⟨M - 2,by omega⟩
 have it':bH (bU env (bI env M [gJ c k x p true,jc c k x p false]) M 111 8 2) M (rZ c k x p (T.agg [i64 0,i64 0,i64 0,i64 0,i64 0,i64 0]) 0)=_:=(congrArg (fun z=>bH (bU env (bI env M [gJ c k x p true,jc c k x p false]) M 111 8 2) z (rZ c k x p (T.agg [i64 0,i64 0,i64 0,i64 0,i64 0,i64 0]) 0)) hn).trans (it n)
 exact(jA it').trans (Nu M c k x p false _ _)
theorem apE {M:Nat} {c:Cf} {k:Int} {x:Px} {p:Pa} (hM:6≤M) (h:oZ env M [gJ c k x p true,jc c k x p true,kD c k x p false]):iY env (M+1) (zF c k x p false 0 (T.agg [i64 0,i64 0,i64 0,i64 0,i64 0,i64 0])):=by
 refine jZ h ?_
 refine(ai1 M c k x p false _).trans ?_
 have it:∀ n,bH (bU env (bI env M [gJ c k x p true,jc c k x p true,kD c k x p false]) M 111 8 2) (n+3) (rZ c k x p (T.agg [i64 0,i64 0,i64 0,i64 0,i64 0,i64 0]) 0)= .ok (.ret,⟨slots 15 [(2,.t (.bool false))],Ib c k x p (T.agg [i64 0,i64 0,i64 0,i64 0,i64 0,i64 0]) 0⟩):=fun n=>by
  refine(aW (n:=n+2) (s':=ND c k x p (T.agg [i64 0,i64 0,i64 0,i64 0,i64 0,i64 0]) 0) ((Zo M c k x p false).trans bG)).trans ?_
  refine(aW (n:=n+1) (s':=Uk c k x p (T.agg [i64 0,i64 0,i64 0,i64 0,i64 0,i64 0]) 0) ((Zp M c k x p false).trans bG)).trans ?_
  exact eF (n:=n) ((Zq M c k x p false).trans bG)
 obtain⟨n,hn⟩:∃ n,M=n+3:=⟨M - 3,by omega⟩
 have it':bH (bU env (bI env M [gJ c k x p true,jc c k x p true,kD c k x p false]) M 111 8 2) M (rZ c k x p (T.agg [i64 0,i64 0,i64 0,i64 0,i64 0,i64 0]) 0)=_:=(congrArg (fun z=>bH (bU env (bI env M [gJ c k x p true,jc c k x p true,kD c k x p false]) M 111 8 2) z (rZ c k x p (T.agg [i64 0,i64 0,i64 0,i64 0,i64 0,i64 0]) 0)) hn).trans (it n)
 exact(jA it').trans (Nv M c k x p false _ _)
theorem apF {M:Nat} {c:Cf} {k:Int} {x:Px} {p:Pa} {o:Int} (hM:6≤M) (h:oZ env M [gJ c k x p true,jc c k x p true,kD c k x p true,nU c k x p false o]):iY env (M+1) (zF c k x p false o (T.agg [i64 0,i64 0,i64 0,i64 0,i64 0,i64 0])):=by
 refine jZ h ?_
 refine(ai2 M c k x p false o _).trans ?_
 have it:∀ n,bH (bU env (bI env M [gJ c k x p true,jc c k x p true,kD c k x p true,nU c k x p false o]) M 111 8 2) (n+4) (rZ c k x p (T.agg [i64 0,i64 0,i64 0,i64 0,i64 0,i64 0]) 0)= .ok (.ret,⟨slots 15 [(2,.t (.bool false))],Ib c k x p (T.agg [i64 0,i64 0,i64 0,i64 0,i64 0,i64 0]) o⟩):=fun n=>by
  refine(aW (n:=n+3) (s':=ND c k x p (T.agg [i64 0,i64 0,i64 0,i64 0,i64 0,i64 0]) 0) ((Zr M c k x p false o).trans bG)).trans ?_
  refine(aW (n:=n+2) (s':=Uk c k x p (T.agg [i64 0,i64 0,i64 0,i64 0,i64 0,i64 0]) 0) ((Zt M c k x p false o).trans bG)).trans ?_
  refine(aW (n:=n+1) (s':=acE c k x p (T.agg [i64 0,i64 0,i64 0,i64 0,i64 0,i64 0]) 0) ((Zu M c k x p false o).trans bG)).trans ?_
  exact eF (n:=n) ((WE M c k x p false o).trans bG)
 obtain⟨n,hn⟩:∃ n,M=n+4:=⟨M - 4,by omega⟩
 have it':bH (bU env (bI env M [gJ c k x p true,jc c k x p true,kD c k x p true,nU c k x p false o]) M 111 8 2) M (rZ c k x p (T.agg [i64 0,i64 0,i64 0,i64 0,i64 0,i64 0]) 0)=_:=(congrArg (fun z=>bH (bU env (bI env M [gJ c k x p true,jc c k x p true,kD c k x p true,nU c k x p false o]) M 111 8 2) z (rZ c k x p (T.agg [i64 0,i64 0,i64 0,i64 0,i64 0,i64 0]) 0)) hn).trans (it n)
 exact(jA it').trans (Ny M c k x p false o _ _)
theorem amZ {M:Nat} {c:Cf} {k:Int} {x:Px} {p:Pa} {o:Int} {r:T} (hM:6≤M) (h:oZ env M [gJ c k x p true,jc c k x p true,kD c k x p true,nU c k x p true o,wE c k x p false o r]):iY env (M+1) (zF c k x p false o r):=by
 refine jZ h ?_
 refine(aa2 M c k x p false o r _).trans ?_
 have it:∀ n,bH (bU env (bI env M [gJ c k x p true,jc c k x p true,kD c k x p true,nU c k x p true o,wE c k x p false o r]) M 111 8 2) (n+5) (rZ c k x p (T.agg [i64 0,i64 0,i64 0,i64 0,i64 0,i64 0]) 0)= .ok (.ret,⟨slots 15 [(2,.t (.bool false))],Ib c k x p r o⟩):=fun n=>by
  refine(aW (n:=n+4) (s':=ND c k x p (T.agg [i64 0,i64 0,i64 0,i64 0,i64 0,i64 0]) 0) ((Io M c k x p false o r).trans bG)).trans ?_
  refine(aW (n:=n+3) (s':=Uk c k x p (T.agg [i64 0,i64 0,i64 0,i64 0,i64 0,i64 0]) 0) ((Ip M c k x p false o r).trans bG)).trans ?_
  refine(aW (n:=n+2) (s':=acE c k x p (T.agg [i64 0,i64 0,i64 0,i64 0,i64 0,i64 0]) 0) ((Iq M c k x p false o r).trans bG)).trans ?_
  refine(aW (n:=n+1) (s':=akB c k x p (T.agg [i64 0,i64 0,i64 0,i64 0,i64 0,i64 0]) o) ((Ir M c k x p false o r).trans bG)).trans ?_
  exact eF (n:=n) ((Iu M c k x p false o r).trans bG)
 obtain⟨n,hn⟩:∃ n,M=n+5:=⟨M - 5,by omega⟩
 have it':bH (bU env (bI env M [gJ c k x p true,jc c k x p true,kD c k x p true,nU c k x p true o,wE c k x p false o r]) M 111 8 2) M (rZ c k x p (T.agg [i64 0,i64 0,i64 0,i64 0,i64 0,i64 0]) 0)=_:=(congrArg (fun z=>bH (bU env (bI env M [gJ c k x p true,jc c k x p true,kD c k x p true,nU c k x p true o,wE c k x p false o r]) M 111 8 2) z (rZ c k x p (T.agg [i64 0,i64 0,i64 0,i64 0,i64 0,i64 0]) 0)) hn).trans (it n)
 exact(jA it').trans (Nz M c k x p false o r _ _)
theorem apG {M:Nat} {c:Cf} {k:Int} {x:Px} {p:Pa} {o:Int} {r:T} (hM:6≤M) (h:oZ env M [gJ c k x p true,jc c k x p true,kD c k x p true,nU c k x p true o,wE c k x p true o r]):iY env (M+1) (zF c k x p true o r):=by
 refine jZ h ?_
 refine(aa2 M c k x p true o r _).trans ?_
 have it:∀ n,bH (bU env (bI env M [gJ c k x p true,jc c k x p true,kD c k x p true,nU c k x p true o,wE c k x p true o r]) M 111 8 2) (n+6) (rZ c k x p (T.agg [i64 0,i64 0,i64 0,i64 0,i64 0,i64 0]) 0)= .ok (.exit 0,⟨slots 15 [],Ib c k x p r o⟩):=fun n=>by
  refine(aW (n:=n+5) (s':=ND c k x p (T.agg [i64 0,i64 0,i64 0,i64 0,i64 0,i64 0]) 0) ((Io M c k x p true o r).trans bG)).trans ?_
  refine(aW (n:=n+4) (s':=Uk c k x p (T.agg [i64 0,i64 0,i64 0,i64 0,i64 0,i64 0]) 0) ((Ip M c k x p true o r).trans bG)).trans ?_
  refine(aW (n:=n+3) (s':=acE c k x p (T.agg [i64 0,i64 0,i64 0,i64 0,i64 0,i64 0]) 0) ((Iq M c k x p true o r).trans bG)).trans ?_
  refine(aW (n:=n+2) (s':=akB c k x p (T.agg [i64 0,i64 0,i64 0,i64 0,i64 0,i64 0]) o) ((Ir M c k x p true o r).trans bG)).trans ?_
  refine(aW (n:=n+1) (s':=anH c k x p r o) ((Iu M c k x p true o r).trans bG)).trans ?_
  exact eH (n:=n) (WG M c k x p true o r)
 obtain⟨n,hn⟩:∃ n,M=n+6:=⟨M - 6,by omega⟩
 have it':bH (bU env (bI env M [gJ c k x p true,jc c k x p true,kD c k x p true,nU c k x p true o,wE c k x p true o r]) M 111 8 2) M (rZ c k x p (T.agg [i64 0,i64 0,i64 0,i64 0,i64 0,i64 0]) 0)=_:=(congrArg (fun z=>bH (bU env (bI env M [gJ c k x p true,jc c k x p true,kD c k x p true,nU c k x p true o,wE c k x p true o r]) M 111 8 2) z (rZ c k x p (T.agg [i64 0,i64 0,i64 0,i64 0,i64 0,i64 0]) 0)) hn).trans (it n)
 exact(jA it').trans (Ns M c k x p true o r _ _)
end
section
open Go.RowKit Go.Proofs
variable [Lv]
def zR:T:=T.agg [i64 0,i64 0,T.sl 1 [],i64 0,i64 0,i64 0]
def wQ (c:Cf) (k:Int) (x:Px) (p:Pa):Option Rt:=
 if Uf c k x p then match c.s[k.toNat]? with
  |some s=>if (p.s[0]? =some s.a∧p.s.length≤32)∧p.s.contains c.a=false then match ou s.r s.a p.c with
   |some m=>match kM s.i (BO x p s.r) with
    |some r=>if r.a=2 then some ⟨r.n,⟨p.o,p.s,p.h,m⟩,k⟩ else none
    |none=>none
   |none=>none
   else none
  |none=>none
 else none
def BJ:Option Rt→T
 |some r=> .au [r.t,.bool true]
 |none=> .au [zR,.bool false]
theorem Yq {M:Nat} {c:Cf} {k:Int} {x:Px} {p:Pa} {o:Int} {r:T} (hw:T.wfs [c.t,i64 k,x.t,p.t]=true) (h:iY env M (zF c k x p false o r)):ak env (M+1) 136 [c.t,i64 k,x.t,p.t]= .ok (.au [zR,.bool false]):=
 lT (ps:=[zF c k x p false o r]) ⟨h,trivial⟩ hw rfl ((aj2 M c k x p false o r).trans (mD ⟨rfl,rfl⟩))
theorem ap3 {M:Nat} {c:Cf} {k:Int} {x:Px} {p:Pa} {o:Int} {r:Ru} (hw:T.wfs [c.t,i64 k,x.t,p.t]=true) (h:iY env M (zF c k x p true o r.t)):ak env (M+1) 136 [c.t,i64 k,x.t,p.t]= .ok (.au [(Rt.mk r.n ⟨p.o,p.s,p.h,o⟩ k).t,.bool true]):=
 lT (ps:=[zF c k x p true o r.t]) ⟨h,trivial⟩ hw rfl ((aj2 M c k x p true o r.t).trans (mD ⟨rfl,rfl⟩))
theorem ahI {M:Nat} {c:Cf} {k:Int} {x:Px} {p:Pa} (hM:big+18≤M) (h:c.ok) (hk:aT k=true) (hx:x.ok) (hp:p.ok):ak env (M+1) 136 [c.t,i64 k,x.t,p.t]= .ok (BJ (wQ c k x p)):=by
 obtain⟨m,rfl⟩:=dL (show 1≤M by omega)
 obtain⟨m,rfl⟩:=dL (show 1≤m by omega)
 have hw:T.wfs [c.t,i64 k,x.t,p.t]=true:=by
  have h1:=h.wf; have h2:=bg hk; have h3:=hx.wf; have h4:=hp.wf
  simp only[T.wfs,h1,h2,h3,h4,Bool.and_self]
 have g1:=aqu (M:=m) (c:=c) (k:=k) (x:=x) (p:=p) (by omega) h hk hx hp
 unfold wQ
 cases e1:Uf c k x p with
 |false=>
  rw[e1] at g1
  exact Yq hw (all1 (M:=m+1) (by omega) ⟨g1,trivial⟩)
 |true=>
 rw[e1] at g1
 simp only[if_true]
 have hh:hasB c k=true:=by unfold Uf at e1; simp only[Bool.and_eq_true] at e1; exact e1.2.1
 obtain⟨i,s,rfl,hi,hs⟩:=wO hh
 rw[Int.toNat_natCast,hs]
 have g2:=aqv (M:=m) (x:=x) (p:=p) hs
 by_cases e2:p.s[0]? =some s.a∧p.s.length≤32
 case neg=>
  have:(decide (0 < p.s.length)&&(decide (p.s.length≤32)&&decide (p.s[0]? =some s.a)))=false:=by
   rw[Bool.eq_false_iff]; intro ht
   simp only[Bool.and_eq_true,decide_eq_true_eq] at ht
   exact e2 ⟨ht.2.2,ht.2.1⟩
  rw[this] at g2
  simp only[e2,false_and,if_false]
  exact Yq hw (all2 (M:=m+1) (by omega) ⟨g1,g2,trivial⟩)
 have:(decide (0 < p.s.length)&&(decide (p.s.length≤32)&&decide (p.s[0]? =some s.a)))=true:=by
  simp only[Bool.and_eq_true,decide_eq_true_eq]
  exact⟨(List.getElem?_eq_some_iff.1 e2.1).1,e2.2,e2.1⟩
 rw[this] at g2
 have g3:=aqw (M:=m) (c:=c) (k:=(i:Int)) (x:=x) (p:=p) (by omega) h hp
 simp only[e2,true_and,and_self]
 cases e3:p.s.contains c.a with
 |true=>
  rw[e3] at g3
  exact Yq hw (apE (M:=m+1) (by omega) ⟨g1,g2,g3,trivial⟩)
 |false=>
 rw[e3] at g3
 simp only[if_true]
 have g4:=aqx (M:=m) (c:=c) (x:=x) (p:=p) (by omega) hs h hp
 cases e4:ou s.r s.a p.c with
 |none=>
  rw[e4] at g4
  exact Yq hw (apF (M:=m+1) (by omega) ⟨g1,g2,g3,g4,trivial⟩)
 |some o=>
 rw[e4] at g4
 have g5:=aqy (M:=m) (c:=c) (x:=x) (p:=p) (o:=o) (by omega) hs h hx hp
 cases e5:kM s.i (BO x p s.r) with
 |none=>
  rw[e5] at g5
  exact Yq hw (amZ (M:=m+1) (by omega) ⟨g1,g2,g3,g4,g5,trivial⟩)
 |some r=>
 rw[e5] at g5
 by_cases e6:r.a=2
 · simp only[e6,beq_self_eq_true] at g5
   simp only[e6,if_true]
   exact ap3 hw (apG (M:=m+1) (by omega) ⟨g1,g2,g3,g4,g5,trivial⟩)
 · simp only[beq_eq_false_iff_ne.2 e6] at g5
   simp only[e6,if_false]
   exact Yq hw (amZ (M:=m+1) (by omega) ⟨g1,g2,g3,g4,g5,trivial⟩)
end
section
open Go.RowKit Go.Proofs
def uI (h:Int):Rt:=⟨400,⟨0,[],h,0⟩,-1⟩
def cZ (a b:Int):Int:=if a < b then -1 else if b < a then 1 else 0
def cmpL:List Int→List Int→Int
 | [],[]=>0
 | [],_::_=> -1
 |_::_,[]=>1
 |a::l,b::m=>if a=b then cmpL l m else cZ a b
def wM:List Int→Int
 | []=>0
 |x::l=>if x=0 then wM l else x
def iM (a b:Rt):Int:=wM [cZ b.n a.n,cZ a.p.s.length b.p.s.length,cZ a.p.o b.p.o,cmpL a.p.s b.p.s,cZ a.p.h b.p.h,cZ a.p.c b.p.c,cZ a.f b.f]
def nK (r:Rt):Bool:=gU r.p&&(decide (r.p.s.length≤32)&&(if r.f= -1 then iM r (uI r.p.h)==0 else decide (r.f≥0)&&(decide (r.f≤7)&&(decide (r.n > 0)&&decide (r.n < 400)))))
def jS (c:Cf) (u:Ru) (r:Rt):List Int:=List.replicate (1+u.n).toNat c.a++r.p.s
def mM (c:Cf) (k:Int) (x:Px) (r:Rt):Option Pa:=
 if (dF c&&(hasB c k&&(dA x&&nK r)))&&(decide (r.f≠k)&&decide (r.f < (c.s.length:Int))) then match c.s[k.toNat]? with
  |some s=>match kM s.o (BO x r.p (eX c r.f)) with
   |some u=>if u.a=0 then none else match kL s.r c.a r.p.c with
    |some m=>if (jS c u r).length≤32 then some ⟨r.p.o,jS c u r,c.d,m⟩ else none
    |none=>none
   |none=>none
  |none=>none
 else none
theorem kS {a b:Int}:cZ a b=0↔a=b:=by
 unfold cZ
 split
 · omega
 · split<;>omega
theorem OZ:∀ {l m:List Int},cmpL l m=0↔l=m
 | [],[]=>by simp[cmpL]
 | [],_::_=>by simp[cmpL]
 |_::_,[]=>by simp[cmpL]
 |a::l,b::m=>by
  simp only[cmpL]
  split
  · rename_i h; subst h; rw[OZ]; simp
  · rename_i h
    rw[kS]
    constructor
    · intro e; exact absurd e h
    · intro e; injection e with e1 e2
theorem UZ:∀ {l:List Int},wM l=0↔∀ x∈l,x=0
 | []=>by simp[wM]
 |x::l=>by
  simp only[wM]
  split
  · rename_i h; rw[UZ]; simp[h]
  · rename_i h; simp[h]
theorem qj {a b:Rt}:iM a b=0↔a=b:=by
 unfold iM
 rw[UZ]
 simp only[List.mem_cons,List.not_mem_nil,or_false,forall_eq_or_imp,forall_eq,kS,OZ]
 obtain⟨n,⟨o,s,h,c⟩,f⟩:=a
 obtain⟨n',⟨o',s',h',c'⟩,f'⟩:=b
 simp only[Rt.mk.injEq,Pa.mk.injEq]
 constructor
 · rintro⟨h1,h2,h3,h4,h5,h6,h7⟩; exact⟨h1.symm,⟨h3,h4,h5,h6⟩,h7⟩
 · rintro⟨h1,⟨h3,h4,h5,h6⟩,h7⟩; exact⟨h1.symm,by rw[h4],h3,h4,h5,h6,h7⟩
variable [Lv]
theorem mY {c:Cf} {k:Int} {x:Px} {p:Pa} {r:Rt} (h:wQ c k x p=some r):dF c=true∧dA x=true∧gU p=true∧∃ (i:Nat) (s:Sd) (m:Int) (u:Ru),k=i∧i < c.s.length∧c.s[i]? =some s∧p.s[0]? =some s.a∧p.s.length≤32∧
 p.s.contains c.a=false∧ou s.r s.a p.c=some m∧kM s.i (BO x p s.r)=some u∧u.a=2∧r=⟨u.n,⟨p.o,p.s,p.h,m⟩,k⟩:=by
 unfold wQ at h
 split at h
 case isFalse=>cases h
 rename_i h1
 unfold Uf at h1
 simp only[Bool.and_eq_true] at h1
 obtain⟨i,s,rfl,hi,hs⟩:=wO h1.2.1
 rw[Int.toNat_natCast,hs] at h
 simp only[] at h
 split at h
 case isFalse=>cases h
 rename_i h2
 split at h
 case h_2=>cases h
 rename_i m h3
 split at h
 case h_2=>cases h
 rename_i u h4
 split at h
 case isFalse=>cases h
 rename_i h5
 injection h with h
 exact⟨h1.1,h1.2.2.1,h1.2.2.2,i,s,m,u,rfl,hi,hs,h2.1.1,h2.1.2,h2.2,h3,h4,h5,h.symm⟩
theorem BL {c:Cf} {k:Int} {x:Px} {r:Rt} {q:Pa} (h:mM c k x r=some q):dF c=true∧dA x=true∧nK r=true∧r.f≠k∧r.f < c.s.length∧∃ (i:Nat) (s:Sd) (m:Int) (u:Ru),k=i∧i < c.s.length∧c.s[i]? =some s∧
 kM s.o (BO x r.p (eX c r.f))=some u∧u.a≠0∧kL s.r c.a r.p.c=some m∧(jS c u r).length≤32∧q=⟨r.p.o,jS c u r,c.d,m⟩:=by
 unfold mM at h
 split at h
 case isFalse=>cases h
 rename_i h1
 simp only[Bool.and_eq_true,decide_eq_true_eq] at h1
 obtain⟨i,s,rfl,hi,hs⟩:=wO h1.1.2.1
 rw[Int.toNat_natCast,hs] at h
 simp only[] at h
 split at h
 case h_2=>cases h
 rename_i u h3
 split at h
 case isTrue=>cases h
 rename_i h4
 split at h
 case h_2=>cases h
 rename_i m h5
 split at h
 case isFalse=>cases h
 rename_i h6
 injection h with h
 exact⟨h1.1.1,h1.1.2.2.1,h1.1.2.2.2,h1.2.1,h1.2.2,i,s,m,u,rfl,hi,hs,h3,h4,h5,h6,h.symm⟩
theorem tJ {l:List Ru} {v:Vw} {r:Ru} (h:kM l v=some r):r∈l∧sH v r=true:=⟨List.mem_of_find?_eq_some h,by have:=List.find?_some h; exact this⟩
theorem aad {v:Vw} {r:Ru} (h:yN v.c r=true):sH v r=true:=by
 unfold yN at h
 unfold sH
 simp only[Bool.or_eq_true,Bool.and_eq_true,beq_iff_eq] at h
 rcases h with h|⟨h,h2⟩
 · rw[if_pos h]
 · rw[h,if_neg (by decide),if_neg (by decide),if_neg (by decide),if_neg (by decide),if_pos rfl,h2]; simp
theorem Y1 {v:Vw} {r:Ru} (h:sH v r=true):l9 v.c r=false:=by
 unfold l9
 by_cases hm:r.m=4
 · unfold sH at h
   rw[hm,if_neg (by decide),if_neg (by decide),if_neg (by decide),if_neg (by decide),if_pos rfl,beq_iff_eq] at h
   rw[h]; simp
 · rw[beq_eq_false_iff_ne.2 hm]; rfl
theorem L8 {l:List Ru} {v:Vw} {r:Ru} (h:kM l v=some r):r∈cu l v.c:=by
 have hf:=(tJ h).2
 unfold cu
 rw[List.mem_filter]
 refine⟨?_,by rw[Y1 hf]; rfl⟩
 unfold kM at h
 obtain⟨_,i,hi,hr,hj⟩:=List.find?_eq_some_iff_getElem.1 h
 cases hk:l.findIdx? (yN v.c) with
 |none=>rw[←hr]; exact List.getElem_mem _
 |some k=>
  obtain⟨hkl,hkt,_⟩:=List.findIdx?_eq_some_iff_getElem.1 hk
  have hle:i≤k:=by
   rcases Nat.lt_or_ge k i with h1|h1
   · have:=hj k h1
     rw[aad hkt] at this
     simp at this
   · exact h1
  simp only[]
  rw[←hr]
  exact List.mem_iff_getElem.2 ⟨i,by simp; omega,by simp⟩
theorem mX {c:Cf} (h:dF c=true) {i:Nat} {s:Sd} (hs:c.s[i]? =some s):0 < s.a∧s.a≤4294967295∧1≤s.r∧s.r≤3∧(∀ r∈s.i,pK r true=true)∧∀ r∈s.o,pK r false=true:=by
 have:=sG h (List.mem_of_getElem? hs)
 unfold oQ rU wX at this
 simp only[Bool.and_eq_true,decide_eq_true_eq,Bool.not_eq_true',List.any_eq_false,Bool.not_eq_true] at this
 obtain⟨⟨h1,h2⟩,h3,h4,⟨_,h5⟩,_,h6⟩:=this
 refine⟨h1,h2,h3,h4,fun r hr=>?_,fun r hr=>?_⟩
 · have:=h5 r hr; simpa using this
 · have:=h6 r hr; simpa using this
theorem oG {c:Cf} (h:dF c=true):0 < c.a∧c.a≤4294967295∧0 < c.d∧c.d≤4294967295∧c.s.length≤8:=by
 unfold dF rU at h
 simp only[Bool.and_eq_true,decide_eq_true_eq] at h
 exact⟨h.1.1,h.1.2,h.2.1.1,h.2.1.2,h.2.2.2.2.2.2.1⟩
theorem yC {c:Cf} {i:Nat} {s:Sd} (hs:c.s[i]? =some s):eX c (i:Int)=s.r:=by
 unfold eX; rw[if_pos (by omega),Int.toNat_natCast,hs]
theorem ai4 {u:Ru} (h:pK u true=true) (ha:u.a=2):0 < u.n∧u.n < 400:=by
 unfold pK Gm at h
 rw[ha] at h
 simp at h
 omega
theorem Kw {u:Ru} (h:pK u false=true) (ha:u.a≠0):0≤u.n∧u.n≤8:=by
 unfold pK Gm at h
 simp only[Bool.and_eq_true] at h
 have h2:=h.2.2
 rw[if_neg ha] at h2
 split at h2
 · simp at h2; omega
 split at h2
 · simp at h2
 split at h2
 · simp at h2; omega
 · cases h2
theorem uh {p:Pa} (h:gU p=true):(∀ n∈p.s,1≤n∧n≤4294967295)∧p.s.length≤255∧0≤p.o∧p.o≤2∧0 < p.h∧p.h≤4294967295∧0≤p.c∧p.c≤4294967295:=by
 unfold gU at h
 simp only[Bool.and_eq_true,Bool.not_eq_true',List.any_eq_false,decide_eq_true_eq] at h
 refine⟨fun n hn=>?_,h.2.1,h.2.2.1,h.2.2.2.1,h.2.2.2.2.1,h.2.2.2.2.2.1,h.2.2.2.2.2.2.1,h.2.2.2.2.2.2.2⟩
 have:=h.1 n hn
 unfold MW at this
 simp only[Bool.or_eq_true,decide_eq_true_eq] at this
 omega
theorem Ut {p:Pa} (h1:∀ n∈p.s,1≤n∧n≤4294967295) (h2:p.s.length≤255) (h3:0≤p.o) (h4:p.o≤2) (h5:0 < p.h) (h6:p.h≤4294967295) (h7:0≤p.c) (h8:p.c≤4294967295):gU p=true:=by
 unfold gU
 simp only[Bool.and_eq_true,Bool.not_eq_true',List.any_eq_false,decide_eq_true_eq]
 refine⟨fun n hn=>?_,h2,h3,h4,h5,h6,h7,h8⟩
 have:=h1 n hn
 unfold MW
 simp only[Bool.or_eq_true,decide_eq_true_eq]
 omega
theorem Ej {a b:Int} (ha:0≤a) (hb:0 < b):0 < Qe a b:=by unfold Qe; split<;>omega
theorem X4 {a b n:Int} (ha:a≤n) (hb:b≤n):Qe a b≤n:=by unfold Qe; split<;>omega
theorem vC {c:Cf} {k:Int} {x:Px} {p:Pa} {r:Rt} (h:wQ c k x p=some r):dF c=true∧nK r=true∧r.f=k∧(∃ (i:Nat) (s:Sd),k=i∧c.s[i]? =some s∧r.p.s[0]? =some s.a)∧r.p.s=p.s∧p.s.contains c.a=false∧r.p.o=p.o∧r.p.h=p.h:=by
 obtain⟨h1,h2,h3,i,s,m,u,rfl,hi,hs,h4,h5,h6,h7,h8,h9,rfl⟩:=mY h
 obtain⟨s1,s2,s3,s4,s5,s6⟩:=mX h1 hs
 obtain⟨c1,c2,c3,c4,c5⟩:=oG h1
 obtain⟨p1,p2,p3,p4,p5,p6,p7,p8⟩:=uh h3
 obtain⟨u1,u2⟩:=ai4 (s5 u (tJ h8).1) h9
 refine⟨h1,?_,rfl,⟨i,s,rfl,hs,h4⟩,rfl,h6,rfl,rfl⟩
 unfold nK
 simp only[Bool.and_eq_true,decide_eq_true_eq]
 have hm:0≤m∧m≤4294967295:=by
  have:=Ej p7 s1
  have:=X4 p8 s2
  unfold ou at h7
  repeat' split at h7
  all_goals first|(injection h7 with h7; omega)|cases h7
 refine⟨Ut p1 p2 p3 p4 p5 p6 hm.1 hm.2,h5,?_⟩
 rw[if_neg (by omega)]
 simp only[Bool.and_eq_true,decide_eq_true_eq]
 omega
theorem vF {c:Cf} {k:Int} {x:Px} {r:Rt} {q:Pa} (h:mM c k x r=some q):dF c=true∧nK r=true∧gU q=true∧r.f≠k∧q.h=c.d∧q.o=r.p.o∧q.s.length≤32∧∃ n:Nat,1≤n∧n≤9∧q.s=List.replicate n c.a++r.p.s:=by
 obtain⟨h1,h2,h3,h4,h5,i,s,m,u,rfl,hi,hs,h6,h7,h8,h9,rfl⟩:=BL h
 obtain⟨s1,s2,s3,s4,s5,s6⟩:=mX h1 hs
 obtain⟨c1,c2,c3,c4,c5⟩:=oG h1
 obtain⟨u1,u2⟩:=Kw (s6 u (tJ h6).1) h7
 have h3':=h3
 unfold nK at h3'
 simp only[Bool.and_eq_true] at h3'
 obtain⟨p1,p2,p3,p4,p5,p6,p7,p8⟩:=uh h3'.1
 refine⟨h1,h3,?_,h4,rfl,rfl,h9,(1+u.n).toNat,by omega,by omega,rfl⟩
 have hm:0≤m∧m≤4294967295:=by
  have:=Ej p7 c1
  have:=X4 p8 c2
  unfold kL at h8
  repeat' split at h8
  all_goals first|(injection h8 with h8; omega)|cases h8
 refine Ut (fun n hn=>?_) (show(jS c u r).length≤255 by omega) p3 p4 c3 c4 hm.1 hm.2
 simp only[jS,List.mem_append,List.mem_replicate] at hn
 rcases hn with ⟨_,rfl⟩|hn
 · omega
 · exact p1 n hn
def Yt:Ru:=⟨0,⟨0,0⟩,0,0,0⟩
end
section
open Go.RowKit Go.Proofs
theorem aby (a b:Int):cZ b a= - cZ a b:=by
 unfold cZ
 split<;>split<;>omega
theorem JZ {a b:Int}:(cZ a b < 0↔a < b)∧(cZ a b≤0↔a≤b):=by
 unfold cZ
 split
 · omega
 · split<;>omega
theorem OY:∀ (l m:List Int),cmpL m l= - cmpL l m
 | [],[]=>rfl
 | [],_::_=>rfl
 |_::_,[]=>rfl
 |a::l,b::m=>by
  simp only[cmpL]
  by_cases h:a=b
  · rw[if_pos h,if_pos h.symm]; exact OY l m
  · rw[if_neg h,if_neg (Ne.symm h)]; exact aby a b
theorem Lh:∀ {l m k:List Int},cmpL l m≤0→cmpL m k≤0→cmpL l k≤0
 | [],_,[],_,_=>Int.le_refl _
 | [],_,_::_,_,_=>by show(-1:Int)≤0; decide
 |_::_,[],_,h,_=>absurd h (by show ¬ (1:Int)≤0; decide)
 |_::_,_::_,[],_,h=>absurd h (by show ¬ (1:Int)≤0; decide)
 |a::l,b::m,c::k,h1,h2=>by
  simp only[cmpL] at h1 h2 ⊢
  by_cases e1:a=b
  · subst e1
    rw[if_pos rfl] at h1
    by_cases e2:a=c
    · rw[if_pos e2] at h2 ⊢; exact Lh h1 h2
    · rw[if_neg e2] at h2 ⊢; exact h2
  · rw[if_neg e1] at h1
    have h3:=JZ.2.1 h1
    by_cases e2:b=c
    · subst e2
      rw[if_neg e1]; exact h1
    · rw[if_neg e2] at h2
      have h4:=JZ.2.1 h2
      rw[if_neg (by omega)]
      exact JZ.2.2 (by omega)
theorem Hz:∀ {l m:List Int},l.length=m.length→∀ (t u:List Int),cmpL (l++t) (m++u)=if cmpL l m=0 then cmpL t u else cmpL l m
 | [],[],_,t,u=>by simp[cmpL]
 | [],_::_,h,_,_=>by simp at h
 |_::_,[],h,_,_=>by simp at h
 |a::l,b::m,h,t,u=>by
  have e1:cmpL (a::l) (b::m)=if a=b then cmpL l m else cZ a b:=rfl
  have e2:cmpL (a::(l++t)) (b::(m++u))=if a=b then cmpL (l++t) (m++u) else cZ a b:=rfl
  show cmpL (a::(l++t)) (b::(m++u))=_
  by_cases e:a=b
  · rw[if_pos e] at e1 e2
    rw[e1,e2]; exact Hz (by simpa using h) t u
  · rw[if_neg e] at e1 e2
    rw[e1,e2,if_neg (fun h=>e (kS.1 h))]
def akt (r:Rt):List Int:=[-r.n,r.p.s.length,r.p.o]++(r.p.s++ [r.p.h,r.p.c,r.f])
theorem aap (x y:Int) (l m:List Int):cmpL (x::l) (y::m)=if cZ x y=0 then cmpL l m else cZ x y:=by
 simp only[cmpL]
 by_cases e:x=y
 · rw[if_pos e,if_pos (kS.2 e)]
 · rw[if_neg e,if_neg (fun h=>e (kS.1 h))]
theorem ae5 (a b:Int):cZ (-a) (-b)=cZ b a:=by
 unfold cZ
 split<;>split<;>first|rfl|omega|(split<;>first|rfl|omega)
theorem J3 (a b:Rt):iM a b=cmpL (akt a) (akt b):=by
 unfold iM akt
 simp only[wM,List.cons_append,List.nil_append,aap,ae5]
 by_cases h1:cZ b.n a.n=0
 case neg=>rw[if_neg h1,if_neg h1]
 rw[if_pos h1,if_pos h1]
 by_cases h2:cZ (a.p.s.length:Int) (b.p.s.length:Int)=0
 case neg=>rw[if_neg h2,if_neg h2]
 rw[if_pos h2,if_pos h2]
 by_cases h3:cZ a.p.o b.p.o=0
 case neg=>rw[if_neg h3,if_neg h3]
 rw[if_pos h3,if_pos h3,Hz (by have:=kS.1 h2; omega)]
 simp only[aap]
 rfl
theorem Bh (a b:Rt):iM b a= - iM a b:=by rw[J3,J3,OY]
theorem vP {a b c:Rt} (h1:iM a b≤0) (h2:iM b c≤0):iM a c≤0:=by
 rw[J3] at h1 h2 ⊢; exact Lh h1 h2
theorem O0 {a b:Rt} (h1:iM a b≤0) (h2:iM b a≤0):a=b:=qj.1 (by rw[Bh a b] at h2; omega)
def oO:List Rt→Option Rt
 | []=>none
 |r::l=>some (l.foldl (fun b r=>if iM r b < 0 then r else b) r)
theorem Gs:∀ (l:List Rt) (b:Rt),(l.foldl (fun b r=>if iM r b < 0 then r else b) b=b∨l.foldl (fun b r=>if iM r b < 0 then r else b) b∈l)∧iM (l.foldl (fun b r=>if iM r b < 0 then r else b) b) b≤0∧∀ r∈l,iM (l.foldl (fun b r=>if iM r b < 0 then r else b) b) r≤0
 | [],b=>⟨.inl rfl,by show iM b b≤0; rw[qj.2 rfl]; exact Int.le_refl _,by simp⟩
 |x::l,b=>by
  rw[List.foldl_cons]
  by_cases h:iM x b < 0
  · rw[if_pos h]
    obtain⟨h1,h2,h3⟩:=Gs l x
    refine⟨.inr ?_,vP h2 (by omega),fun r hr=>(List.mem_cons.1 hr).elim (fun e=>e ▸ h2) (h3 r)⟩
    rcases h1 with h1|h1
    · rw[h1]; exact List.mem_cons_self
    · exact List.mem_cons_of_mem _ h1
  · rw[if_neg h]
    obtain⟨h1,h2,h3⟩:=Gs l b
    refine⟨h1.imp id (List.mem_cons_of_mem _),h2,fun r hr=>(List.mem_cons.1 hr).elim (fun e=>?_) (h3 r)⟩
    subst e
    have h4:iM b r≤0:=by have:=Bh b r; omega
    exact vP h2 h4
theorem kR {l:List Rt} {r:Rt} (h:oO l=some r):r∈l∧∀ q∈l,iM r q≤0:=by
 cases l with
 |nil=>cases h
 |cons x l=>
  simp only[oO,Option.some.injEq] at h
  obtain⟨h1,h2,h3⟩:=Gs l x
  rw[h] at h1 h2 h3
  exact⟨h1.elim (fun e=>e ▸ List.mem_cons_self) (List.mem_cons_of_mem _),fun q hq=>(List.mem_cons.1 hq).elim (fun e=>e ▸ h2) (h3 q)⟩
theorem VU {l:List Rt} {r:Rt} (hm:r∈l) (hb:∀ q∈l,iM r q≤0):oO l=some r:=by
 cases hl:oO l with
 |none=>cases l with
  |nil=>cases hm
  |cons x l=>cases hl
 |some q=>
  obtain⟨h1,h2⟩:=kR hl
  rw[O0 (h2 r hm) (hb q h1)]
end
end Go.aP
