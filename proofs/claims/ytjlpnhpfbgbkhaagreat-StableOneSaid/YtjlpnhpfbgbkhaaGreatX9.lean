/- The texts of a proof, one behind the other: an interpreter and its soundness, what the functions of the program answer, and plain laws on that. -/
import Derived.Test.YtjlpnhpfbgbkhaaGreatX8
import Derived.Test.YtjlpnhpfbgbkhaaGreatX7
import Derived.Test.YtjlpnhpfbgbkhaaGreatX4
import Derived.Test.YtjlpnhpfbgbkhaaGreatX1
import Derived.Test.YtjlpnhpfbgbkhaaGreatK9
import Derived.Test.YtjlpnhpfbgbkhaaGreatX5
import Derived.Test.YtjlpnhpfbgbkhaaGreatProg
import Derived.Shelf.SlSortCmp.WholeK
import Derived.Test.YtjlpnhpfbgbkhaaGreatK8
import Derived.Lib.QuietBelow
import Derived.Test.YtjlpnhpfbgbkhaaGreatK11
set_option linter.unusedVariables false
set_option linter.unusedSimpArgs false
set_option linter.unnecessarySimpa false
set_option linter.unusedSectionVars false
set_option maxRecDepth 100000
namespace Go.aP
section
open Go.RowKit Go.Proofs
theorem Ag (x y:Px):(x.a==y.a&&(x.n==y.n&&true))=decide (x=y):=by
 rw[Bool.eq_iff_iff,decide_eq_true_eq]
 simp only[Bool.and_true,Bool.and_eq_true,beq_iff_eq]
 exact⟨fun h=>Px.ext' h.1 h.2,fun h=>by rw[h]; exact⟨rfl,rfl⟩⟩
theorem J4 (x y:Px):T.dZ [0,0] [i64 x.a,i64 x.n] [i64 y.a,i64 y.n]=some (decide (x=y)):=by rw[←Ag]; rfl
theorem y8 (x y:Px):T.dZ [0,0] x.t.cells [i64 y.a,i64 y.n]=some (decide (x=y)):=J4 x y
theorem akl (c:Ch):c.t.ay 0 2 true=c.x.t:=rfl
theorem akk (c:Ch):c.t.ay 2 6 true=c.r.t:=rfl
theorem aeu {c:Ch}:(c.t.cells.length==8&& !c.t.aV)=true:=rfl
theorem qU {t:List (List En)} {i:Nat} {l:List En} (h:t[i]? =some l):(gZ t)[i]? =some (.sl 6 (l.map En.t)):=aC h
def FH (t:List (List En)):Prop:=bZ (bZ En.ok) t
theorem FH.wf {t:List (List En)} (h:FH t):(T.sl 1 (gZ t)).wf=true:=dG (p:=bZ En.ok) (fun l hl=>dG (fun _=>En.ok.wf) hl) h
variable [Lv]
theorem ahW {M:Nat} {l:List Px} {x:Px} (hM:big+1≤M) (hl:bZ Px.ok l) (hx:x.ok):ak env (M+1) 167 [.sl 2 (l.map Px.t),x.t]= .ok (i64 (rV (l.findIdx? fun y=>decide (y=x)))):=by
 rw[arv,aZ (dN (dG (fun _ h=>Px.ok.wf h) hl) hx.wf)]
 have hb:=hl.1
 have step:∀ j y,l[j]? =some y→aH env M 167 0 2 (YJ l x (j:Nat))=bif decide (y=x) then .ok (.ret,⟨slots 19 [(4,.t (i64 (j:Nat)))],[]⟩) else .ok (.norm,YJ l x ((j+1:Nat):Int)):=fun j y hy=>by
  have hj:j < l.length:=(List.getElem?_eq_some_iff.1 hy).1
  rw[aee,decide_eq_true (by rw[List.length_map]; omega)]
  simp only[cond_true]
  rw[aA (aC hy),show y.t.cells= [i64 y.a,i64 y.n] from rfl,J4,wrap_succ (show j≤big by omega)]
  simp only[eq_comm (a:=x)]
 have he:aH env M 167 0 2 (YJ l x (l.length:Nat))= .ok (.exit 0,⟨slots 19 [],[]⟩):=by
  rw[aee,decide_eq_false (by rw[List.length_map]; omega)]; rfl
 exact Ko (R:=fun i=>⟨slots 19 [(4,.t (i64 i))],[]⟩) (fun y=>decide (y=x)) (by omega) step he (ZQ M) (TB M)
theorem ahG {M:Nat} {l:List Px} {x:Px} (hM:big+2≤M) (hl:bZ Px.ok l) (hx:x.ok):ak env (M+1) 134 [.sl 2 (l.map Px.t),x.t]= .ok (.bool (l.contains x)):=by
 obtain⟨m,rfl⟩:=dL (show 1≤M by omega)
 rw[aqY,aZ (dN (dG (fun _ h=>Px.ok.wf h) hl) hx.wf),nI (ahW (by omega) hl hx),wP,qI]
 have:(l.any fun y=>decide (y=x))=l.contains x:=by
  rw[Bool.eq_iff_iff,List.any_eq_true,List.contains_iff_mem]
  simp
 rw[this]
theorem alz {M:Nat} {l:List Ch} {g:FuncId} {cs:List T} {q:Ch→Bool} (hM:big+1≤M) (hl:bZ Ch.ok l) (hw:T.wfs cs=true) (hm:env.mode g=0) (hq:∀ r∈l,ak env M g (r.t::cs)= .ok (.bool (q r))):
 ak env (M+1) 61 [.sl 8 (l.map Ch.t),.fn g [] cs]= .ok (i64 (rV (l.findIdx? q))):=by
 rw[q61,aZ (dN (dG (fun _ h=>Ch.ok.wf h) hl) (xu hw))]
 exact Ec Ch.t (S:=agO l _) q (by have:=hl.1; omega) hl.1 (aoa M l _) (adh M) (Xl M) fun x hx K=>(lS hm).trans (aF (hq x hx))
def atE (l:List Ch) (x:Px):Rt×Bool:=(((mW l x).getD zRt),(mW l x).isSome)
theorem Fg {M:Nat} {l:List Ch} {x:Px} (hM:big+3≤M) (hl:bZ Ch.ok l) (hx:x.ok):ak env (M+1) 26 [.sl 8 (l.map Ch.t),x.t]= .ok (BJ (mW l x)):=by
 obtain⟨m,rfl⟩:=dL (show 1≤M by omega)
 obtain⟨m,rfl⟩:=dL (show 1≤m by omega)
 have h1:=alz (M:=m+1) (g:=62) (cs:=[x.t.ref]) (q:=fun c=>decide (c.x=x)) (by omega) hl (gQ (by simpa[T.wf] using hx.wf)) rfl fun c hc=>by
  rw[q62,aZ (dN (hl.2 c hc).wf (by simpa[T.wf] using hx.wf)),Ag]
 rw[q26,aZ (dN (dG (fun _ h=>Ch.ok.wf h) hl) hx.wf),aF h1]
 simp only[bW]
 have hb:=hl.1
 have hp:(fun c:Ch=>decide (c.x=x))=fun c=>c.x==x:=by funext c; rw[Bool.eq_iff_iff]; simp
 cases hf:l.findIdx? (fun c=>decide (c.x=x)) with
 |none=>
  rw[hp] at hf
  have:mW l x=none:=by unfold mW; rw[abE hf]; rfl
  rw[this]; rfl
 |some j=>
  obtain⟨y,hy⟩:∃ y,l[j]? =some y:=by
   have:=List.findIdx?_eq_some_iff_getElem.1 hf
   obtain⟨h,_⟩:=this
   exact⟨l[j],List.getElem?_eq_getElem h⟩
  rw[hp] at hf
  have:mW l x=some y.r:=by unfold mW; rw[afb hf hy]; rfl
  rw[this,decide_eq_false (by simp[rV])]
  simp only[cond_false,pJ,rV]
  rw[aA (aC hy)]
  rfl
theorem aht {M:Nat} {a b:Ch} (hM:big+3≤M) (ha:a.ok) (hb:b.ok):ak env (M+1) 103 [a.t,b.t]= .ok (i64 (kC a.x b.x)):=by
 obtain⟨m,rfl⟩:=dL (show 1≤M by omega)
 rw[aqE,aZ (dN ha.wf hb.wf),aF (Pq ha.x hb.x (by omega))]
theorem alF {M:Nat} {a b:Ch} (hM:big+6≤M) (ha:a.ok) (hb:b.ok):ak env (M+1) 84 [a.t,b.t]= .ok (.bool (decide (a=b))):=by
 obtain⟨m,rfl⟩:=dL (show 1≤M by omega)
 rw[q84,aZ (dN ha.wf hb.wf),Ag]
 have e:decide (a=b)=(decide (a.x=b.x)&&(iM a.r b.r==0)):=by
  rw[Bool.eq_iff_iff]
  simp only[decide_eq_true_eq,Bool.and_eq_true,beq_iff_eq,qj]
  obtain⟨x,r⟩:=a
  obtain⟨x',r'⟩:=b
  simp
 rw[e]
 cases decide (a.x=b.x) with
 |true=>simp only[cond_true,Bool.true_and]; rw[aF (XM (by omega) ha.r hb.r)]
 |false=>rfl
theorem als {M:Nat} {l m:List Ch} (hM:big+9≤M) (hl:bZ Ch.ok l) (hm:bZ Ch.ok m):ak env (M+1) 49 [.sl 8 (l.map Ch.t),.sl 8 (m.map Ch.t)]= .ok (.bool (decide (l=m))):=by
 obtain⟨k,rfl⟩:=dL (show 1≤M by omega)
 have hbl:=hl.1
 have hbm:=hm.1
 have h1:ak env (k+1) 83 [.sl 8 (l.map Ch.t),.sl 8 (m.map Ch.t),.fn 84 [] []]= .ok (.bool (decide (l=m))):=by
  obtain⟨k,rfl⟩:=dL (show 1≤k by omega)
  rw[q83,aZ (BP (dG (fun _ h=>Ch.ok.wf h) hl) (dG (fun _ h=>Ch.ok.wf h) hm) (Jb _)),←EO (q:=fun a b=>decide (a=b)) (by simp) l m,List.length_map,List.length_map]
  by_cases h:l.length=m.length
  · rw[if_pos h,show((l.length:Int) !=(m.length:Int))=false by rw[h]; simp]
    simp only[cond_false]
    refine EK (S:=fun i=>agJ l m (.fn 84 [] []) (i:Int)) (R:=⟨slots 32 [(6,.t (.bool false))],[]⟩) (X:=⟨slots 32 [],[]⟩) (id:=0) _ (by omega) h (fun j x y hx hy=>?_) ?_ (adi _ _) (Xq _)
    · have hj:j < l.length:=(List.getElem?_eq_some_iff.1 hx).1
      rw[ajD,decide_eq_true (by rw[List.length_map]; omega)]
      simp only[cond_true]
      rw[aA (aC hx),aeu,aI,aA (aC hy),aeu,aI,Au rfl (alF (by omega) (hl.2 x (List.mem_of_getElem? hx)) (hm.2 y (List.mem_of_getElem? hy))),jV,wrap_succ (show j≤big by omega)]
    · rw[ajD,decide_eq_false (by rw[List.length_map]; omega)]; rfl
  · rw[if_neg h,show((l.length:Int) !=(m.length:Int))=true by simp; omega]; rfl
 rw[q49,aZ (dN (dG (fun _ h=>Ch.ok.wf h) hl) (dG (fun _ h=>Ch.ok.wf h) hm)),aF h1]
theorem ahF {M:Nat} {r:Rt} {l:List Rt} (hM:big+6≤M) (hl:bZ Rt.ok (r::l)):ak env (M+1) 133 [.sl 6 ((r::l).map Rt.t),.fn 30 [] []]= .ok (l.foldl (fun b r=>if iM r b < 0 then r else b) r).t:=by
 obtain⟨m,rfl⟩:=dL (show 1≤M by omega)
 have hb:=hl.1
 simp only[List.length_cons] at hb
 rw[aqX,aZ (dN (dG (fun _ h=>Rt.ok.wf h) hl) (Jb _)),decide_eq_false (by simp; omega)]
 simp only[cond_false]
 rw[show bV ((r::l).map Rt.t) 0=fun K:T→aj T=>K r.t from by funext K; exact aA (i:=0) rfl]
 simp only[]
 rw[oz,aI]
 refine((o9 (S:=fun(b:Rt) j=>sMn (r::l) b (.fn 30 [] []) ((j+1:Nat):Int)) (X:=fun b=>⟨slots 33 [(4,.ptr 0 0),(5,.ptr 1 0)],[.box 44 6 (.agg [.t (i64 0),.t (i64 0),.own 2,.t (i64 0),.t (i64 0),.t (i64 0)]),.box 44 6 (.t b.t),.row 3 1 []]⟩) (id:=0) (fun b _=>b.ok) (fun b r=>if iM r b < 0 then r else b) l r (by omega) (fun b j x hx hI=>?_) (fun b hI=>?_) (hl.2 r List.mem_cons_self)).1).trans (Ti _ _)
 · have hj:j < l.length:=(List.getElem?_eq_some_iff.1 hx).1
   have hx':(r::l)[j+1]? =some x:=by simpa using hx
   have ho:=hl.2 x (List.mem_cons_of_mem _ (List.mem_of_getElem? hx))
   rw[ad9,decide_eq_true (by rw[List.length_map,List.length_cons]; omega)]
   simp only[cond_true]
   rw[aA (aC hx'),Au rfl (XP (by omega) ho hI)]
   simp only[bW]
   rw[aA (aC hx'),oz,aI,wrap_succ (show j+1≤big by omega)]
   by_cases hc:iM x b < 0
   · rw[decide_eq_true hc,if_pos hc]; exact⟨rfl,ho⟩
   · rw[decide_eq_false hc,if_neg hc]; exact⟨rfl,hI⟩
 · rw[ad9,decide_eq_false (by rw[List.length_map,List.length_cons]; omega)]; rfl
theorem ahr {M:Nat} {l:List Rt} (hM:big+7≤M) (hl:bZ Rt.ok l):ak env (M+1) 100 [.sl 6 (l.map Rt.t)]= .ok (BJ (oO l)):=by
 obtain⟨m,rfl⟩:=dL (show 1≤M by omega)
 rw[aqC,aZ (gQ (dG (fun _ h=>Rt.ok.wf h) hl)),List.length_map]
 cases l with
 |nil=>rfl
 |cons r l=>
  rw[show(((r::l).length:Int)==0)=false by simp; omega]
  simp only[cond_false]
  rw[aF (ahF (by omega) hl),oz,aI]
  rfl
theorem xR {c:Cf} {t:List (List En)} {x:Px} (h:c.ok) (ht:FH t):∀ r∈gq c t x,r.ok:=fun r hr=>by
 rcases(nH.1 hr).2 with ⟨_,rfl⟩|⟨k,l,p,h1,h2,h3,h4⟩
 · exact Em h.d
 · have hl:=ht.2 l (List.mem_of_getElem? h2)
   have hb:=h.s.1
   have:=aQ
   exact XW h4 h (iE.2 (by omega)) ((hl.2 _ (lX (pq.1 h3))).p)
def Bf (c:Cf) (t:List (List En)) (x:Px) (k:Nat):List Rt:=(((t[k]?).bind fun l=>(qo l x).bind fun p=>wQ c (k:Int) x p)).toList
theorem wu {α β:Type} (f:α→Option β):∀ l:List α,l.filterMap f=l.foldl (fun r a=>r++(f a).toList) []:=by
 have main:∀ (l:List α) (r:List β),l.foldl (fun r a=>r++(f a).toList) r=r++l.filterMap f:=by
  intro l
  induction l with
  |nil=>simp
  |cons a l ih=>
   intro r
   rw[List.foldl_cons,ih,List.filterMap_cons]
   cases f a<;>simp
 intro l
 rw[main]; simp
theorem PE {α β:Type} (f:α→List β):∀ (l:List α) (r:List β),l.foldl (fun r a=>r++f a) r=r++l.foldl (fun r a=>r++f a) []:=by
 intro l
 induction l with
 |nil=>simp
 |cons a l ih=>intro r; rw[List.foldl_cons,List.foldl_cons,ih (r++f a),ih ([]++f a)]; simp
theorem LK (a b:Nat):dh false [(b:Int)] (a:Int)=((min a b:Nat):Int):=by
 simp only[dh,cond_false]
 split<;>omega
theorem ahs {M:Nat} {c:Cf} {t:List (List En)} {x:Px} (hM:big+24≤M) (h:c.ok) (ht:FH t) (hx:x.ok):ak env (M+1) 101 [c.t,.sl 1 (gZ t),x.t]= .ok (.sl 6 ((gq c t x).map Rt.t)):=by
 obtain⟨m,rfl⟩:=dL (show 1≤M by omega)
 have hbt:=ht.1
 have hbs:=h.s.1
 have hbig:=aQ
 rw[aqD,aZ (BP h.wf ht.wf hx.wf),bD (Cb (by omega) h)]
 unfold gq
 cases hc:dF c with
 |false=>rfl
 |true=>
  have hs8:c.s.length≤8:=(oG hc).2.2.2.2
  simp only[Bool.not_true,cond_false,if_true]
  rw[bD (ahG (by omega) h.w hx)]
  have key:∀ r0:List Rt,r0.length≤1→bC env (m+1) 101 7 (sTh c t x r0 ((min t.length c.s.length:Nat):Int) 0)=
   .ok (.sl 6 ((r0++(List.range (min t.length c.s.length)).filterMap fun(k:Nat)=>(t[k]?).bind fun l=>(qo l x).bind fun p=>wQ c (k:Int) x p).map Rt.t)):=fun r0 hr0=>by
   have:=o9 (S:=fun(r:List Rt) j=>sTh c t x r ((min t.length c.s.length:Nat):Int) (j:Int)) (X:=fun r=>⟨slots 61 [(7,.own 0)],[.row 44 6 (r.map Rt.t)]⟩) (id:=0) (N:=m+1) (F:=101) (r:=7) (fun(r:List Rt) j=>r.length≤j+1) (fun r k=>r++Bf c t x k) (List.range (min t.length c.s.length)) r0 (by rw[List.length_range]; omega)
    (fun r j k hk hI=>by
     have hk':j < min t.length c.s.length:=by have:=(List.getElem?_eq_some_iff.1 hk).1; simpa using this
     obtain rfl:j=k:=by rw[List.getElem?_range hk'] at hk; simpa using hk
     have hjt:j < t.length:=by omega
     have e1:t[j]? =some t[j]:=List.getElem?_eq_getElem hjt
     have hl:=ht.2 _ (List.getElem_mem hjt)
     have hko:aT (j:Int)=true:=iE.2 (by omega)
     rw[ad2,decide_eq_true (by omega)]
     simp only[cond_true]
     rw[aA (qU e1),aF (ahH (by omega) hl.1 hl.2 hx)]
     simp only[aG,List.getElem?_cons_zero,List.getElem?_cons_succ,X5,aI,jV]
     rw[wrap_succ (show j≤big by omega)]
     cases hg:qo t[j] x with
     |none=>
      have:Bf c t x j= []:=by unfold Bf; rw[e1,Option.bind_some,hg]; rfl
      rw[this,List.append_nil]
      exact⟨rfl,by omega⟩
     |some p=>
      have hp:p.ok:=(hl.2 _ (lX (pq.1 hg))).p
      simp only[Option.getD_some,Option.isSome_some,Bool.not_true,cond_false]
      rw[aF (ahI (by omega) h hko hx hp),Jl]
      simp only[aG,List.getElem?_cons_zero,List.getElem?_cons_succ,oz,aI,jV]
      cases hi:wQ c (j:Int) x p with
      |none=>
       have:Bf c t x j= []:=by unfold Bf; rw[e1,Option.bind_some,hg,Option.bind_some,hi]; rfl
       rw[this,List.append_nil]
       exact⟨rfl,by omega⟩
      |some q=>
       have:Bf c t x j= [q]:=by unfold Bf; rw[e1,Option.bind_some,hg,Option.bind_some,hi]; rfl
       rw[this]
       simp only[Option.isSome_some,cond_true,Option.getD_some]
       rw[show dB (T.oq 6) [q.t]=fun(K:aj (Ex×St))=>K from rfl,List.length_map,decide_eq_true (by omega),aI]
       refine⟨?_,by rw[List.length_append,List.length_singleton]; omega⟩
       unfold sTh
       rw[List.map_append]; rfl)
    (fun r hI=>by rw[List.length_range,ad2,decide_eq_false (by omega)]; rfl) (by omega)
   refine this.1.trans ((SV _ _).trans ?_)
   rw[PE,wu]; rfl
  rw[show((List.map (fun l=>T.sl 6 (List.map En.t l)) t).length:Int)=(t.length:Int) by simp,show((List.map Sd.t c.s).length:Int)=(c.s.length:Int) by simp,LK]
  cases hw:c.w.contains x with
  |true=>
   simp only[cond_true,if_true]
   rw[aF (XO h.d)]
   exact key [uI c.d] (by simp)
  |false=>
   simp only[cond_false,Bool.false_eq_true,if_false]
   exact key [] (by simp)
end
section
open Go.RowKit Go.Proofs
variable [Lv]
def sOz (c:Cf) (x:Px) (r:Rt) (s:Sd) (u:Ru) (m:Int) (d:Nat→PV):St:=⟨[d 0,d 1,d 2,d 3,.ptr 0 0,d 5,d 6,.ptr 2 0,.ptr 3 0,d 9,d 10,.ptr 5 0,d 12,.t (i64 m),d 14,d 15,d 16,d 17,d 18,d 19,d 20,d 21,d 22,d 23,d 24,d 25,d 26,d 27,d 28,d 29,d 30,d 31,d 32,d 33,d 34,d 35,d 36,d 37,d 38,d 39,d 40,d 41,d 42,d 43,d 44,d 45,d 46,d 47,d 48,d 49,d 50,d 51,d 52,d 53,d 54,d 55,d 56,d 57,d 58,d 59,d 60,d 61,d 62,d 63,d 64,d 65,d 66,d 67,d 68,d 69,d 70,d 71,d 72,d 73,d 74,d 75,d 76,d 77,d 78,d 79,d 80,d 81,d 82,d 83,d 84,d 85,d 86,d 87,d 88,d 89,d 90,d 91,d 92,d 93,d 94,d 95,d 96,d 97,d 98,d 99,d 100,d 101,d 102,d 103,d 104,d 105,d 106,d 107,d 108,d 109,d 110,d 111,d 112,d 113,d 114,d 115,d 116,d 117,d 118,d 119,d 120,d 121,d 122,d 123,d 124,d 125,d 126,d 127],[.box 56 6 (.t c.t),.box 25 2 (.t x.t),.box 44 6 (.t r.t),.box 42 4 (.agg [.t (i64 0),.nil 3 1,.t (i64 0),.t (i64 0)]),.box 86 4 (.t s.t),.box 123 6 (.t u.t)]⟩
def YK (c:Cf) (r:Rt) (u:Ru) (m:Int) (l:List Int) (i:Int):St:=⟨slots 128 [(4,.ptr 0 0),(7,.ptr 1 0),(8,.ptr 2 0),(11,.ptr 3 0),(13,.t (i64 m)),(15,.own 4),(16,.t (i64 i))],[.box 56 6 (.t c.t),.box 44 6 (.t r.t),.box 42 4 (.agg [.t (i64 0),.own 5,.t (i64 0),.t (i64 0)]),.box 123 6 (.t u.t),.row 3 1 (ints l),.row 3 1 []]⟩
end
section
open Go.RowKit Go.Proofs
variable [Lv]
end
section
open Go.RowKit Go.Proofs
def nZ (x:Px) (s:List Px×Bool) (y:Px):List Px×Bool:=((if kC x y < 0∧s.2=false then s.1++ [x] else s.1)++ [y],s.2||decide (kC x y≤0))
variable [Lv]
def MX (l:List En) (i:Nat):Bool:=match l[i]? with|some e=> !dA e.x|| !gU e.p||(decide (0 < i)&&Og l i)|none=>false
end
section
open Go.RowKit Go.Proofs
def avX (t:List (List En)):Bool:= !(t.any fun l=> !apQ l)&&decide (t.length≤10)
def Yl (l:List Ch):Bool:= !(l.any fun c=>decide (c.r.p.s.length > 100))&&decide (l.length≤60)
variable [Lv]
theorem alm {M:Nat} {l:List Ch} (hM:big+1≤M) (hl:bZ Ch.ok l):ak env (M+1) 34 [.sl 8 (l.map Ch.t)]= .ok (.bool (Yl l)):=by
 obtain⟨m,rfl⟩:=dL (show 1≤M by omega)
 have hb:=hl.1
 rw[q34,aZ (gQ (dG (fun _ h=>Ch.ok.wf h) hl))]
 have:=D7 (N:=m+1) (F:=34) (r:=2) (id:=0) (S:=fun j=>sFC l (j:Int)) (fun c:Ch=>decide (c.r.p.s.length > 100)) l (by omega) (fun j c hc=>by
  have hj:j < l.length:=(List.getElem?_eq_some_iff.1 hc).1
  rw[ajl,decide_eq_true (by rw[List.length_map]; omega)]
  simp only[cond_true]
  rw[aA (aC hc),show c.t.ay 4 1 false= .sl 1 (ints c.r.p.s) from rfl]
  simp only[gY]
  rw[wrap_succ (show j≤big by omega),show decide (((ints c.r.p.s).length:Int) > 100)=decide (c.r.p.s.length > 100) by rw[aX,List.length_map]; exact decide_eq_decide.2 (by omega)]) (by
  rw[ajl,decide_eq_false (by rw[List.length_map]; omega)]; rfl) (ac7 _ _) (WY _ _)
 refine this.trans ?_
 unfold Yl
 rw[show decide (((List.map Ch.t l).length:Int)≤60)=decide (l.length≤60) by rw[List.length_map]; exact decide_eq_decide.2 (by omega)]
 cases l.any fun c:Ch=>decide (c.r.p.s.length > 100)<;>rfl
theorem aln {M:Nat} {l m:List Ch} (hM:big+5≤M) (hl:bZ Ch.ok l) (hm:bZ Ch.ok m):ak env (M+1) 41 [.sl 8 (l.map Ch.t),.sl 8 (m.map Ch.t)]= .ok (.bool (decide (l=m))):=by
 obtain⟨k,rfl⟩:=dL (show 1≤M by omega)
 have hbl:=hl.1
 have hbm:=hm.1
 rw[q41,aZ (dN (dG (fun _ h=>Ch.ok.wf h) hl) (dG (fun _ h=>Ch.ok.wf h) hm)),←EO (q:=fun a b=>decide (a=b)) (by simp) l m,List.length_map,List.length_map]
 by_cases h:l.length=m.length
 · rw[if_pos h,show((l.length:Int) !=(m.length:Int))=false by rw[h]; simp]
   simp only[cond_false]
   refine EK (S:=fun i=>sSm l m (i:Int)) (R:=⟨slots 42 [(4,.t (.bool false))],[]⟩) (X:=⟨slots 42 [],[]⟩) (id:=0) _ (by omega) h (fun j x y hx hy=>?_) ?_ (ac9 _ _) (W9 _)
   · have hj:j < l.length:=(List.getElem?_eq_some_iff.1 hx).1
     have e:decide (x=y)=(decide (x.x=y.x)&&decide (x.r=y.r)):=by
      rw[Bool.eq_iff_iff]
      simp only[decide_eq_true_eq,Bool.and_eq_true]
      obtain⟨a,b⟩:=x
      obtain⟨a',b'⟩:=y
      simp
     rw[ajn,decide_eq_true (by rw[List.length_map]; omega),e]
     simp only[cond_true]
     rw[aA (aC hx),aA (aC hy),akl,akl,show y.x.t.cells= [i64 y.x.a,i64 y.x.n] from rfl,y8]
     simp only[]
     cases decide (x.x=y.x) with
     |false=>rfl
     |true=>
      simp only[Bool.not_true,cond_false,Bool.true_and]
      rw[aA (aC hx),aA (aC hy),akk,akk,bD (alA (by omega) (hl.2 x (List.mem_of_getElem? hx)).r (hm.2 y (List.mem_of_getElem? hy)).r),wrap_succ (show j≤big by omega)]
   · rw[ajn,decide_eq_false (by rw[List.length_map]; omega)]; rfl
 · rw[if_neg h,show((l.length:Int) !=(m.length:Int))=true by simp; omega]; rfl
def yJ (c:Cf) (x:Px) (r:List Rt) (y:Px):List Rt:=if y=x then r++ [uI c.d] else r
end
section
open Go.RowKit Go.Proofs
theorem QF {c:Cf} {t:List (List En)} {x:Px}:(gq c t x).length≤1+t.length:=by
 unfold gq
 split
 · rw[List.length_append]
   have h1:=List.length_filterMap_le (fun(k:Nat)=>(t[k]?).bind fun l=>(qo l x).bind fun p=>wQ c (k:Int) x p) (List.range (min t.length c.s.length))
   rw[List.length_range] at h1
   split<;>simp<;>omega
 · simp
def zH (c:Cf) (t:List (List En)):Prop:=(iZ c t).length*128≤big
def acA (l:List Px) (r:List En):List Px:=r.foldl (fun l e=>qA e.x l) l
theorem ais {α β:Type} (f:α→List β) (t:List α):(t.flatMap f)=(t.map f).flatten:=by rw[List.flatMap_def]
variable [Lv]
theorem IL {c:Cf} {t:List (List En)} {x:Px}:∀ r∈gq c t x,r.p.s.length≤32:=fun r hr=>by
 rcases(nH.1 hr).2 with ⟨_,rfl⟩|⟨k,l,p,h1,h2,h3,h4⟩
 · exact Nat.zero_le _
 · obtain⟨g1,g2,g3,i,s,m,u,e,hi,hs,h4',h5,h6,h7,h8,h9,rfl⟩:=mY h4
   exact h5
theorem weights (c:Cf) (t:List (List En)):∃ w:Nat→Nat,w 0=c.w.length∧(∀ j r,(t.take c.s.length)[j]? =some r→w (j+1)=w j+r.length∧w (j+1)≤(iZ c t).length)∧w (t.take c.s.length).length≤(iZ c t).length:=by
 have hsl:(iZ c t).length=c.w.length+(((t.take c.s.length).map fun r=>r.map En.x).flatten).length:=by unfold iZ; rw[List.length_append,ais]
 refine⟨fun j=>c.w.length+((((t.take c.s.length).map fun r=>r.map En.x).take j).flatten).length,by simp,fun j r hr=>?_,?_⟩
 · have hm:((t.take c.s.length).map fun r=>r.map En.x)[j]? =some (r.map En.x):=by rw[List.getElem?_map,hr]; rfl
   have h1:=Bz hm
   have h2:=Ho hm
   rw[List.length_map] at h1
   refine⟨?_,?_⟩
   · show c.w.length+_=c.w.length+_+_
     rw[h2,List.length_append,List.length_map,Nat.add_assoc]
   · show c.w.length+_≤_
     rw[h2,List.length_append,List.length_map,hsl]
     exact Nat.add_le_add_left h1 _
 · show c.w.length+_≤_
   rw[hsl,List.take_of_length_le (by rw[List.length_map]; exact Nat.le_refl _)]
   exact Nat.le_refl _
def uG (o:Option (List Px)) (x:Px):Option (List Px):=some (qA x (o.getD []))
def zZ (o:Option (List Px)) (r:List En):Option (List Px):=r.foldl (fun o e=>uG o e.x) o
def oL1 (c:Cf) (t:List (List En)) (o:Option (List Px)) (i:Int):St:=match o with|none=>anO c t i|some l=>sL1 c t l i
def oL2 (c:Cf) (t:List (List En)) (o:Option (List Px)) (i:Int):St:=match o with|none=>acH c t i|some l=>sL2 c t l i
def oL3 (c:Cf) (t:List (List En)) (o:Option (List Px)) (i j:Int):St:=match o with|none=>akG c t i j|some l=>sL3 c t l i j
def oX (c:Cf) (t:List (List En)) (o:Option (List Px)):St:=match o with
 |none=>⟨slots 87 [(1,.t (.sl 1 (gZ t))),(2,.ptr 0 0),(5,.own 1)],[.box 56 6 (.t c.t),.row 25 2 []]⟩
 |some l=>⟨slots 87 [(1,.t (.sl 1 (gZ t))),(2,.ptr 0 0),(5,.t (.sl 2 (l.map Px.t)))],[.box 56 6 (.t c.t)]⟩
end
section
open Go.RowKit Go.Proofs
variable [Lv]
theorem qh {L:List (List Ch)} (h:bZ (bZ Ch.ok) L):(T.sl 1 (dH L)).wf=true:=xE h.1 fun l hl=>dG (fun _ h=>Ch.ok.wf h) (h.2 l hl)
theorem adL (e:Ch):e.t.ay 0 2 true=e.x.t:=rfl
theorem ajG (e:Ch):e.t.ay 2 6 true=e.r.t:=rfl
theorem ae3 (e:Ch):(e.t.cells.length==8&& !e.t.aV)=true:=rfl
theorem XA {j:Nat} (h0:0 < j) (h:j≤big):IntKind.i64.wrap ((j:Int) - 1)=((j - 1:Nat):Int):=by
 have:=aQ
 rw[wrap64 (by omega)]; omega
theorem alq {M:Nat} {c:Cf} {k:Int} {l:List Ch} (hM:big+30≤M) (hc:c.ok) (hk:aT k=true) (hl:bZ Ch.ok l) (hb:(l.length+1)*64≤big):ak env (M+1) 46 [c.t,i64 k,.sl 8 (l.map Ch.t)]= .ok (.sl 6 ((xC c k l).map En.t)):=by
 obtain⟨m,rfl⟩:=dL (show 1≤M by omega)
 have hbg:=aQ
 rw[q46,aZ (BP hc.wf (bg hk) (dG (fun _ h=>Ch.ok.wf h) hl))]
 have rd:∀ j e,l[j]? =some e→aH env (m+1) 46 0 3 (Hg c k l ((l.take j).filterMap fun e=>(mM c k e.x e.r).map (En.mk e.x)) j)=bif Ub l j then .ok (.ret,⟨slots 59 [(6,.own 0)],[.row 104 6 []]⟩) else .ok (.norm,Hg c k l ((l.take (j+1)).filterMap fun e=>(mM c k e.x e.r).map (En.mk e.x)) (j+1:Nat)):=fun j e hx=>by
  have hj:=(List.getElem?_eq_some_iff.1 hx).1
  have he:=hl.2 e (List.mem_of_getElem? hx)
  have hw:=wrap_succ (show j≤big by omega)
  have htk:l.take (j+1)=l.take j++ [e]:=by rw[List.take_add_one,hx]; rfl
  have hlen:((l.take j).filterMap fun e=>(mM c k e.x e.r).map (En.mk e.x)).length≤j:=by
   refine Nat.le_trans (List.length_filterMap_le _ _) ?_
   rw[List.length_take]; omega
  rw[htk,List.filterMap_append]
  generalize ((l.take j).filterMap fun e=>(mM c k e.x e.r).map (En.mk e.x))=ys at hlen
  have hby:decide (((ys.map En.t).length+1)*64≤140737488355328)=true:=decide_eq_true (by rw[List.length_map]; omega)
  rw[ajr,decide_eq_true (by rw[List.length_map]; omega)]
  simp only[cond_true,aA (aC hx)]
  rw[ae3,aI,adL,ajG,bD (yD he.x (by omega)),aF (alE (by omega) hc hk he.x he.r),hw]
  have tail:∀ K:aj (Ex×St),K=(aG (G7 (mM c k e.x e.r)) 0 fun y=>aG (G7 (mM c k e.x e.r)) 1 fun y_1=>chk (y.cells.length==4&& !y.aV) (bT y_1 fun v=>bif v then chk ((e.x.t).cells.length==2&& !(e.x.t).aV) (chk (y.cells.length==4&& !y.aV) (dB (T.oq 6) [T.agg [(e.x.t).cell 0,(e.x.t).cell 1,y.cell 0,y.cell 1,y.cell 2,y.cell 3]] (chk (decide (((List.map En.t ys).length+1)*64≤140737488355328)) (aj.ok (Ex.norm,{tmps:=slots 59 [(1,PV.t (i64 k)),(2,PV.t (T.sl 8 (List.map Ch.t l))),(3,PV.ptr 0 0),(7,PV.own 1),(12,PV.t (T.sl 8 (List.map Ch.t l))),(13,PV.t (i64 (↑(List.map Ch.t l).length:Int))),(14,PV.t (i64 ((j+1:Nat):Int)))],heap:=[ah.box 56 6 (PV.t c.t),ah.row 104 6 (List.map En.t ys++ [T.agg [(e.x.t).cell 0,(e.x.t).cell 1,y.cell 0,y.cell 1,y.cell 2,y.cell 3]])]}))))) else aj.ok (Ex.norm,Hg c k l ys ((j+1:Nat):Int))))→
   K= .ok (.norm,Hg c k l (ys++ [e].filterMap fun e=>(mM c k e.x e.r).map (En.mk e.x)) (j+1:Nat)):=fun K hK=>by
   rw[hK]
   cases ho:mM c k e.x e.r with
   |none=>
    rw[show[e].filterMap (fun e=>(mM c k e.x e.r).map (En.mk e.x))= [] by simp[ho],List.append_nil]
    rfl
   |some p=>
    rw[show[e].filterMap (fun e=>(mM c k e.x e.r).map (En.mk e.x))= [⟨e.x,p⟩] by simp[ho]]
    unfold Hg
    rw[List.map_append]
    show chk true (chk true (chk true (chk true (chk _ _))))=_
    rw[hby]
    rfl
  unfold Ub
  rw[hx]
  simp only[]
  cases hs:dA e.x with
  |false=>rfl
  |true=>
   simp only[Bool.not_true,cond_false,Bool.false_or]
   by_cases h0:0 < j
   · have hp:l[j - 1]? =some l[j - 1]:=List.getElem?_eq_getElem (by omega)
     rw[decide_eq_true (show(j:Int) > 0 by omega),decide_eq_true h0,hp,cond_true,XA h0 (by omega),aA (aC hp),adL,nI (Pq (hl.2 _ (List.mem_of_getElem? hp)).x he.x (by omega))]
     simp only[Bool.true_and]
     cases decide (kC l[j - 1].x e.x≥0) with
     |true=>rfl
     |false=>exact tail _ rfl
   · rw[decide_eq_false (show ¬ (j:Int) > 0 by omega),decide_eq_false h0]
     exact tail _ rfl
 have it:=fH (B:=aH env (m+1) 46 0 3) (S:=fun j=>Hg c k l ((l.take j).filterMap fun e=>(mM c k e.x e.r).map (En.mk e.x)) j) (R:=fun _=>⟨slots 59 [(6,.own 0)],[.row 104 6 []]⟩) (X:=⟨slots 59 [(7,.own 0)],[.row 104 6 ((l.filterMap fun e=>(mM c k e.x e.r).map (En.mk e.x)).map En.t)]⟩) (id:=0) (Ub l) l.length 0 (m+1) (by omega)
  (fun j _ hj hp=>by rw[rd j _ (List.getElem?_eq_getElem (by omega)),hp]; rfl) (fun j _ hj hp=>by rw[rd j _ (List.getElem?_eq_getElem (by omega)),hp]; rfl)
  (by rw[Nat.zero_add,List.take_length,ajr,decide_eq_false (by rw[List.length_map]; omega)]; rfl)
 have e0:Hg c k l ((l.take 0).filterMap fun e=>(mM c k e.x e.r).map (En.mk e.x)) (0:Nat)=Hg c k l [] 0:=rfl
 unfold xC sK
 cases hk:dI (Ub l) 0 l.length with
 |some j=>
  rw[hk] at it
  rw[if_neg (by simp)]
  exact(aU it).trans (ada (m+1) _)
 |none=>
  rw[hk] at it
  rw[if_pos (by simp)]
  exact(aU it).trans (Xd (m+1) _)
theorem aeA {M:Nat} {L:List (List Ch)} {i:Nat} (hL:bZ (bZ Ch.ok) L) (hi:i≤big):ak env (M+1) 37 [.sl 1 (dH L),i64 i]= .ok (.sl 8 ((L.getD i []).map Ch.t)):=by
 have hbg:=aQ
 rw[q37,aZ (dN (qh hL) (bg (iR (by omega))))]
 by_cases h:i < L.length
 · have hx:L[i]? =some L[i]:=List.getElem?_eq_getElem h
   rw[decide_eq_false (by rw[List.length_map]; omega),cond_false,aA (jL hx),List.getD_eq_getElem?_getD,hx]; rfl
 · rw[decide_eq_true (by rw[List.length_map]; omega),List.getD_eq_getElem?_getD,List.getElem?_eq_none (by omega)]; rfl
theorem UD {m:Int} {n:Nat} (hm:m=(min n 8:Nat)):IntKind.i64.wrap (IntKind.i64.wrap (IntKind.i64.wrap (IntKind.i64.wrap (2*m)*m)+IntKind.i64.wrap (4*m))+10)=(jD n:Int):=by
 subst hm
 unfold jD
 have:min n 8≤8:=Nat.min_le_right _ _
 generalize min n 8=q at this
 have h9:∀ q:Nat,q≤8→IntKind.i64.wrap (IntKind.i64.wrap (IntKind.i64.wrap (IntKind.i64.wrap (2*(q:Int))*(q:Int))+IntKind.i64.wrap (4*(q:Int)))+10)=((2*q*q+4*q+10:Nat):Int):=by decide
 exact h9 q this
theorem aez {M n:Nat} (hn:n≤big):ak env (M+1) 29 [i64 n]= .ok (i64 (jD n:Int)):=by
 have hbg:=aQ
 rw[q29,aZ (gQ (bg (iR (by omega)))),UD (n:=n)]
 simp only[dh,cond_true,cond_false]
 split<;>split<;>omega
theorem alo {M:Nat} {i k:Int} (hi:aT i=true) (hk:aT k=true):ak env (M+1) 43 [i64 i,i64 k]= .ok (.sl 6 []):=by
 rw[q43,aZ (dN (bg hi) (bg hk))]
structure wJ (t:List Cf) (L:List (List Ch)):Prop where
 ft:bZ Cf.ok t
 fL:bZ (bZ Ch.ok) L
 sides:∀ c∈t,c.s.length≤1000∧c.w.length≤1000
 chs:∀ l∈L,l.length≤1000
theorem wJ.at {t:List Cf} {L:List (List Ch)} (h:wJ t L) (j:Nat):bZ Ch.ok (L.getD j [])∧(L.getD j []).length≤1000:=by
 rw[List.getD_eq_getElem?_getD]
 cases hl:L[j]? with
 |none=>exact⟨⟨Nat.zero_le _,by simp⟩,Nat.zero_le _⟩
 |some l=>have hm:=List.mem_of_getElem? hl; exact⟨h.fL.2 l hm,h.chs l hm⟩
theorem wJ.side {t:List Cf} {L:List (List Ch)} (h:wJ t L) (i k:Nat):bZ En.ok (pO t L i k)∧(pO t L i k).length≤1000:=by
 have hbg:=aQ
 unfold pO
 cases iI t i k with
 |none=>exact⟨⟨Nat.zero_le _,by simp⟩,Nat.zero_le _⟩
 |some p=>
  obtain⟨j,m⟩:=p
  simp only
  cases hd:t[j]? with
  |none=>exact⟨⟨Nat.zero_le _,by simp⟩,Nat.zero_le _⟩
  |some d=>
   obtain⟨g1,g2⟩:=h.at j
   have hw:=VO d (m:Int) (L.getD j [])
   refine⟨⟨by simp only; omega,fun e he=>?_⟩,by simp only; omega⟩
   obtain⟨_,r,hr,hp⟩:=Aj.1 he
   exact⟨(g1.2 _ hr).x,Rn hp (h.ft.2 d (List.mem_of_getElem? hd)) (g1.2 _ hr).r⟩
theorem alQ {t:List Cf} {i k j m:Nat} (hi:i < t.length) (hs:∀ c∈t,c.s.length≤1000) (h:iI t i k=some (j,m)):j < t.length∧m≤1000:=by
 unfold iI at h
 rw[if_pos ⟨by omega,by omega⟩] at h
 split at h
 · split at h
   · split at h
     · split at h
       · rename_i d hd
         obtain⟨m',h1,h2⟩:=Option.map_eq_some_iff.1 h
         simp only[Prod.mk.injEq] at h2
         obtain⟨rfl,rfl⟩:=h2
         have h3:=(List.findIdx?_eq_some_iff_getElem.1 h1).1
         have h4:=hs d (List.mem_of_getElem? hd)
         exact⟨(List.getElem?_eq_some_iff.1 hd).1,by omega⟩
       · cases h
     · cases h
   · cases h
 · cases h
theorem alp {M:Nat} {t:List Cf} {L:List (List Ch)} {i k:Nat} (hM:big+40≤M) (h:wJ t L) (hi:i < t.length) (hk:k≤1000):ak env (M+1) 45 [i64 i,i64 k,.ref (.sl 6 (t.map Cf.t)),.ref (.sl 1 (dH L))]= .ok (.sl 6 ((pO t L i k).map En.t)):=by
 obtain⟨m,rfl⟩:=dL (show 1≤M by omega)
 have hbg:=aQ
 have htb:=h.ft.1
 rw[q45,aZ (by
  have h1:=bg (n:=(i:Int)) (iR (by omega)); have h2:=bg (n:=(k:Int)) (iR (by omega)); have h3:=lG (ku h.ft); have h4:=lG (qh h.fL)
  simp only[T.wfs,h1,h2,h3,h4,Bool.and_self]),aF (Pn (by omega) h.ft (iR (by omega)) (iR (by omega)))]
 unfold pO
 cases hf:iI t i k with
 |none=>rfl
 |some p=>
  obtain⟨j,mm⟩:=p
  obtain⟨hj,hmm⟩:=alQ hi (fun c hc=>(h.sides c hc).1) hf
  have hd:t[j]? =some t[j]:=List.getElem?_eq_getElem hj
  simp only[Yk,Et,Eu,Option.map_some,Option.getD_some,aG,List.getElem?_cons_zero,List.getElem?_cons_succ,Option.isSome_some,bT,Bool.not_true,cond_false,pJ]
  rw[aA (aC hd),aF (aeA h.fL (by omega))]
  obtain⟨g1,g2⟩:=h.at j
  rw[aF (alq (by omega) (h.ft.2 _ (List.mem_of_getElem? hd)) (iR (by omega)) g1 (by omega)),hd]
end
end Go.aP
namespace Go.Proofs
def sortL_ren:Go.Shelf.Ren:=⟨fun|6=>102|15=>138|14=>137|28=>185|29=>186|20=>177|21=>178|22=>179|23=>180|24=>181|25=>182|26=>183|27=>184|46=>200|47=>201|48=>202|49=>203|50=>204|57=>215|n=>n,fun|22=>40|24=>46|25=>126|3=>3|39=>151|0=>0|53=>177|55=>179|4=>4|46=>171|45=>170|50=>82|5=>5|9=>9|66=>193|70=>143|76=>206|77=>207|n=>n,fun|n=>n⟩
theorem sortL:Go.Proofs.SlLaysF0.n6 Tryz.prog sortL_ren where
 mixed:=by kernel_rfl
 f6:=⟨ "slices.SortFunc[[]ridgeway/api.Choice,ridgeway/api.Choice]",by decide,Tryz.func102.trans (congrArg some (by kernel_rfl))⟩
 f14:=⟨ "slices.pdqsortCmpFunc[ridgeway/api.Choice]",by decide,Tryz.func137.trans (congrArg some (by kernel_rfl))⟩
 f15:=Tryz.func138.trans (congrArg some (by kernel_rfl))
 f20:=⟨ "slices.insertionSortCmpFunc[ridgeway/api.Choice]",by decide,Tryz.func177.trans (congrArg some (by kernel_rfl))⟩
 f21:=⟨ "slices.heapSortCmpFunc[ridgeway/api.Choice]",by decide,Tryz.func178.trans (congrArg some (by kernel_rfl))⟩
 f22:=⟨ "slices.breakPatternsCmpFunc[ridgeway/api.Choice]",by decide,Tryz.func179.trans (congrArg some (by kernel_rfl))⟩
 f23:=⟨ "slices.choosePivotCmpFunc[ridgeway/api.Choice]",by decide,Tryz.func180.trans (congrArg some (by kernel_rfl))⟩
 f24:=⟨ "slices.reverseRangeCmpFunc[ridgeway/api.Choice]",by decide,Tryz.func181.trans (congrArg some (by kernel_rfl))⟩
 f25:=⟨ "slices.partialInsertionSortCmpFunc[ridgeway/api.Choice]",by decide,Tryz.func182.trans (congrArg some (by kernel_rfl))⟩
 f26:=⟨ "slices.partitionEqualCmpFunc[ridgeway/api.Choice]",by decide,Tryz.func183.trans (congrArg some (by kernel_rfl))⟩
 f27:=⟨ "slices.partitionCmpFunc[ridgeway/api.Choice]",by decide,Tryz.func184.trans (congrArg some (by kernel_rfl))⟩
 f28:=Tryz.func185.trans (congrArg some (by kernel_rfl))
 f29:=Tryz.func186.trans (congrArg some (by kernel_rfl))
 f46:=⟨ "slices.siftDownCmpFunc[ridgeway/api.Choice]",by decide,Tryz.func200.trans (congrArg some (by kernel_rfl))⟩
 f47:=Tryz.func201.trans (congrArg some (by kernel_rfl))
 f48:=Tryz.func202.trans (congrArg some (by kernel_rfl))
 f49:=⟨ "slices.medianAdjacentCmpFunc[ridgeway/api.Choice]",by decide,Tryz.func203.trans (congrArg some (by kernel_rfl))⟩
 f50:=⟨ "slices.medianCmpFunc[ridgeway/api.Choice]",by decide,Tryz.func204.trans (congrArg some (by kernel_rfl))⟩
 f57:=⟨ "slices.order2CmpFunc[ridgeway/api.Choice]",by decide,Tryz.func215.trans (congrArg some (by kernel_rfl))⟩
 t0:=Tryz.underlying0
 a0:=Tryz.isAgg0
 z0:=Tryz.sizeOf0
 v0:=Tryz.zeroValue0
 t3:=Tryz.underlying3
 a3:=Tryz.isAgg3
 z3:=Tryz.sizeOf3
 v3:=Tryz.zeroValue3
 t4:=Tryz.underlying4
 a4:=Tryz.isAgg4
 z4:=Tryz.sizeOf4
 v4:=Tryz.zeroValue4
 t5:=Tryz.underlying5
 a5:=Tryz.isAgg5
 z5:=Tryz.sizeOf5
 v5:=Tryz.zeroValue5
 t9:=Tryz.underlying9
 a9:=Tryz.isAgg9
 z9:=Tryz.sizeOf9
 v9:=Tryz.zeroValue9
 t22:=Tryz.underlying40
 a22:=Tryz.isAgg40
 z22:=Tryz.sizeOf40
 v22:=Tryz.zeroValue40
 t25:=Tryz.underlying126
 a25:=Tryz.isAgg126
 z25:=Tryz.sizeOf126
 v25:=Tryz.zeroValue126
 t39:=Tryz.underlying151
 a39:=Tryz.isAgg151
 z39:=Tryz.sizeOf151
 v39:=Tryz.zeroValue151
 t45:=Tryz.underlying170
 a45:=Tryz.isAgg170
 z45:=Tryz.sizeOf170
 v45:=Tryz.zeroValue170
 t46:=Tryz.underlying171
 a46:=Tryz.isAgg171
 z46:=Tryz.sizeOf171
 v46:=Tryz.zeroValue171
 t50:=Tryz.underlying82
 a50:=Tryz.isAgg82
 z50:=Tryz.sizeOf82
 v50:=Tryz.zeroValue82
 t53:=Tryz.underlying177
 a53:=Tryz.isAgg177
 z53:=Tryz.sizeOf177
 v53:=Tryz.zeroValue177
 t55:=Tryz.underlying179
 a55:=Tryz.isAgg179
 z55:=Tryz.sizeOf179
 v55:=Tryz.zeroValue179
 t66:=Tryz.underlying193
 a66:=Tryz.isAgg193
 z66:=Tryz.sizeOf193
 v66:=Tryz.zeroValue193
 t70:=Tryz.underlying143
 a70:=Tryz.isAgg143
 z70:=Tryz.sizeOf143
 v70:=Tryz.zeroValue143
 t76:=Tryz.underlying206
 a76:=Tryz.isAgg206
 z76:=Tryz.sizeOf206
 v76:=Tryz.zeroValue206
 t77:=Tryz.underlying207
 a77:=Tryz.isAgg207
 z77:=Tryz.sizeOf207
 v77:=Tryz.zeroValue207
end Go.Proofs
namespace Go.aP
section
open Go.RowKit Go.Proofs Go.Sort Go.Shelf
def dV (F:Nat→Prop) (w:World):Type:={p:List Value×Ch // Rd F w p.2.t (.agg p.1.toArray)}
section
variable {F:Nat→Prop} {w:World}
def dV.mk (v:List Value) (c:Ch) (h:Rd F w c.t (.agg v.toArray)):dV F w:=⟨(v,c),h⟩
def dV.enc (x:dV F w):List Value:=x.1.1
def dV.key (x:dV F w):Ch:=x.1.2
theorem dV.rd (x:dV F w):Rd F w x.key.t (.agg x.enc.toArray):=x.2
theorem Aq {c:Ch} {v:List Value} (h:Rd F w c.t (.agg v.toArray)):v.length=8∧(∀ u∈v,u.oneCell'=true)∧∀ (i:Nat) (x:T) (u:Value),c.t.cells[i]? =some x→v[i]? =some u→Rd F w x u:=by
 unfold Ch.t at h
 generalize hv:v.toArray=a at h
 cases h with
 |agg hl h1 hr=>
  have:=congrArg Array.toList hv
  simp only at this
  subst this
  exact⟨hl,h1,hr⟩
def cfC (x y:dV F w):Int:=kC x.key.x y.key.x
theorem aho:SWO (ltOf (cfC (F:=F) (w:=w))) where
 irrefl x:=by unfold ltOf cfC; rw[decide_eq_false_iff_not,rM]; exact fZ _
 trans x y z h1 h2:=by
  unfold ltOf cfC at*
  rw[decide_eq_true_eq,rM] at*
  exact yI h1 h2
 ntrans x y z h1 h2:=by
  unfold ltOf cfC at*
  rw[decide_eq_false_iff_not,rM] at*
  unfold vT at*
  omega
end
theorem MJ {α:Type} [Inhabited α] {enc:α→List Value} {k:Nat} {w:World} {g m:Nat} {dk:Array α} {os:Array Obj} {b:Nat} (hb:b < w.heap.size) (hne:b≠g):(sortWorldK enc k w g 0 m dk os).heap[b]? =w.heap[b]? :=by
 unfold sortWorldK grow putRowK putRow mapBlock
 show(((Sort.ahead w m).heap.modify g _)++os)[b]? =_
 rw[Array.getElem?_append_left (by simpa[Sort.ahead] using hb),Array.getElem?_modify,if_neg (fun h=>hne h.symm)]
 rfl
theorem acV {α:Type} [Inhabited α] {enc:α→List Value} {k:Nat} {w:World} {g m:Nat} {dk:Array α} {os:Array Obj} {cur:Array Value} {e:TypeId} {fr:Nat×Nat} (hg:w.heap[g]? =some (.cells cur e fr)):
 (sortWorldK enc k w g 0 m dk os).heap[g]? =some (.cells (putCells id 0 (flatK enc k dk) cur) e fr):=by
 unfold sortWorldK grow putRowK putRow mapBlock
 show(((Sort.ahead w m).heap.modify g _)++os)[g]? =_
 have hlt:=(Array.getElem?_eq_some_iff.1 hg).1
 rw[Array.getElem?_append_left (by simpa[Sort.ahead] using hlt),Array.getElem?_modify,if_pos rfl]
 show Option.map _ w.heap[g]? =_
 rw[hg]; rfl
variable [Lv]
theorem WL (he:nO env) {l:List Ch} (hne:l≠ []) (ho:bZ Ch.ok l):Ye env 102 46 8 (l.map Ch.t) [.fn 103 [] []] fun ys=>∃ m:List Ch,ys=m.map Ch.t∧m.Perm l∧m.Pairwise fun a b=>¬ kC b.x a.x < 0:=by
 intro F κ w H i vals s hH hl hr
 obtain⟨cs,o1,o2,o3,o4,o5⟩:=s.ro i _ hH
 have hn:(l.map Ch.t).length=l.length:=by simp
 rw[hn] at o1 o2
 have hcs:cs.length=l.length*8:=o1.1
 have hpos:0 < l.length:=List.length_pos_iff.2 hne
 rcases o1.2 with ⟨_,h0⟩|⟨g,cap,cur,e1,_,e3,e4,e5,e6,e7⟩
 · omega
 have ap1:g < w.heap.size:=(Array.getElem?_eq_some_iff.1 e3).1
 have hgF:¬ F g:=(s.lt i _ g hH (by simp[blk,e1,Value.ownBlock])).2
 obtain⟨v,rfl⟩:∃ v,vals= [v]:=by
  match vals,hl with
  | [v],_=>exact⟨v,rfl⟩
 have hv:v= .func (.func 103) #[] #[]:=by
  have:=hr 0 _ v rfl rfl
  cases this with
  |fn hlf hlc _ _=>simp at hlf hlc; subst hlf; subst hlc; rfl
 subst hv
 have PS:∀ j (hj:j < l.length),Rd F w l[j].t (.agg ((cs.drop (j*8)).take 8).toArray):=fun j hj=>by
  have hlen:((cs.drop (j*8)).take 8).length=8:=by rw[List.length_take,List.length_drop,hcs]; omega
  have hx:(l.map Ch.t)[j]? =some l[j].t:=aC (List.getElem?_eq_getElem hj)
  unfold Ch.t at hx ⊢
  refine .agg hlen (fun u hu=>o4 u (List.mem_of_mem_drop (List.mem_of_mem_take hu))) fun q x u hq hu=>?_
  have hq8:q < 8:=by have:=(List.getElem?_eq_some_iff.1 hq).1; simpa using this
  refine o5 j _ q x u hx hq ?_
  rw[List.getElem?_take,if_pos hq8,List.getElem?_drop] at hu
  exact hu
 let dl:List (dV F w):=List.ofFn fun j:Fin l.length=>dV.mk ((cs.drop (j*8)).take 8) l[j] (PS j j.2)
 have hdl:dl.length=l.length:=List.length_ofFn
 have ajM:∀ j (hj:j < l.length),dl[j]? =some (dV.mk ((cs.drop (j*8)).take 8) l[j] (PS j hj)):=fun j hj=>by
  show(List.ofFn _)[j]? =_
  rw[List.getElem?_ofFn,dif_pos hj]
  rfl
 have hkeys:dl.map dV.key=l:=by
  refine List.ext_getElem? fun j=>?_
  rw[List.getElem?_map]
  rcases Nat.lt_or_ge j l.length with hj|hj
  · rw[ajM j hj,List.getElem?_eq_getElem hj]; rfl
  · rw[List.getElem?_eq_none (by rw[hdl]; exact hj),List.getElem?_eq_none hj]; rfl
 haveI:Inhabited (dV F w):=⟨dV.mk ((cs.drop (0*8)).take 8) l[0] (PS 0 hpos)⟩
 have hsz:dl.toArray.size=l.length:=by simp[hdl]
 have eg:∀ args w,(callFunc 103 args).run Tryz.prog w= .ok (.enter 103 args) w:=enters_of Tryz.func103 (by kernel_rfl) rfl
 have RY:∀ (dk:Array (dV F w)) j q,j < dk.size→q < 8→(flatK dV.enc 8 dk)[j*8+q]? =(dk[j]!).enc[q]? :=fun dk j q hj hq=>by
  have hlt:j*8+q < dk.size*8:=by omega
  have h8:=(Aq (dk[j]!).rd).1
  have h1:=get_flatK dV.enc 8 dk (j*8+q) hlt
  rw[show(j*8+q) / 8=j by omega,show(j*8+q) % 8=q by omega] at h1
  rw[Array.getElem?_eq_getElem (by rw[size_flatK]; exact hlt),List.getElem?_eq_getElem (by omega)]
  rw[getElem!_pos _ _ (by rw[size_flatK]; exact hlt),getElem!_pos _ _ (by omega)] at h1
  rw[h1]
 have alV:HoldsK dV.enc 8 w g 0 dl.toArray:=fun j hj=>by
  rw[size_flatK,hsz] at hj
  have hj8:j / 8 < l.length:=by omega
  have e8:j / 8*8+j % 8=j:=by omega
  have hc:cs[j]? =some cs[j]:=List.getElem?_eq_getElem (by omega)
  refine⟨?_,?_⟩
  · have h1:(flatK dV.enc 8 dl.toArray)[j]? =cs[j]? :=by
     have h0:=RY dl.toArray (j / 8) (j % 8) (by rw[hsz]; exact hj8) (Nat.mod_lt _ (by omega))
     rw[e8] at h0
     rw[h0]
     have:dl.toArray[j / 8]! =dV.mk ((cs.drop (j / 8*8)).take 8) l[j / 8] (PS _ hj8):=by
      rw[getElem!_pos _ _ (by rw[hsz]; exact hj8)]
      have:=ajM _ hj8
      rw[List.getElem?_eq_getElem (by rw[hdl]; exact hj8)] at this
      exact Option.some.inj this
     rw[this]
     show((cs.drop (j / 8*8)).take 8)[j % 8]? =cs[j]?
     rw[List.getElem?_take,if_pos (Nat.mod_lt _ (by omega)),List.getElem?_drop,e8]
    have h2:(flatK dV.enc 8 dl.toArray)[j]! =cs[j]:=by
     rw[hc] at h1
     obtain⟨h3,h4⟩:=Array.getElem?_eq_some_iff.1 h1
     rw[getElem!_pos (flatK dV.enc 8 dl.toArray) j h3,h4]
    rw[h2,Nat.zero_add]
    show w.cell? ⟨g,j,none⟩=some cs[j]
    have h5:cur.toList[j]? =some cs[j]:=by
     have:(cur.toList.take (l.length*8))[j]? =cs[j]? :=by rw[e7]
     rw[List.getElem?_take,if_pos (by omega),hc] at this
     exact this
    simp only[World.cell?,e3]
    simpa using h5
  · simp[World.frozen?,e3]
 have hFw:∀ (m:Nat) (os:Array Obj) (dk:Array (dV F w)) b,F b→(sortWorldK dV.enc 8 w g 0 m dk os).heap[b]? =w.heap[b]? :=fun m os dk b hb=>MJ (s.fl b hb) fun h=>hgF (h ▸ hb)
 have hcmp:CmpLays Tryz.prog 103 #[] dV.enc 8 cfC g 0 dl.toArray.size w:=fun m os dk hdk x y=>by
  have hx:=x.rd.mono (fun _ h=>h) (hFw m os dk)
  have hy:=y.rd.mono (fun _ h=>h) (hFw m os dk)
  have hok:∀ z:dV F w,z.key.ok:=fun z=>by
   have hw:=z.rd.wf
   unfold Ch.t at hw
   simp only[T.wf,T.wfs,Bool.and_eq_true,decide_eq_true_eq,Bool.and_true] at hw
   obtain⟨a1,a2,a3,a4,⟨a5,a6⟩,a7,a8,a9⟩:=hw
   exact⟨⟨a1,a2⟩,⟨a3,⟨a4,by rw[aX,List.length_map] at a5; exact a5,fun n hn=>(by
    have:=T.og.1 a6 (i64 n) (List.mem_map.2 ⟨n,hn,rfl⟩)
    simpa[T.wf] using this),a7,a8⟩,a9⟩⟩
  have hcall:=aht (M:=big+3) (Nat.le_refl _) (hok x) (hok y)
  have hfl:∀ b,F b→b < (sortWorldK dV.enc 8 w g 0 m dk os).heap.size:=fun b hb=>by
   have h1:=s.fl b hb
   have h2:=hFw m os dk b hb
   rw[Array.getElem?_eq_getElem h1] at h2
   exact(Array.getElem?_eq_some_iff.1 h2).1
  have:=Gj (E:=env) (F:=F) (w:=sortWorldK dV.enc 8 w g 0 m dk os) he (n:=big+3+1) (f:=103) (ts:=[x.key.t,y.key.t]) rfl (by rw[hcall]; simp) (vals:=[.agg x.enc.toArray,.agg y.enc.toArray]) rfl (fun q z u h1 h2=>by
   match q with
   |0=>simp at h1 h2; subst h1; subst h2; exact hx
   |1=>simp at h1 h2; subst h1; subst h2; exact hy
   |q+2=>simp at h1) hfl
  refine Calls.mono this fun e w'=>?_
  rintro⟨v,rfl,⟨z,F',c1,c2,c3⟩,hd⟩
  rw[hcall] at c1
  injection c1 with c1
  subst c1
  have hvv:v= .int .i64 (cfC x y):=by
   cases c2 with
   |frozen _ h=>cases h; rfl
  subst hvv
  refine⟨rfl,?_⟩
  obtain⟨p,hp⟩:=regrown_of_below (w:=sortWorldK dV.enc 8 w g 0 m dk os) (w':=w') ⟨c3.os,c3.tape,c3.output,c3.size,c3.old⟩
  refine⟨p.d - (sortWorldK dV.enc 8 w g 0 m dk os).drawn,p.os,?_⟩
  have hdp:w'.drawn=p.d:=by rw[hp]; rfl
  rw[hdp] at hd
  rw[hp]
  unfold redrawn World.drewN
  rw[Nat.add_sub_cancel' hd]
 have hmain:=AnyQ.slices_SortFunc sortL 8 (fun w=>(vX (show lQ Tryz.prog 46=some true by kernel_rfl) w)) (fun w=>jJ (show kG Tryz.prog 46=some 8 by kernel_rfl) w) dV.enc (fun x=>(Aq x.rd).1) (fun x=>(Aq x.rd).2.1) cfC aho 103 #[] g 0 cap dl.toArray w eg hcmp alV ap1 (by rw[hsz]; have:=ho.1; have:=aQ; omega)
 rw[hsz] at hmain
 have hargs:(κ i::[Value.func (.func 103) #[] #[]]).toArray= #[.slice (some ⟨g,0,none⟩) l.length cap,.func (.func 103) #[] #[]]:=by rw[e1]
 rw[hargs]
 refine oV he ⟨_,_,Tryz.func102,rfl⟩ (Calls.mono hmain ?_)
 rintro e w' ⟨rfl,d',n,os,hp,hs,rfl⟩
 rw[←hsz] at hp hs
 obtain⟨p1,_,p3⟩:=hp
 have hw':∀ a b:Array (dV F w),a.extract 0 a.size=a:=fun a b=>by simp
 rw[←p1,hw' d' d',p1,hw' _ d'] at p3
 have hperm:(d'.toList.map dV.key).Perm l:=by
  have:=p3.map dV.key
  simp only[List.toList_toArray] at this
  rwa [hkeys] at this
 refine⟨.tuple #[],rfl,⟨rfl,⟨rfl,rfl,rfl,?_,fun b hb hne=>?_⟩,(d'.toList.map dV.key).map Ch.t,⟨_,rfl,hperm,?_⟩,?_⟩,?_⟩
 · show w.heap.size≤((putRowK dV.enc 8 (Sort.ahead w n) g 0 d').heap++os).size
   rw[Array.size_append]
   have:(putRowK dV.enc 8 (Sort.ahead w n) g 0 d').heap.size=w.heap.size:=by unfold putRowK; rw[Sort.size_putRow]; rfl
   omega
 · refine MJ hb fun h=>hne ?_
   rw[h,e1]; rfl
 · rw[List.pairwise_map,List.pairwise_iff_getElem]
   intro a b ha hb hab
   have ha':a < d'.size:=by simpa using ha
   have hb':b < d'.size:=by simpa using hb
   have:=hs a b (Nat.zero_le _) hab (by rw[←p1]; exact hb')
   unfold ltOf at this
   rw[decide_eq_false_iff_not,getElem!_pos d' b hb',getElem!_pos d' a ha'] at this
   exact this
 · have hd':d'.size=l.length:=by rw[p1,hsz]
   have hrow:=acV (enc:=dV.enc) (k:=8) (m:=n) (dk:=d') (os:=os) e3
   have hF0:=hFw n os d'
   generalize hwe:sortWorldK dV.enc 8 w g 0 n d' os=w1 at hrow hF0
   have hcl:(flatK dV.enc 8 d').size=l.length*8:=by rw[size_flatK,hd']
   refine⟨(flatK dV.enc 8 d').toList,⟨by simp[hcl,hd'],.inr ⟨g,cap,_,by rw[e1]; simp[hd'],Nat.zero_le _,hrow,by simpa[hd'] using e4,e5,by simpa[putCells] using e6,?_⟩⟩,by simpa[hd'] using o2,fun x hx=>?_,fun c hc=>?_,fun a x q y u ha hq hu=>?_⟩
   · have hcs2:cur.size=cap*8:=e6
     refine List.ext_getElem? fun j=>?_
     rw[List.getElem?_take]
     simp only[List.length_map,Array.length_toList,hd']
     split
     · rename_i hj
       have h1:j < cur.size:=by rw[hcs2]; calc j < l.length*8:=hj
        _≤cap*8:=Nat.mul_le_mul_right _ e4
       have h2:j < (flatK dV.enc 8 d').size:=by rw[hcl]; exact hj
       unfold putCells
       simp only[Array.getElem?_toList,Array.getElem?_mapIdx,Array.getElem?_eq_getElem h1,Option.map_some,Nat.zero_le,true_and,Nat.zero_add,hcl,hj,if_true,Nat.sub_zero,id]
       rw[getElem!_pos (flatK dV.enc 8 d') j h2,Array.getElem?_eq_getElem h2]
     · rename_i hj
       rw[Array.getElem?_toList,Array.getElem?_eq_none (by rw[hcl]; omega)]
   · obtain⟨c,_,rfl⟩:=List.mem_map.1 hx
     exact⟨rfl,fun h=>by cases h⟩
   · obtain⟨t,ht,rfl⟩:=List.getElem_of_mem hc
     simp only[Array.length_toList,hcl] at ht
     have h1:=RY d' (t / 8) (t % 8) (by rw[hd']; omega) (Nat.mod_lt _ (by omega))
     rw[show t / 8*8+t % 8=t by omega,Array.getElem?_eq_getElem (by rw[hcl]; exact ht)] at h1
     have:=(Aq (d'[t / 8]!).rd).2.1 _ (List.mem_of_getElem? h1.symm)
     simpa using this
   · have ha':a < l.length:=by have:=(List.getElem?_eq_some_iff.1 ha).1; simpa[hd'] using this
     rw[List.getElem?_map,List.getElem?_map,Array.getElem?_toList,Array.getElem?_eq_getElem (by rw[hd']; exact ha')] at ha
     simp only[Option.map_some,Option.some.injEq] at ha
     subst ha
     have hq8:q < 8:=by have:=(List.getElem?_eq_some_iff.1 hq).1; simpa[Ch.t,T.cells] using this
     have h1:=RY d' a q (by rw[hd']; exact ha') hq8
     rw[Array.getElem?_toList] at hu
     rw[hu] at h1
     have hz:d'[a]! =d'[a]'(by rw[hd']; exact ha'):=getElem!_pos _ _ _
     have:=(Aq (d'[a]!).rd).2.2 q y u (by rw[hz]; exact hq) h1.symm
     exact this.mono (fun _ h=>h) hF0
 · show w.drawn≤w.drawn+n
   omega
end
section
open Go.RowKit Go.Proofs
variable [Lv]
abbrev EY:Type:=T×T×Nat
def sA (c:Cf) (t:List (List En)) (es:List EY) (cc:Nat) (i:Int):St:=⟨slots 81 [(1,.t (.sl 1 (gZ t))),(2,.ptr 0 0),(5,.mp 1),(17,.t (.sl 2 (c.w.map Px.t))),(18,.t (i64 (c.w.map Px.t).length)),(19,.t (i64 i))],[.box 56 6 (.t c.t),.map es cc]⟩
def sB (c:Cf) (t:List (List En)) (es:List EY) (cc:Nat) (n i:Int):St:=⟨slots 81 [(1,.t (.sl 1 (gZ t))),(2,.ptr 0 0),(5,.mp 1),(35,.t (i64 n)),(36,.t (i64 i))],[.box 56 6 (.t c.t),.map es cc]⟩
def sC (c:Cf) (t:List (List En)) (es:List EY) (cc:Nat) (n i:Int) (l:List En) (j:Int):St:=⟨slots 81 [(1,.t (.sl 1 (gZ t))),(2,.ptr 0 0),(5,.mp 1),(35,.t (i64 n)),(36,.t (i64 i)),(42,.t (.sl 6 (l.map En.t))),(43,.t (i64 (l.map En.t).length)),(44,.t (i64 j))],[.box 56 6 (.t c.t),.map es cc]⟩
def sX (c:Cf) (t:List (List En)) (es:List EY) (cc:Nat):St:=⟨slots 81 [(1,.t (.sl 1 (gZ t))),(2,.ptr 0 0),(5,.mp 1)],[.box 56 6 (.t c.t),.map es cc]⟩
def sR (c:Cf) (t:List (List En)) (es:List EY) (cc since last:Nat) (seen:List Nat) (r:List Ch):St:=⟨slots 81 [(1,.t (.sl 1 (gZ t))),(2,.ptr 0 0),(11,.own 1),(58,.ptr 2 0)],[.box 56 6 (.t c.t),.row 46 8 (r.map Ch.t),.iter 3 since seen last,.map es cc]⟩
def nxF (st:St) (d:Nat):St:=⟨dK st.tmps (some d) (.t (.au [.bool false])),st.heap⟩
def nxT (st:St) (d l m since cc:Nat) (seen:List Nat) (e:T×T×Nat):St:=⟨dK st.tmps (some d) (.t (.au [.bool true,e.1,e.2.1])),st.heap.set l (.iter m since (seen++ [e.2.2]) cc)⟩
theorem zLA (N:Nat) (c:Cf) (t:List (List En)):Es env 76 [] 3 (dO env N 76 [] 0 3 (oC env 76 [.t c.t,.t (.sl 1 (gZ t))]))=aj.ok (Ex.norm,sA c t [] 0 0):=by kernel_rfl
theorem ajx (N:Nat) (c:Cf) (t:List (List En)) (es:List EY) (cc:Nat) (i:Int):aH env N 76 0 3 (sA c t es cc i)=bif decide (i < (↑(List.map Px.t c.w).length:Int)) then bV (List.map Px.t c.w) i fun e=>chk (e.cells.length==2&& !e.aV) (chk (jv [0,0] e) (eY [0,0] e es (chk (jv [0,0] e) (eY [0,0] e es (chk (decide (cc≤140737488355328)) (aO (iP (es++ [(e,i64 0,cc)]) (↑cc:Int)) fun jO=>match (es++ [(e,i64 0,cc)])[jO]? with|some (k,fst,b)=>aj.ok (Ex.norm,sA c t ((es++ [(e,i64 0,cc)]).set jO (k,i64 1,b)) (cc+1) (IntKind.i64.wrap (i+1)))|none=>aj.stuck)) fun x v b=>chk (decide (b≤140737488355328)) (aO (iP es (↑b:Int)) fun jO=>match es[jO]? with|some (k,fst,b)=>aj.ok (Ex.norm,sA c t (es.set jO (k,i64 1,b)) cc (IntKind.i64.wrap (i+1)))|none=>aj.stuck))) fun x v x_1=>iT IntKind.i64 v fun a=>chk (jv [0,0] e) (eY [0,0] e es (chk (decide (cc≤140737488355328)) (aO (iP (es++ [(e,i64 0,cc)]) (↑cc:Int)) fun jO=>match (es++ [(e,i64 0,cc)])[jO]? with|some (k,fst,b)=>aj.ok (Ex.norm,sA c t ((es++ [(e,i64 0,cc)]).set jO (k,i64 (IntKind.i64.wrap (a+1)),b)) (cc+1) (IntKind.i64.wrap (i+1)))|none=>aj.stuck)) fun x v b=>chk (decide (b≤140737488355328)) (aO (iP es (↑b:Int)) fun jO=>match es[jO]? with|some (k,fst,b)=>aj.ok (Ex.norm,sA c t (es.set jO (k,i64 (IntKind.i64.wrap (a+1)),b)) cc (IntKind.i64.wrap (i+1)))|none=>aj.stuck)))) else aj.ok (Ex.exit 0,sX c t es cc):=by kernel_rfl
theorem zLB (N:Nat) (c:Cf) (t:List (List En)) (es:List EY) (cc:Nat):Es env 76 [] 5 (dO env N 76 [] 4 1 (sX c t es cc))=aj.ok (Ex.norm,sB c t es cc (dh false [(↑(List.map Sd.t c.s).length:Int)] (↑(List.map (fun l=>T.sl 6 (List.map En.t l)) t).length:Int)) 0):=by kernel_rfl
theorem ajy (N:Nat) (c:Cf) (t:List (List En)) (es:List EY) (cc:Nat) (n i:Int):aH env N 76 0 8 (sB c t es cc n i)=bif decide (i < n) then bV (List.map (fun l=>T.sl 6 (List.map En.t l)) t) i fun e=>gY e fun n_1=>nY env N 76 8 11 {tmps:=slots 81 [(1,PV.t (T.sl 1 (List.map (fun l=>T.sl 6 (List.map En.t l)) t))),(2,PV.ptr 0 0),(5,PV.mp 1),(35,PV.t (i64 n)),(36,PV.t (i64 i)),(42,PV.t e),(43,PV.t (i64 n_1)),(44,PV.t (i64 0))],heap:=[ah.box 56 6 (PV.t c.t),ah.map es cc]} else aj.ok (Ex.exit 2,sX c t es cc):=by kernel_rfl
theorem UA (N:Nat) (c:Cf) (t:List (List En)) (es:List EY) (cc:Nat) (n i:Int) (l:List En) (j:Int):nR env N 76 0 8 11 (sC c t es cc n i l j)=bif decide (j < (↑(List.map En.t l).length:Int)) then bV (List.map En.t l) j fun e=>chk (e.cells.length==6&& !e.aV) (chk (jv [0,0] (e.ay 0 2 true)) (eY [0,0] (e.ay 0 2 true) es (chk (jv [0,0] (e.ay 0 2 true)) (eY [0,0] (e.ay 0 2 true) es (chk (decide (cc≤140737488355328)) (aO (iP (es++ [(e.ay 0 2 true,i64 0,cc)]) (↑cc:Int)) fun jO=>match (es++ [(e.ay 0 2 true,i64 0,cc)])[jO]? with|some (k,fst,b)=>aj.ok (Ex.norm,sC c t ((es++ [(e.ay 0 2 true,i64 0,cc)]).set jO (k,i64 1,b)) (cc+1) n i l (IntKind.i64.wrap (j+1)))|none=>aj.stuck)) fun x v b=>chk (decide (b≤140737488355328)) (aO (iP es (↑b:Int)) fun jO=>match es[jO]? with|some (k,fst,b)=>aj.ok (Ex.norm,sC c t (es.set jO (k,i64 1,b)) cc n i l (IntKind.i64.wrap (j+1)))|none=>aj.stuck))) fun x v x_1=>iT IntKind.i64 v fun a=>chk (jv [0,0] (e.ay 0 2 true)) (eY [0,0] (e.ay 0 2 true) es (chk (decide (cc≤140737488355328)) (aO (iP (es++ [(e.ay 0 2 true,i64 0,cc)]) (↑cc:Int)) fun jO=>match (es++ [(e.ay 0 2 true,i64 0,cc)])[jO]? with|some (k,fst,b)=>aj.ok (Ex.norm,sC c t ((es++ [(e.ay 0 2 true,i64 0,cc)]).set jO (k,i64 (IntKind.i64.wrap (a+1)),b)) (cc+1) n i l (IntKind.i64.wrap (j+1)))|none=>aj.stuck)) fun x v b=>chk (decide (b≤140737488355328)) (aO (iP es (↑b:Int)) fun jO=>match es[jO]? with|some (k,fst,b)=>aj.ok (Ex.norm,sC c t (es.set jO (k,i64 (IntKind.i64.wrap (a+1)),b)) cc n i l (IntKind.i64.wrap (j+1)))|none=>aj.stuck)))) else aj.ok (Ex.exit 4,sB c t es cc n i):=by kernel_rfl
theorem NT (N:Nat) (c:Cf) (t:List (List En)) (es:List EY) (cc:Nat) (n i:Int):pR env N 76 0 8 11 (.exit 4) (sB c t es cc n i)=aj.ok (Ex.norm,sB c t es cc n (IntKind.i64.wrap (i+1))):=by kernel_rfl
theorem zLR (N:Nat) (c:Cf) (t:List (List En)) (es:List EY) (cc:Nat):Es env 76 [] 8 (acT env N 76 [] 6 2 (sX c t es cc))=aj.ok (Ex.norm,{tmps:=slots 81 [(1,PV.t (T.sl 1 (List.map (fun l=>T.sl 6 (List.map En.t l)) t))),(2,PV.ptr 0 0),(11,PV.own 1),(58,PV.ptr 2 0)],heap:=[ah.box 56 6 (PV.t c.t),ah.row 46 8 [],ah.iter 3 cc [] cc,ah.map es cc]}):=by kernel_rfl
theorem zLF (N:Nat) (c:Cf) (t:List (List En)) (es:List EY) (cc since last:Nat) (seen:List Nat) (r:List Ch):exX env 76 [] 8 (YA env N 76 [8] 0 1 1 (nxF (sR c t es cc since last seen r) 59))=aj.ok (Ex.exit 6,{tmps:=slots 81 [(11,PV.own 0)],heap:=[ah.row 46 8 (List.map Ch.t r)]}):=by kernel_rfl
def sT (c:Cf) (t:List (List En)) (es:List EY) (cc since:Nat) (seen:List Nat) (r:List Ch) (x:Px) (v:Int):St:=⟨slots 81 [(1,.t (.sl 1 (gZ t))),(2,.ptr 0 0),(11,.own 1),(58,.ptr 2 0),(59,.t (.au [.bool true,x.t,i64 v])),(60,.t (.bool true)),(61,.t (.au [x.t,i64 v]))],[.box 56 6 (.t c.t),.row 46 8 (r.map Ch.t),.iter 3 since seen cc,.map es cc]⟩
def sU (c:Cf) (t:List (List En)) (es:List EY) (cc since:Nat) (seen:List Nat) (r:List Ch) (x:Px) (v:Int) (x1 x2:T) (q:Rt) (b:Bool):St:=⟨slots 81 [(1,.t (.sl 1 (gZ t))),(2,.ptr 0 0),(11,.own 1),(12,.ptr 4 0),(13,.ptr 5 0),(14,.t (.bool b)),(58,.ptr 2 0),(59,.t (.au [.bool true,x.t,i64 v])),(60,.t (.bool true)),(61,.t (.au [x.t,i64 v])),(62,.t x.t),(63,.t x2),(64,.t c.t),(65,.t (.sl 1 (gZ t))),(66,.t x.t),(67,.t x1),(68,.t x2),(69,.t q.t),(70,.t (.bool b)),(71,.t (.bool b))],[.box 56 6 (.t c.t),.row 46 8 (r.map Ch.t),.iter 3 since seen cc,.map es cc,.box 25 2 (.t x.t),.box 44 6 (.t q.t)]⟩
def sE (r:List Ch):St:=⟨slots 81 [(11,.own 0)],[.row 46 8 (r.map Ch.t)]⟩
theorem asL (N:Nat) (c:Cf) (t:List (List En)) (es:List EY) (cc since last:Nat) (seen:List Nat) (r:List Ch) (x:Px) (v:Int) (n:Nat):(YA env N 76 [8] 0 1 1 (nxT (sR c t es cc since last seen r) 59 2 3 since cc seen (x.t,i64 v,n)))=aj.ok (Ex.norm,{tmps:=slots 81 [(1,PV.t (T.sl 1 (List.map (fun l=>T.sl 6 (List.map En.t l)) t))),(2,PV.ptr 0 0),(11,PV.own 1),(58,PV.ptr 2 0),(59,PV.t (T.au [T.bool true,x.t,i64 v])),(60,PV.t (T.bool true))],heap:=[ah.box 56 6 (PV.t c.t),ah.row 46 8 (List.map Ch.t r),ah.iter 3 since (seen++ [n]) cc,ah.map es cc]}):=by kernel_rfl
theorem asM (N:Nat) (c:Cf) (t:List (List En)) (es:List EY) (cc since:Nat) (seen:List Nat) (r:List Ch) (x:Px) (v:Int):(Df env N 76 [8,2] 0 1 2 (sT c t es cc since seen r x v) fun e s=>(.ok (e,s):aj (Ex×St)))=cl N 101 [c.t,T.sl 1 (List.map (fun l=>T.sl 6 (List.map En.t l)) t),x.t] fun x_1=>cl N 100 [x_1] fun x_2=>aG x_2 0 fun y=>aG x_2 1 fun y_1=>chk (y.cells.length==6&& !y.aV) (aj.ok (Ex.norm,{tmps:=slots 81 [(1,PV.t (T.sl 1 (List.map (fun l=>T.sl 6 (List.map En.t l)) t))),(2,PV.ptr 0 0),(11,PV.own 1),(12,PV.ptr 4 0),(13,PV.ptr 5 0),(14,PV.t y_1),(58,PV.ptr 2 0),(59,PV.t (T.au [T.bool true,x.t,i64 v])),(60,PV.t (T.bool true)),(61,PV.t (T.au [x.t,i64 v])),(62,PV.t x.t),(63,PV.t x_2),(64,PV.t c.t),(65,PV.t (T.sl 1 (List.map (fun l=>T.sl 6 (List.map En.t l)) t))),(66,PV.t x.t),(67,PV.t x_1),(68,PV.t x_2),(69,PV.t y),(70,PV.t y_1),(71,PV.t y_1)],heap:=[ah.box 56 6 (PV.t c.t),ah.row 46 8 (List.map Ch.t r),ah.iter 3 since seen cc,ah.map es cc,ah.box 25 2 (PV.t x.t),ah.box 44 6 (PV.t y)]})):=by kernel_rfl
theorem agt (N:Nat) (c:Cf) (t:List (List En)) (es:List EY) (cc since:Nat) (seen:List Nat) (r:List Ch) (x:Px) (v:Int) (x1 x2:T) (q:Rt):(oW env N 76 [8,2] 3 1 (sU c t es cc since seen r x v x1 x2 q false) (zX env 76 [] 8))=aj.ok (Ex.norm,sR c t es cc since cc seen r):=by kernel_rfl
theorem ajg (N:Nat) (c:Cf) (t:List (List En)) (es:List EY) (cc since:Nat) (seen:List Nat) (r:List Ch) (x:Px) (v:Int) (x1 x2:T) (q:Rt):(oW env N 76 [8,2] 3 1 (sU c t es cc since seen r x v x1 x2 q true) (zX env 76 [] 8))=dB (T.oq 8) [T.agg [i64 x.a,i64 x.n,i64 q.n,i64 q.p.o,T.sl 1 (ints q.p.s),i64 q.p.h,i64 q.p.c,i64 q.f]] (chk (decide (((List.map Ch.t r).length+1)*80≤140737488355328)) (aj.ok (Ex.norm,{tmps:=slots 81 [(1,PV.t (T.sl 1 (List.map (fun l=>T.sl 6 (List.map En.t l)) t))),(2,PV.ptr 0 0),(11,PV.own 1),(58,PV.ptr 2 0)],heap:=[ah.box 56 6 (PV.t c.t),ah.row 46 8 (List.map Ch.t r++ [T.agg [i64 x.a,i64 x.n,i64 q.n,i64 q.p.o,T.sl 1 (ints q.p.s),i64 q.p.h,i64 q.p.c,i64 q.f]]),ah.iter 3 since seen cc,ah.map es cc]}))):=by kernel_rfl
theorem zLE (N:Nat):(dO env N 76 [] 9 3 (sE []))=cl N 102 [T.sl 8 [],T.fn 103 [] []] fun x=>chk x.plain (aj.ok (Ex.ret,{tmps:=slots 81 [(4,PV.own 0),(11,PV.own 0),(78,PV.own 0),(79,PV.t x),(80,PV.own 0)],heap:=[ah.row 46 8 []]})):=by kernel_rfl
theorem an7 (N:Nat) (r:List Ch):(akw env N 76 [] 9 0 1 (sE r))=aj.ok {tmps:=slots 81 [(11,PV.own 0),(78,PV.own 0)],heap:=[ah.row 46 8 (List.map Ch.t r)]}:=by kernel_rfl
theorem asK (N:Nat) (r m:List Ch):((akw env N 76 [] 9 0 1 (sE r)).bind fun s=>dO env N 76 [] 10 2 ⟨dK s.tmps (some 79) (.t (.au [])),[.row 46 8 (m.map Ch.t)]⟩)=aj.ok (Ex.ret,{tmps:=slots 81 [(4,PV.own 0),(11,PV.own 0),(78,PV.own 0),(79,PV.t (T.au [])),(80,PV.own 0)],heap:=[ah.row 46 8 (List.map Ch.t m)]}):=by kernel_rfl
end
section
open Go.RowKit Go.Proofs
def CO (ks:List Px) (x:Px):List Px:=if x∈ks then ks else ks++ [x]
theorem U7 {ks:List Px} {x y:Px}:y∈CO ks x↔y∈ks∨y=x:=by
 unfold CO
 split
 · rename_i h
   exact⟨.inl,fun h2=>h2.elim id fun e=>e ▸ h⟩
 · simp
theorem YQ {ks:List Px} {x:Px} (h:ks.Nodup):(CO ks x).Nodup:=by
 unfold CO
 split
 · exact h
 · rename_i hx
   rw[List.nodup_append]
   exact⟨h,by simp,fun a ha b hb e=>by rw[List.mem_singleton.1 hb] at e; exact hx (e ▸ ha)⟩
structure Jc (es:List (T×T×Nat)) (cc:Nat) (ks:List Px):Prop where
 keys:es.map (·.1)=ks.map Px.t
 nd:ks.Nodup
 vals:∀ e∈es,∃ n,e.2.1=i64 n
 st:es.map (·.2.2)=List.range es.length
 cc:cc=es.length
theorem Jc.len {es:List (T×T×Nat)} {cc:Nat} {ks:List Px} (h:Jc es cc ks):es.length=ks.length:=by have:=congrArg List.length h.keys; simpa using this
theorem Jc.at {es:List (T×T×Nat)} {cc:Nat} {ks:List Px} (h:Jc es cc ks) {i:Nat} (hi:i < ks.length):∃ n,es[i]? =some (ks[i].t,i64 n,i):=by
 have hl:=h.len
 have e0:es[i]? =some es[i]:=List.getElem?_eq_getElem (by omega)
 have h1:=congrArg (fun z=>z[i]?) h.keys
 have h2:=congrArg (fun z=>z[i]?) h.st
 simp only[List.getElem?_map,e0,Option.map_some,List.getElem?_eq_getElem hi,Option.some.injEq,List.getElem?_range (show i < es.length by omega)] at h1 h2
 obtain⟨n,hn⟩:=h.vals _ (List.mem_of_getElem? e0)
 refine⟨n,e0.trans (congrArg some ?_)⟩
 generalize es[i]=e at h1 h2 hn
 obtain⟨e1,e2,e3⟩:=e
 simp only at h1 h2 hn
 subst h1; subst h2; subst hn; rfl
theorem UU {x:Px}:∀ (es:List (T×T×Nat)) (ks:List Px) (i:Nat),es.map (·.1)=ks.map Px.t→
 jg [0,0] x.t es i=some (match ks.findIdx? (fun y=>decide (x=y)) with|none=>none|some j=>(es[j]?).map fun e=>(i+j,e.2.1,e.2.2))
 | [],[],i,_=>rfl
 | [],_::_,_,h=>by simp at h
 |_::_,[],_,h=>by simp at h
 |e::es,k::ks,i,h=>by
  simp only[List.map_cons,List.cons.injEq] at h
  unfold jg
  rw[h.1,show T.flat [0,0] x.t= [i64 x.a,i64 x.n] from rfl,show T.flat [0,0] k.t= [i64 k.a,i64 k.n] from rfl,J4,List.findIdx?_cons]
  by_cases hx:x=k
  · rw[decide_eq_true hx]; simp
  · rw[decide_eq_false hx]
    simp only[Bool.false_eq_true,if_false]
    rw[UU es ks (i+1) h.2]
    cases ks.findIdx? (fun y=>decide (x=y)) with
    |none=>rfl
    |some j=>
     simp only[Option.map_some,List.getElem?_cons_succ]
     cases es[j]? with
     |none=>rfl
     |some e'=>simp only[Option.map_some]; congr 3; omega
theorem VK {es:List (T×T×Nat)} {i:Nat} (h:es.map (·.2.2)=List.range es.length) (hi:i < es.length):iP es (i:Int)=some i:=by
 unfold iP
 rw[List.findIdx?_eq_some_iff_getElem]
 have hg:∀ j (hj:j < es.length),es[j].2.2=j:=fun j hj=>by
  have:=congrArg (fun z=>z[j]?) h
  simpa[List.getElem?_range hj,List.getElem?_eq_getElem hj] using this
 refine⟨hi,by rw[hg i hi]; simp,fun j hj=>?_⟩
 rw[hg j (by omega)]
 simp; omega
section
variable {β:Type}
def Yf (e:T) (es:List (T×T×Nat)) (cc:Nat) (G:List (T×T×Nat)→Nat→aj β):aj β:=
 chk (jv [0,0] e) (eY [0,0] e es (chk (jv [0,0] e) (eY [0,0] e es (chk (decide (cc≤140737488355328)) (aO (iP (es++ [(e,i64 0,cc)]) (cc:Int)) fun i=>match (es++ [(e,i64 0,cc)])[i]? with|some (k,_,b)=>G ((es++ [(e,i64 0,cc)]).set i (k,i64 1,b)) (cc+1)|none=>aj.stuck))
  fun _ _ b=>chk (decide (b≤140737488355328)) (aO (iP es (b:Int)) fun i=>match es[i]? with|some (k,_,b)=>G (es.set i (k,i64 1,b)) cc|none=>aj.stuck)))
  fun _ v _=>iT IntKind.i64 v fun a=>chk (jv [0,0] e) (eY [0,0] e es (chk (decide (cc≤140737488355328)) (aO (iP (es++ [(e,i64 0,cc)]) (cc:Int)) fun i=>match (es++ [(e,i64 0,cc)])[i]? with|some (k,_,b)=>G ((es++ [(e,i64 0,cc)]).set i (k,i64 (IntKind.i64.wrap (a+1)),b)) (cc+1)|none=>aj.stuck))
   fun _ _ b=>chk (decide (b≤140737488355328)) (aO (iP es (b:Int)) fun i=>match es[i]? with|some (k,_,b)=>G (es.set i (k,i64 (IntKind.i64.wrap (a+1)),b)) cc|none=>aj.stuck)))
def xw (p:List (T×T×Nat)×Nat) (x:Px):List (T×T×Nat)×Nat:=match jg [0,0] x.t p.1 0 with
 |some (some (i,.int .i64 a,b))=>(p.1.set i (x.t,i64 (IntKind.i64.wrap (a+1)),b),p.2)
 |_=>(p.1++ [(x.t,i64 1,p.2)],p.2+1)
theorem ahn {es:List (T×T×Nat)} {cc:Nat} {ks:List Px} {x:Px} (h:Jc es cc ks) (hc:cc≤big):(∀ G:List (T×T×Nat)→Nat→aj β,Yf x.t es cc G=G (xw (es,cc) x).1 (xw (es,cc) x).2)∧Jc (xw (es,cc) x).1 (xw (es,cc) x).2 (CO ks x):=by
 have hf:=UU (x:=x) es ks 0 h.keys
 have hlen:=h.len
 have hcc:=h.cc
 have hb:cc≤140737488355328:=by have:=aQ; omega
 cases hk:ks.findIdx? (fun y=>decide (x=y)) with
 |none=>
  rw[hk] at hf
  simp only at hf
  have hx:x∉ks:=fun hx=>by
   have:=List.findIdx?_eq_none_iff.1 hk x hx
   simp at this
  have hbf:xw (es,cc) x=(es++ [(x.t,i64 1,cc)],cc+1):=by unfold xw; simp only[hf]
  have hst:(es++ [(x.t,i64 0,cc)]).map (·.2.2)=List.range (es++ [(x.t,i64 0,cc)]).length:=by
   rw[List.map_append,h.st,List.length_append]
   show List.range es.length++ [cc]=List.range (es.length+1)
   rw[List.range_succ,hcc]
  have hs:=VK (i:=cc) hst (by simp; omega)
  rw[hbf]
  refine⟨fun G=>?_,?_⟩
  · unfold Yf
    rw[Rf,aI]
    unfold eY
    rw[hf]
    simp only[aI]
    rw[decide_eq_true hb,aI,hs]
    simp only[aO]
    rw[hcc,List.getElem?_append_right (Nat.le_refl _),Nat.sub_self]
    simp only[List.getElem?_cons_zero]
    rw[List.set_append_right _ _ (Nat.le_refl _),Nat.sub_self]
    rfl
  · unfold CO
    rw[if_neg hx]
    refine⟨by rw[List.map_append,List.map_append,h.keys]; rfl,?_,fun e he=>?_,?_,by simp[hcc]⟩
    · have:=YQ (x:=x) h.nd; unfold CO at this; rwa [if_neg hx] at this
    · rcases List.mem_append.1 he with he|he
      · exact h.vals e he
      · rw[List.mem_singleton.1 he]; exact⟨1,rfl⟩
    · rw[List.map_append,h.st,List.length_append]
      show List.range es.length++ [cc]=List.range (es.length+1)
      rw[List.range_succ,hcc]
 |some j=>
  rw[hk] at hf
  obtain⟨hj,XV,_⟩:=List.findIdx?_eq_some_iff_getElem.1 hk
  have hxk:x=ks[j]:=by simpa using XV
  obtain⟨a,ha⟩:=h.at hj
  rw[←hxk] at ha
  simp only[ha,Option.map_some,Nat.zero_add] at hf
  have hs:=VK (i:=j) h.st (by omega)
  have hbf:xw (es,cc) x=(es.set j (x.t,i64 (IntKind.i64.wrap (a+1)),j),cc):=by unfold xw; simp only[hf]
  have hjb:decide (j≤140737488355328)=true:=decide_eq_true (by omega)
  rw[hbf]
  refine⟨fun G=>?_,?_⟩
  · unfold Yf
    rw[Rf,aI]
    unfold eY
    rw[hf]
    simp only[aI,bW]
    rw[hjb,aI,hs]
    simp only[aO,ha]
  · unfold CO
    rw[if_pos (by rw[hxk]; exact List.getElem_mem _)]
    refine⟨?_,h.nd,fun e he=>?_,?_,by simp[hcc]⟩
    · rw[List.map_set,h.keys]
      refine List.ext_getElem? fun i=>?_
      rw[List.getElem?_set]
      split
      · rename_i e; subst e
        rw[List.length_map]
        split
        · rw[List.getElem?_map,List.getElem?_eq_getElem hj,hxk]; rfl
        · omega
      · rfl
    · rcases List.mem_or_eq_of_mem_set he with he|he
      · exact h.vals e he
      · rw[he]; exact⟨_,rfl⟩
    · rw[List.map_set,h.st,List.length_set]
      refine List.ext_getElem? fun i=>?_
      rw[List.getElem?_set]
      split
      · rename_i e; subst e
        rw[List.length_range]
        split
        · rw[List.getElem?_range (by omega)]
        · omega
      · rfl
end
theorem EI:∀ (n:Nat) (l:List Nat),l.Nodup→(∀ x∈l,x < n)→l.length≤n
 |0,[],_,_=>Nat.le_refl _
 |0,x::l,_,h=>absurd (h x List.mem_cons_self) (Nat.not_lt_zero _)
 |n+1,l,hn,h=>by
  by_cases hm:n∈l
  · have h1:=EI n (l.erase n) (hn.erase n) fun x hx=>by
     have h2:=h x (List.mem_of_mem_erase hx)
     have h3:x≠n:=fun e=>by rw[e] at hx; exact(List.Nodup.not_mem_erase hn) hx
     omega
    rw[List.length_erase_of_mem hm] at h1
    omega
  · exact Nat.le_succ_of_le (EI n l hn fun x hx=>by
     have h2:=h x hx
     have h3:x≠n:=fun e=>hm (e ▸ hx)
     omega)
end
section
open Go.RowKit Go.Proofs
def MI (p:List (T×T×Nat)×Nat) (P:Px→Prop):Prop:=∃ ks,Jc p.1 p.2 ks∧∀ y,y∈ks↔P y
theorem MI.iff {p:List (T×T×Nat)×Nat} {P P':Px→Prop} (h:MI p P) (e:∀ y,P y↔P' y):MI p P':=by
 obtain⟨ks,h1,h2⟩:=h
 exact⟨ks,h1,fun y=>(h2 y).trans (e y)⟩
theorem GZ {α:Type} [DecidableEq α]:∀ (l m:List α),l.Nodup→(∀ x∈l,x∈m)→l.length≤m.length
 | [],m,_,_=>Nat.zero_le _
 |x::l,m,h,hm=>by
  obtain⟨h1,h2⟩:=List.nodup_cons.1 h
  have hx:=hm x List.mem_cons_self
  have:=GZ l (m.erase x) h2 fun y hy=>(List.mem_erase_of_ne (fun(e:y=x)=>h1 (by rw[←e]; exact hy))).2 (hm y (List.mem_cons_of_mem _ hy))
  rw[List.length_erase_of_mem hx] at this
  have:=List.length_pos_of_mem hx
  simp only[List.length_cons]; omega
theorem aao {β:Type} {p:List (T×T×Nat)×Nat} {P:Px→Prop} {x:Px} {L:List Px} (h:MI p P) (hs:∀ y,P y→y∈L) (hL:L.length≤big):(∀ G:List (T×T×Nat)→Nat→aj β,Yf x.t p.1 p.2 G=G (xw p x).1 (xw p x).2)∧MI (xw p x) (fun y=>P y∨y=x):=by
 obtain⟨ks,h1,h2⟩:=h
 have hl:ks.length≤L.length:=GZ ks L h1.nd fun y hy=>hs y ((h2 y).1 hy)
 have hc:p.2≤big:=by have:=h1.cc; have:=h1.len; omega
 obtain⟨b1,b2⟩:=ahn (β:=β) (x:=x) h1 hc
 exact⟨b1,_,b2,fun y=>by rw[U7,h2]⟩
theorem Dt {α:Type} {l:List α} {j:Nat} {x y:α} (h:l[j]? =some x):(y∈l.take j∨y=x)↔y∈l.take (j+1):=by
 rw[List.take_add_one,h]; simp
variable [Lv]
theorem aqj {N:Nat} {c:Cf} {t:List (List En)} (hN:big+80≤N) (h:c.ok) (hL:(iZ c t).length≤big):∃ p,bH (nS env N 76 [] 3) N (sA c t [] 0 0)= .ok (.exit 0,sX c t p.1 p.2)∧MI p (fun y=>y∈c.w):=by
 have hbig:=aQ
 have hbw:=h.w.1
 have e:nS env N 76 [] 3=aH env N 76 0 3:=by kernel_rfl
 rw[e]
 obtain⟨h1,h2⟩:=lW (B:=aH env N 76 0 3) (S:=fun(p:List (T×T×Nat)×Nat) j=>sA c t p.1 p.2 (j:Int)) (X:=fun p=>sX c t p.1 p.2) (id:=0) (fun p j=>MI p fun y=>y∈c.w.take j) xw c.w (n:=N) ([],0) (by omega) (fun p j x hx hI=>by
  have hj:j < c.w.length:=(List.getElem?_eq_some_iff.1 hx).1
  obtain⟨b1,b2⟩:=aao (β:=Ex×St) (x:=x) (L:=iZ c t) hI (fun y hy=>List.mem_append_left _ (List.mem_of_mem_take hy)) hL
  refine⟨?_,b2.iff fun y=>Dt hx⟩
  refine(ajx _ _ _ _ _ _).trans ?_
  rw[decide_eq_true (show(j:Int) < ((c.w.map Px.t).length:Int) by rw[List.length_map]; omega)]
  simp only[cond_true]
  rw[aA (aC hx),show(x.t.cells.length==2&& !x.t.aV)=true from rfl,aI,wrap_succ (show j≤big by omega)]
  exact b1 fun es cc=>aj.ok (Ex.norm,sA c t es cc ((j+1:Nat):Int))) (fun p hI=>by
  refine(ajx _ _ _ _ _ _).trans ?_
  rw[decide_eq_false (show ¬ ((c.w.length:Nat):Int) < ((c.w.map Px.t).length:Int) by rw[List.length_map]; omega)]
  rfl) ⟨[],⟨rfl,List.nodup_nil,by simp,rfl,rfl⟩,by simp⟩
 exact⟨_,h1,h2.iff fun y=>by rw[List.take_length]⟩
theorem aql {N j:Nat} {c:Cf} {t:List (List En)} {n:Int} {p:List (T×T×Nat)×Nat} {r:List En} {P:Px→Prop} (hN:big+80≤N) (hbr:r.length≤big) (e1:t[j]? =some r) (hI:MI p P) (hP:∀ y,P y→y∈iZ c t) (hr:∀ e∈r,e.x∈iZ c t) (hL:(iZ c t).length≤big):
 ∃ p',nY env N 76 8 11 (sC c t p.1 p.2 n (j:Int) r 0)=pR env N 76 0 8 11 (.exit 4) (sB c t p'.1 p'.2 n (j:Int))∧MI p' (fun y=>P y∨y∈r.map En.x):=by
 have hbig:=aQ
 obtain⟨h1,h2⟩:=lW (B:=nR env N 76 0 8 11) (S:=fun(p:List (T×T×Nat)×Nat) k=>sC c t p.1 p.2 n (j:Int) r (k:Int)) (X:=fun p=>sB c t p.1 p.2 n (j:Int)) (id:=4) (fun p k=>MI p fun y=>P y∨y∈(r.map En.x).take k) (fun p e=>xw p e.x) r (n:=N) p (by omega) (fun p k e he hI=>by
  have hk:k < r.length:=(List.getElem?_eq_some_iff.1 he).1
  obtain⟨b1,b2⟩:=aao (β:=Ex×St) (x:=e.x) (L:=iZ c t) hI (fun y hy=>hy.elim (hP y) fun hy=>by
   obtain⟨e',he',rfl⟩:=List.mem_map.1 (List.mem_of_mem_take hy)
   exact hr e' he') hL
  refine⟨?_,b2.iff fun y=>by rw[or_assoc,Dt (l:=r.map En.x) (x:=e.x) (by rw[List.getElem?_map,he]; rfl)]⟩
  refine(UA _ _ _ _ _ _ _ _ _).trans ?_
  rw[decide_eq_true (show(k:Int) < ((r.map En.t).length:Int) by rw[List.length_map]; omega)]
  simp only[cond_true]
  rw[aA (aC he),show(e.t.cells.length==6&& !e.t.aV)=true from rfl,aI,wrap_succ (show k≤big by omega)]
  exact b1 fun es cc=>aj.ok (Ex.norm,sC c t es cc n (j:Int) r ((k+1:Nat):Int))) (fun p hI=>by
  refine(UA _ _ _ _ _ _ _ _ _).trans ?_
  rw[decide_eq_false (show ¬ ((r.length:Nat):Int) < ((r.map En.t).length:Int) by rw[List.length_map]; omega)]
  rfl) (hI.iff fun y=>by simp)
 exact⟨_,kU h1,h2.iff fun y=>by rw[List.take_of_length_le (by simp)]⟩
theorem aqk {N:Nat} {c:Cf} {t:List (List En)} {p:List (T×T×Nat)×Nat} (hN:big+80≤N) (h:c.ok) (ht:FH t) (hI:MI p fun y=>y∈c.w) (hL:(iZ c t).length≤big):
 ∃ p',bH (nS env N 76 [] 5) N (sB c t p.1 p.2 (dh false [((c.s.map Sd.t).length:Int)] ((t.map fun l=>T.sl 6 (l.map En.t)).length:Int)) 0)= .ok (.exit 2,sX c t p'.1 p'.2)∧MI p' (fun y=>y∈iZ c t):=by
 have hbig:=aQ
 have hbt:=ht.1
 have hbs:=h.s.1
 have e:nS env N 76 [] 5=aH env N 76 0 8:=by kernel_rfl
 rw[e,LK,List.length_map,List.length_map]
 generalize hn:((min t.length c.s.length:Nat):Int)=n
 have hget:∀ {j:Nat} {r:List En},(t.take c.s.length)[j]? =some r→t[j]? =some r∧j < c.s.length∧j < t.length:=fun {j r} hr=>by
  rw[List.getElem?_take] at hr
  split at hr
  · exact⟨hr,by assumption,(List.getElem?_eq_some_iff.1 hr).1⟩
  · cases hr
 have hmono:∀ j y,(y∈c.w∨y∈((t.take c.s.length).take j).flatMap fun l=>l.map En.x)→y∈iZ c t:=fun j y hy=>by
  unfold iZ
  rw[List.mem_append]
  refine hy.imp id fun hy=>?_
  obtain⟨l,h1,h2⟩:=List.mem_flatMap.1 hy
  exact List.mem_flatMap.2 ⟨l,List.mem_of_mem_take h1,h2⟩
 have main:∀ (p:List (T×T×Nat)×Nat) (j:Nat) (r:List En),(t.take c.s.length)[j]? =some r→MI p (fun y=>y∈c.w∨y∈((t.take c.s.length).take j).flatMap fun l=>l.map En.x)→
  ∃ p',aH env N 76 0 8 (sB c t p.1 p.2 n (j:Int))= .ok (.norm,sB c t p'.1 p'.2 n ((j+1:Nat):Int))∧MI p' (fun y=>y∈c.w∨y∈((t.take c.s.length).take (j+1)).flatMap fun l=>l.map En.x):=fun p j r hr hI=>by
  obtain⟨e1,hj1,hj2⟩:=hget hr
  obtain⟨p',f1,f2⟩:=aql (n:=n) hN (ht.2 r (List.mem_of_getElem? e1)).1 e1 hI (hmono j) (fun e he=>by
   unfold iZ
   exact List.mem_append_right _ (List.mem_flatMap.2 ⟨r,List.mem_of_getElem? hr,List.mem_map_of_mem he⟩)) hL
  refine⟨p',?_,f2.iff fun y=>?_⟩
  · refine(ajy _ _ _ _ _ _ _).trans ?_
    rw[decide_eq_true (show(j:Int) < n by omega)]
    simp only[cond_true]
    rw[aA (qU e1)]
    simp only[gY]
    refine f1.trans ?_
    rw[←wrap_succ (show j≤big by omega)]
    exact NT _ _ _ _ _ _ _
  · rw[List.take_add_one,hr,List.flatMap_append]
    simp[or_assoc]
 have run:∀ (k j:Nat) (M:Nat) (p:List (T×T×Nat)×Nat),j+k=(t.take c.s.length).length→k < M→MI p (fun y=>y∈c.w∨y∈((t.take c.s.length).take j).flatMap fun l=>l.map En.x)→
  ∃ p',bH (aH env N 76 0 8) M (sB c t p.1 p.2 n (j:Int))= .ok (.exit 2,sX c t p'.1 p'.2)∧MI p' (fun y=>y∈iZ c t):=by
  intro k
  induction k with
  |zero=>
   intro j M p hj hM hI
   obtain⟨M,rfl⟩:∃ M',M=M'+1:=⟨M - 1,by omega⟩
   refine⟨p,eH ?_,hI.iff fun y=>?_⟩
   · refine(ajy _ _ _ _ _ _ _).trans ?_
     rw[List.length_take] at hj
     rw[decide_eq_false (show ¬ (j:Int) < n by omega)]
     rfl
   · unfold iZ
     rw[List.take_of_length_le (by omega),List.mem_append]
  |succ k ih=>
   intro j M p hj hM hI
   obtain⟨M,rfl⟩:∃ M',M=M'+1:=⟨M - 1,by omega⟩
   have hlt:j < (t.take c.s.length).length:=by omega
   obtain⟨p1,g1,g2⟩:=main p j _ (List.getElem?_eq_getElem hlt) hI
   obtain⟨p2,g3,g4⟩:=ih (j+1) M p1 (by omega) (by omega) g2
   refine⟨p2,?_,g4⟩
   simp only[bH]
   rw[g1]
   exact g3
 exact run (t.take c.s.length).length 0 N p (by omega) (by rw[List.length_take]; omega) (hI.iff fun y=>by simp)
end
end Go.aP
