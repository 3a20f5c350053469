/- The texts of a proof, one behind the other: an interpreter and its soundness, what the functions of the program answer, and plain laws on that. -/
import Derived.Test.YtjlpnhpfbgbkhaaGreatX8
import Derived.Test.YtjlpnhpfbgbkhaaGreatX6
import Derived.Test.YtjlpnhpfbgbkhaaGreatX7
import Derived.Test.YtjlpnhpfbgbkhaaGreatProg
import Derived.Shelf.SlSortCmp.WholeK
import Derived.Test.YtjlpnhpfbgbkhaaGreatK8
import Derived.Lib.QuietBelow
import Derived.Test.YtjlpnhpfbgbkhaaGreatK9
import Derived.Test.YtjlpnhpfbgbkhaaGreatX1
set_option linter.unusedVariables false
set_option linter.unusedSimpArgs false
set_option linter.unnecessarySimpa false
set_option linter.unusedSectionVars false
set_option maxRecDepth 100000
namespace Go.aT
section
open Go.RowKit Go.Proofs
def aw2 (t:List (List En)):Bool:= !(t.any fun l=> !aqB l)&&decide (t.length≤10)
def X7 (l:List Ch):Bool:= !(l.any fun c=>decide (c.r.p.s.length > 100))&&decide (l.length≤60)
variable [Lv]
theorem abx {l:List Ch} {x:Px} {p:Nat→Bool} (hp:∀ j c,l[j]? =some c→p j=decide (c.x=x)):pz l x=((dF p 0 l.length).bind fun j=>l[j]?).map Ch.r:=by
 unfold pz
 rw[F7 (fun c:Ch=>c.x==x) l 0 p fun j c hc=>by rw[Nat.zero_add,hp j c hc,Bool.eq_iff_iff]; simp]
 simp
theorem alU {M:Nat} {l:List Ch} (hM:big+1≤M) (hl:cO Ch.ok l):ak env (M+1) 34 [.sl 8 (l.map Ch.t)]= .ok (.bool (X7 l)):=by
 obtain⟨m,rfl⟩:=dJ (show 1≤M by omega)
 have hb:=hl.1
 rw[q34,aX (gJ (dD (fun _ h=>Ch.ok.wf h) hl))]
 have:=DF (N:=m+1) (F:=34) (r:=2) (id:=0) (S:=fun j=>sFC l (j:Int)) (fun c:Ch=>decide (c.r.p.s.length > 100)) l (by omega) (fun j c hc=>by
  have hj:j < l.length:=(List.getElem?_eq_some_iff.1 hc).1
  rw[ajF,decide_eq_true (by rw[List.length_map]; omega)]
  simp only[cond_true]
  rw[aA (aC hc),show c.t.ay 4 1 false= .sl 1 (ints c.r.p.s) from rfl]
  simp only[iO]
  rw[wrap_succ (show j≤big by omega),show decide (((ints c.r.p.s).length:Int) > 100)=decide (c.r.p.s.length > 100) by rw[bg,List.length_map]; exact decide_eq_decide.2 (by omega)]) (by
  rw[ajF,decide_eq_false (by rw[List.length_map]; omega)]; rfl) (ac2 _ _) (WI _ _)
 refine this.trans ?_
 unfold X7
 rw[show decide (((List.map Ch.t l).length:Int)≤60)=decide (l.length≤60) by rw[List.length_map]; exact decide_eq_decide.2 (by omega)]
 cases l.any fun c:Ch=>decide (c.r.p.s.length > 100)<;>rfl
theorem alW {M:Nat} {l:List Ch} {x:Px} (hM:big+1≤M) (hl:cO Ch.ok l) (hx:x.ok):ak env (M+1) 38 [.sl 8 (l.map Ch.t),x.t]= .ok (I5 (pz l x)):=by
 obtain⟨m,rfl⟩:=dJ (show 1≤M by omega)
 have hb:=hl.1
 rw[q38,aX (dM (dD (fun _ h=>Ch.ok.wf h) hl) hx.wf)]
 let p:Nat→Bool:=fun j=>match l[j]? with|some c=>decide (c.x=x)|none=>false
 have hp:∀ j c,l[j]? =some c→p j=decide (c.x=x):=fun j c hc=>by show(match l[j]? with|some c=>decide (c.x=x)|none=>false)=_; rw[hc]
 have:=J9 (N:=m+1) (F:=38) (r:=2) (id:=0) (S:=fun j=>sGt l x (j:Int)) (R:=fun j=>⟨slots 26 [(4,.ptr 0 0),(5,.t (.bool true))],[.box 44 6 (.t (l.getD j ⟨⟨0,0⟩,zRt⟩).r.t)]⟩)
  (X:=⟨slots 26 [(4,.ptr 0 0)],[.box 44 6 (.agg [.t (i64 0),.t (i64 0),.own 1,.t (i64 0),.t (i64 0),.t (i64 0)]),.row 3 1 []]⟩) p (k:=l.length) (by omega) (fun j hj=>by
  have e1:l[j]? =some l[j]:=List.getElem?_eq_getElem hj
  rw[ajG,decide_eq_true (by rw[List.length_map]; omega)]
  simp only[cond_true]
  rw[aA (aC e1),akJ,yT,hp j _ e1]
  simp only[]
  cases decide (l[j].x=x) with
  |true=>
   simp only[cond_true]
   rw[aA (aC e1),akI,tq,aN,List.getD_eq_getElem?_getD,e1]; rfl
  |false=>rw[wrap_succ (show j≤big by omega)]; rfl) (by rw[ajG,decide_eq_false (by rw[List.length_map]; omega)]; rfl)
 refine this.trans ?_
 rw[abx hp]
 cases hs:dF p 0 l.length with
 |none=>exact WJ _
 |some j=>
  have hj:j < l.length:=by have:=(iK hs).2.1; omega
  have e1:l[j]? =some l[j]:=List.getElem?_eq_getElem hj
  simp only[Option.bind_some]
  rw[List.getD_eq_getElem?_getD,e1]
  exact ac3 _ _ _
theorem alX {M:Nat} {l m:List Ch} (hM:big+5≤M) (hl:cO Ch.ok l) (hm:cO Ch.ok m):ak env (M+1) 41 [.sl 8 (l.map Ch.t),.sl 8 (m.map Ch.t)]= .ok (.bool (decide (l=m))):=by
 obtain⟨k,rfl⟩:=dJ (show 1≤M by omega)
 have hbl:=hl.1
 have hbm:=hm.1
 rw[q41,aX (dM (dD (fun _ h=>Ch.ok.wf h) hl) (dD (fun _ h=>Ch.ok.wf h) hm)),←Ac (q:=fun a b=>decide (a=b)) (by simp) l m,List.length_map,List.length_map]
 by_cases h:l.length=m.length
 · rw[if_pos h,show((l.length:Int) !=(m.length:Int))=false by rw[h]; simp]
   simp only[cond_false]
   refine zZ (S:=fun i=>sSm l m (i:Int)) (R:=⟨slots 42 [(4,.t (.bool false))],[]⟩) (X:=⟨slots 42 [],[]⟩) (id:=0) _ (by omega) h (fun j x y hx hy=>?_) ?_ (ac4 _ _) (WL _)
   · have hj:j < l.length:=(List.getElem?_eq_some_iff.1 hx).1
     have e:decide (x=y)=(decide (x.x=y.x)&&decide (x.r=y.r)):=by
      rw[Bool.eq_iff_iff]
      simp only[decide_eq_true_eq,Bool.and_eq_true]
      obtain⟨a,b⟩:=x
      obtain⟨a',b'⟩:=y
      simp
     rw[ajH,decide_eq_true (by rw[List.length_map]; omega),e]
     simp only[cond_true]
     rw[aA (aC hx),aA (aC hy),akJ,akJ,show y.x.t.cells= [i64 y.x.a,i64 y.x.n] from rfl,yT]
     simp only[]
     cases decide (x.x=y.x) with
     |false=>rfl
     |true=>
      simp only[Bool.not_true,cond_false,Bool.true_and]
      rw[aA (aC hx),aA (aC hy),akI,akI,bJ (ama (by omega) (hl.2 x (List.mem_of_getElem? hx)).r (hm.2 y (List.mem_of_getElem? hy)).r),wrap_succ (show j≤big by omega)]
   · rw[ajH,decide_eq_false (by rw[List.length_map]; omega)]; rfl
 · rw[if_neg h,show((l.length:Int) !=(m.length:Int))=true by simp; omega]; rfl
def yx (c:Cf) (x:Px) (r:List Rt) (y:Px):List Rt:=if y=x then r++ [yA c.d] else r
theorem af2 {c:Cf} (h:dH c=true) (x:Px):c.w.foldl (yx c x) []=if c.w.contains x then[yA c.d] else[]:=by
 have hf:ji id dB [] c.w=true:=by
  unfold dH at h
  simp only[Bool.and_eq_true] at h
  exact h.2.2.2.2.2.2.2.1
 have hn:=(yj.1 hf)
 have hnd:c.w.Nodup:=by
  rw[List.nodup_iff_pairwise_ne,List.pairwise_iff_getElem]
  intro i j hi hj hij he
  have h3:=(hn j c.w[j] (List.getElem?_eq_getElem hj)).1
  have h4:([]++(c.w.take j).map id).contains (id c.w[j])=true:=by
   rw[List.nil_append,List.map_id,id,List.contains_iff_mem,←he]
   exact List.mem_take_iff_getElem.2 ⟨i,by omega,rfl⟩
  rw[h4] at h3
  cases h3
 clear hf hn h
 have main:∀ (l:List Px) (r:List Rt),l.Nodup→l.foldl (yx c x) r=r++if l.contains x then[yA c.d] else[]:=by
  intro l
  induction l with
  |nil=>intro r _; simp
  |cons y l ih=>
   intro r hl
   obtain⟨h1,h2⟩:=List.nodup_cons.1 hl
   rw[List.foldl_cons,ih _ h2]
   unfold yx
   by_cases e:y=x
   · subst e
     have:l.contains y=false:=by rw[Bool.eq_false_iff]; intro h; exact h1 (List.contains_iff_mem.1 h)
     rw[if_pos rfl,this,show(y::l).contains y=true by simp]; simp
   · rw[if_neg e]
     have:(y::l).contains x=l.contains x:=by rw[List.contains_cons,show(x==y)=false by simp; exact fun h=>e h.symm]; rfl
     rw[this]
 rw[main _ _ hnd]; simp
theorem amd {M:Nat} {c:Cf} {t:List (List En)} {x:Px} (hM:big+70≤M) (h:c.ok) (ht:DY t) (hx:x.ok):ak env (M+1) 79 [c.t,.sl 1 (fP t),x.t]= .ok (.sl 6 ((gu c t x).map Rt.t)):=by
 obtain⟨m,rfl⟩:=dJ (show 1≤M by omega)
 have hbt:=ht.1
 have hbs:=h.s.1
 have hbw:=h.w.1
 have hbig:=aU
 rw[q79,aX (yG h.wf ht.wf hx.wf),bJ (Qr (by omega) h)]
 unfold gu
 cases hc:dH c with
 |false=>rfl
 |true=>
  have hs8:c.s.length≤8:=(ou hc).2.2.2.2
  have hw8:c.w.length≤8:=by
   have h:=hc
   unfold dH at h
   simp only[Bool.and_eq_true,decide_eq_true_eq] at h
   exact h.2.2.2.2.2.1
  simp only[Bool.not_true,cond_false,if_true]
  have c6:∀ (q:Rt) (K:ah (Ex×St)),bW (T.mF 6) [q.t] K=K:=fun q K=>rfl
  have app:∀ (r:List Rt) (q:Rt),r.map Rt.t++ [q.t]=(r++ [q]).map Rt.t:=fun r q=>by simp
  have f1:=oV (N:=m+1) (F:=79) (r:=5) (id:=0) (S:=fun(r:List Rt) j=>ak8 c t x r (j:Int)) (X:=fun r=>⟨slots 76 [(1,.t (.sl 1 (fP t))),(3,.ptr 0 0),(5,.ptr 1 0),(7,.own 2)],[.box 56 6 (.t c.t),.box 25 2 (.t x.t),.row 44 6 (r.map Rt.t)]⟩)
   (fun(r:List Rt) j=>r.length≤j) (yx c x) c.w [] (by omega) (fun r j y hy hI=>by
    have hj:j < c.w.length:=(List.getElem?_eq_some_iff.1 hy).1
    rw[ajW,decide_eq_true (by rw[List.length_map]; omega)]
    simp only[cond_true]
    rw[aA (aC hy),yT]
    simp only[]
    unfold yx
    by_cases e:y=x
    · rw[decide_eq_true e,if_pos e]
      simp only[cond_true]
      rw[aH (ahK h.d),c6,decide_eq_true (by rw[List.length_map]; omega),aN,app,wrap_succ (show j≤big by omega)]
      exact⟨rfl,by simp; omega⟩
    · rw[decide_eq_false e,if_neg e,wrap_succ (show j≤big by omega)]
      exact⟨rfl,by omega⟩) (fun r hI=>by rw[ajW,decide_eq_false (by rw[List.length_map]; omega)]; rfl) (by simp)
  refine f1.1.trans ((Xc _ _ _ _ _).trans ?_)
  have hol:=f1.2
  rw[af2 hc] at hol ⊢
  have hr0:(if c.w.contains x then[yA c.d] else[]).length≤1:=by split<;>simp
  generalize (if c.w.contains x then[yA c.d] else[])=r0 at hr0
  have:=oV (N:=m+1) (F:=79) (r:=10) (id:=2) (S:=fun(r:List Rt) j=>acI c t x r (j:Int)) (X:=fun r=>⟨slots 76 [(7,.own 0)],[.row 44 6 (r.map Rt.t)]⟩) (fun(r:List Rt) j=>r.length≤j+1) (fun r k=>r++AQ c t x k) (List.range (min t.length c.s.length)) r0 (by rw[List.length_range]; omega)
   (fun r j k hk hI=>by
    have hk':j < min t.length c.s.length:=by have:=(List.getElem?_eq_some_iff.1 hk).1; simpa using this
    obtain rfl:j=k:=by rw[List.getElem?_range hk'] at hk; simpa using hk
    have hjt:j < t.length:=by omega
    have e1:t[j]? =some t[j]:=List.getElem?_eq_getElem hjt
    have hl:=ht.2 _ (List.getElem_mem hjt)
    have hko:aV (j:Int)=true:=iH.2 (by omega)
    rw[aes,decide_eq_true (by rw[List.length_map]; omega),decide_eq_true (by rw[List.length_map]; omega)]
    simp only[cond_true]
    rw[aA (qN e1),aH (ahL (by omega) hl hx)]
    simp only[aG,List.getElem?_cons_zero,List.getElem?_cons_succ,XP,aN]
    have hp:((pF t[j] x).getD Pa.none).ok:=ams hl.2
    rw[aH (ahM (by omega) h hko hx hp),I7]
    simp only[aG,List.getElem?_cons_zero,List.getElem?_cons_succ,tq,aN,jW]
    rw[wrap_succ (show j≤big by omega)]
    cases hg:pF t[j] x with
    |none=>
     have:AQ c t x j= []:=by unfold AQ; rw[e1,Option.bind_some,hg]; rfl
     rw[this,List.append_nil]
     exact⟨rfl,by omega⟩
    |some p=>
     simp only[Option.getD_some,Option.isSome_some,cond_true]
     cases hi:wK c (j:Int) x p with
     |none=>
      have:AQ c t x j= []:=by unfold AQ; rw[e1,Option.bind_some,hg,Option.bind_some,hi]; rfl
      rw[this,List.append_nil]
      exact⟨rfl,by omega⟩
     |some q=>
      have:AQ c t x j= [q]:=by unfold AQ; rw[e1,Option.bind_some,hg,Option.bind_some,hi]; rfl
      rw[this]
      simp only[Option.isSome_some,cond_true,Option.getD_some]
      rw[c6,decide_eq_true (by rw[List.length_map]; omega),aN,app]
      exact⟨rfl,by rw[List.length_append,List.length_singleton]; omega⟩)
   (fun r hI=>by
    rw[List.length_range,aes]
    by_cases hlt:c.s.length≤t.length
    · rw[decide_eq_false (by rw[List.length_map]; omega)]; rfl
    · rw[decide_eq_true (by rw[List.length_map]; omega),decide_eq_false (by rw[List.length_map]; omega)]; rfl) (by omega)
  refine this.1.trans ((Tn _ _).trans ?_)
  rw[OZ,vX]; rfl
end
section
open Go.RowKit Go.Proofs
theorem Qi {c:Cf} {t:List (List En)} {x:Px}:(gu c t x).length≤1+t.length:=by
 unfold gu
 split
 · rw[List.length_append]
   have h1:=List.length_filterMap_le (fun(k:Nat)=>(t[k]?).bind fun l=>(pF l x).bind fun p=>wK c (k:Int) x p) (List.range (min t.length c.s.length))
   rw[List.length_range] at h1
   split<;>simp<;>omega
 · simp
def uY (c:Cf) (t:List (List En)):Prop:=(iJ c t).length*128≤big
def acp (l:List Px) (r:List En):List Px:=r.foldl (fun l e=>qj e.x l) l
theorem agk (l:List Px) (r:List En):acp l r=(r.map En.x).foldl (fun l x=>qj x l) l:=by rw[List.foldl_map]; rfl
theorem PZ:∀ (t:List (List En)) (l:List Px),t.foldl acp l=(t.flatMap fun r=>r.map En.x).foldl (fun l x=>qj x l) l
 | [],l=>rfl
 |r::t,l=>by rw[List.foldl_cons,List.flatMap_cons,List.foldl_append,PZ t,agk]
theorem abD (c:Cf) (t:List (List En)):wX c t=(t.take c.s.length).foldl acp (c.w.foldl (fun l x=>qj x l) []):=by
 unfold wX iJ
 rw[List.foldl_append,PZ]
theorem aiJ {α β:Type} (f:α→List β) (t:List α):(t.flatMap f)=(t.map f).flatten:=by rw[List.flatMap_def]
variable [Lv]
theorem Ij {c:Cf} {t:List (List En)} {x:Px}:∀ r∈gu c t x,r.p.s.length≤32:=fun r hr=>by
 rcases(rJ.1 hr).2 with ⟨_,rfl⟩|⟨k,l,p,h1,h2,h3,h4⟩
 · exact Nat.zero_le _
 · obtain⟨g1,g2,g3,i,s,m,u,e,hi,hs,h4',h5,h6,h7,h8,h9,rfl⟩:=mQ h4
   exact h5
theorem VG {c:Cf} {t:List (List En)} {x:Px}:iM c t=(wX c t).foldl (fun r x=>r++(jZ c t x).toList) []:=vX _ _
theorem weights (c:Cf) (t:List (List En)):∃ w:Nat→Nat,w 0=c.w.length∧(∀ j r,(t.take c.s.length)[j]? =some r→w (j+1)=w j+r.length∧w (j+1)≤(iJ c t).length)∧w (t.take c.s.length).length≤(iJ c t).length:=by
 have hsl:(iJ c t).length=c.w.length+(((t.take c.s.length).map fun r=>r.map En.x).flatten).length:=by unfold iJ; rw[List.length_append,aiJ]
 refine⟨fun j=>c.w.length+((((t.take c.s.length).map fun r=>r.map En.x).take j).flatten).length,by simp,fun j r hr=>?_,?_⟩
 · have hm:((t.take c.s.length).map fun r=>r.map En.x)[j]? =some (r.map En.x):=by rw[List.getElem?_map,hr]; rfl
   have h1:=Bc hm
   have h2:=Gy hm
   rw[List.length_map] at h1
   refine⟨?_,?_⟩
   · show c.w.length+_=c.w.length+_+_
     rw[h2,List.length_append,List.length_map,Nat.add_assoc]
   · show c.w.length+_≤_
     rw[h2,List.length_append,List.length_map,hsl]
     exact Nat.add_le_add_left h1 _
 · show c.w.length+_≤_
   rw[hsl,List.take_of_length_le (by rw[List.length_map]; exact Nat.le_refl _)]
   exact Nat.le_refl _
theorem Uk {α:Type} {a b:Bool} {x y:α} (h:(a&&b)=false):(bif a then bif b then x else y else y)=y:=by cases a<;>cases b<;>simp_all
theorem alD {a b c k B:Nat} (h:a≤b+k) (hk:k < c) (hc:(b+c+2)*16≤B):(a+2)*16≤B∧a≤B:=by omega
def uq (o:Option (List Px)) (x:Px):Option (List Px):=some (qj x (o.getD []))
def zN (o:Option (List Px)) (r:List En):Option (List Px):=r.foldl (fun o e=>uq o e.x) o
theorem adL {α:Type} (f:α→Px):∀ (m:List α) (o:Option (List Px)),(m.foldl (fun o a=>uq o (f a)) o).getD []=m.foldl (fun l a=>qj (f a) l) (o.getD [])
 | [],o=>rfl
 |x::m,o=>by rw[List.foldl_cons,List.foldl_cons,adL f m]; rfl
theorem agh (o:Option (List Px)) (r:List En):(zN o r).getD []=acp (o.getD []) r:=adL En.x r o
theorem PY:∀ (t:List (List En)) (o:Option (List Px)),(t.foldl zN o).getD []=t.foldl acp (o.getD [])
 | [],o=>rfl
 |r::t,o=>by rw[List.foldl_cons,List.foldl_cons,PY t,agh]
def oL1 (c:Cf) (t:List (List En)) (o:Option (List Px)) (i:Int):St:=match o with|none=>aos c t i|some l=>sL1 c t l i
def oL2 (c:Cf) (t:List (List En)) (o:Option (List Px)) (i:Int):St:=match o with|none=>acz c t i|some l=>sL2 c t l i
def oL3 (c:Cf) (t:List (List En)) (o:Option (List Px)) (i j:Int):St:=match o with|none=>ak5 c t i j|some l=>sL3 c t l i j
def oX (c:Cf) (t:List (List En)) (o:Option (List Px)):St:=match o with
 |none=>⟨slots 87 [(1,.t (.sl 1 (fP t))),(2,.ptr 0 0),(5,.own 1)],[.box 56 6 (.t c.t),.row 25 2 []]⟩
 |some l=>⟨slots 87 [(1,.t (.sl 1 (fP t))),(2,.ptr 0 0),(5,.t (.sl 2 (l.map Px.t)))],[.box 56 6 (.t c.t)]⟩
theorem amJ {m:Nat} {c:Cf} {t:List (List En)} {o:Option (List Px)} {j:Nat} {r:List En} (hM:big+80≤m+1) (ht:DY t) (e1:t[j]? =some r) (hl:∀ x∈o.getD [],x.ok) (hlen:((o.getD []).length+r.length+2)*16≤big):
 qE env (m+1) 44 7 10 (oL3 c t o (j:Int) 0)=qF env (m+1) 44 0 7 10 (.exit 4) (oL2 c t (zN o r) (j:Int))∧((zN o r).getD []).length≤(o.getD []).length+r.length∧∀ x∈(zN o r).getD [],x.ok:=by
 have hbig:=aU
 have hro:=ht.2 r (List.mem_of_getElem? e1)
 have hbr:=hro.1
 have f3:=lT (B:=pq env (m+1) 44 0 7 10) (S:=fun(o:Option (List Px)) k=>oL3 c t o (j:Int) (k:Int)) (X:=fun o=>oL2 c t o (j:Int)) (id:=4) (n:=m+1) (fun(o':Option (List Px)) k=>(o'.getD []).length≤(o.getD []).length+k∧∀ x∈o'.getD [],x.ok) (fun o e=>uq o e.x) r o (by omega) (fun o' k e he hK=>by
  have hk:k < r.length:=(List.getElem?_eq_some_iff.1 he).1
  have hxo:=(hro.2 e (List.mem_of_getElem? he)).x
  have hd:decide ((k:Int) < ((r.map En.t).length:Int))=true:=decide_eq_true (by rw[List.length_map]; omega)
  obtain⟨hc3,hc2⟩:=alD hK.1 hk hlen
  have hput:=aeO (M:=m) (by omega) ⟨hc2,hK.2⟩ hc3 hxo
  have hw:=wrap_succ (show k≤big by omega)
  refine⟨?_,?_,fun y hy=>?_⟩
  · cases o' with
    |none=>
     refine(Om _ _ _ _ _).trans ?_
     rw[aA (qN e1)]
     simp only[iO]
     rw[hd]
     simp only[cond_true]
     rw[aA (qN e1)]
     simp only[qW,if_true]
     rw[aA (aC he),show e.t.ay 0 2 true=e.x.t from rfl,show(T.sl 2 []:T)= .sl 2 (((none:Option (List Px)).getD []).map Px.t) from rfl,aH hput,hw]
     rfl
    |some l=>
     refine(Ud _ _ _ _ _ _).trans ?_
     rw[aA (qN e1)]
     simp only[iO]
     rw[hd]
     simp only[cond_true]
     rw[aA (qN e1)]
     simp only[qW,if_true]
     rw[aA (aC he),show e.t.ay 0 2 true=e.x.t from rfl,show l.map Px.t=((some l).getD []).map Px.t from rfl,aH hput,hw]
     rfl
  · have:=I9 e.x (o'.getD []); have:=hK.1; simp only[uq,Option.getD_some]; omega
  · rcases DU.1 hy with rfl|hy
    · exact hxo
    · exact hK.2 y hy) (fun o' hK=>by
  have hd:decide ((r.length:Int) < ((r.map En.t).length:Int))=false:=decide_eq_false (by rw[List.length_map]; omega)
  cases o' with
  |none=>
   refine(Om _ _ _ _ _).trans ?_
   rw[aA (qN e1)]
   simp only[iO]
   rw[hd]; rfl
  |some l=>
   refine(Ud _ _ _ _ _ _).trans ?_
   rw[aA (qN e1)]
   simp only[iO]
   rw[hd]; rfl) ⟨by omega,hl⟩
 exact⟨oH f3.1,f3.2.1,f3.2.2⟩
theorem ai0 {m:Nat} {c:Cf} {t:List (List En)} (hM:big+80≤m+1) (h:c.ok) (hbw:c.w.length*128≤big):
 bC env (m+1) 44 3 (oL1 c t none 0)=aP env (m+1) 44 0 3 (aW env 44) (.exit 0) (oX c t (c.w.foldl uq none))∧((c.w.foldl uq none).getD []).length≤c.w.length∧∀ x∈(c.w.foldl uq none).getD [],x.ok:=by
 have hbig:=aU
 exact oV (N:=m+1) (F:=44) (r:=3) (id:=0) (S:=fun(o:Option (List Px)) j=>oL1 c t o (j:Int)) (X:=oX c t) (fun(o:Option (List Px)) j=>(o.getD []).length≤j∧∀ x∈o.getD [],x.ok) uq c.w none (by omega) (fun o j x hx hI=>by
  have hj:j < c.w.length:=(List.getElem?_eq_some_iff.1 hx).1
  have hxo:=h.w.2 x (List.mem_of_getElem? hx)
  have hd:decide ((j:Int) < ((c.w.map Px.t).length:Int))=true:=decide_eq_true (by rw[List.length_map]; omega)
  have h1:=hI.1
  generalize hol:(o.getD []).length=n at h1
  have hput:=aeO (M:=m) (l:=o.getD []) (by omega) ⟨by rw[hol]; omega,hI.2⟩ (by rw[hol]; omega) hxo
  have hw:=wrap_succ (show j≤big by omega)
  refine⟨?_,?_,fun y hy=>?_⟩
  · cases o with
    |none=>
     refine(aeu _ _ _ _).trans ?_
     rw[hd]
     simp only[cond_true]
     rw[aA (aC hx),show(T.sl 2 []:T)= .sl 2 (((none:Option (List Px)).getD []).map Px.t) from rfl,aH hput,hw]
     rfl
    |some l=>
     refine(ajJ _ _ _ _ _).trans ?_
     rw[hd]
     simp only[cond_true]
     rw[aA (aC hx),show l.map Px.t=((some l).getD []).map Px.t from rfl,aH hput,hw]
     rfl
  · have:=I9 x (o.getD []); simp only[uq,Option.getD_some]; omega
  · rcases DU.1 hy with rfl|hy
    · exact hxo
    · exact hI.2 y hy) (fun o hI=>by
  have hd:decide ((c.w.length:Int) < ((c.w.map Px.t).length:Int))=false:=decide_eq_false (by rw[List.length_map]; omega)
  cases o with
  |none=>refine(aeu _ _ _ _).trans ?_; rw[hd]; rfl
  |some l=>refine(ajJ _ _ _ _ _).trans ?_; rw[hd]; rfl) ⟨by simp,by simp⟩
theorem ai1 {m W:Nat} {c:Cf} {t:List (List En)} {w:Nat→Nat} {o0:Option (List Px)} (hM:big+80≤m+1) (hbs:c.s.length≤big) (ht:DY t) (hr:W*128≤big) (w1:∀ j r,(t.take c.s.length)[j]? =some r→w (j+1)=w j+r.length∧w (j+1)≤W) (g1:(o0.getD []).length≤w 0) (g2:∀ x∈o0.getD [],x.ok):
 bC env (m+1) 44 7 (oL2 c t o0 0)=aP env (m+1) 44 0 7 (aW env 44) (.exit 2) (oX c t ((t.take c.s.length).foldl zN o0))∧(((t.take c.s.length).foldl zN o0).getD []).length≤w (t.take c.s.length).length∧∀ x∈((t.take c.s.length).foldl zN o0).getD [],x.ok:=by
 have hbig:=aU
 have hbt:=ht.1
 have hget:∀ {j:Nat} {r:List En},(t.take c.s.length)[j]? =some r→t[j]? =some r∧j < c.s.length∧j < t.length:=fun {j r} hr=>by
  rw[List.getElem?_take] at hr
  split at hr
  · exact⟨hr,by assumption,(List.getElem?_eq_some_iff.1 hr).1⟩
  · cases hr
 exact oV (N:=m+1) (F:=44) (r:=7) (id:=2) (S:=fun(o:Option (List Px)) j=>oL2 c t o (j:Int)) (X:=oX c t) (fun(o:Option (List Px)) j=>(o.getD []).length≤w j∧∀ x∈o.getD [],x.ok) zN (t.take c.s.length) o0 (by rw[List.length_take]; omega) (fun o j r hr' hI=>by
  obtain⟨e1,hj1,hj2⟩:=hget hr'
  obtain⟨x1,x2⟩:=w1 j r hr'
  have hI1:=hI.1
  generalize hol:(o.getD []).length=n at hI1
  obtain⟨f3a,f3b,f3c⟩:=amJ (m:=m) (c:=c) hM ht e1 hI.2 (by rw[hol]; omega)
  have hd1:decide ((j:Int) < ((t.map fun l=>T.sl 6 (l.map En.t)).length:Int))=true:=decide_eq_true (by rw[List.length_map]; omega)
  have hd2:decide ((j:Int) < ((c.s.map Sd.t).length:Int))=true:=decide_eq_true (by rw[List.length_map]; omega)
  have hw:=wrap_succ (show j≤big by omega)
  have htail:qF env (m+1) 44 0 7 10 (.exit 4) (oL2 c t (zN o r) (j:Int))= .ok (.norm,oL2 c t (zN o r) ((j+1:Nat):Int)):=by
   rw[←hw]
   cases zN o r with
   |none=>exact JD _ _ _ _
   |some l=>exact Nq _ _ _ _ _
  refine⟨?_,?_,f3c⟩
  · cases o with
    |none=>refine(aev _ _ _ _).trans ?_; rw[hd1,hd2]; exact f3a.trans htail
    |some l=>refine(ajK _ _ _ _ _).trans ?_; rw[hd1,hd2]; exact f3a.trans htail
  · rw[hol] at f3b
    exact Nat.le_trans f3b (by omega)) (fun o hI=>by
  rw[List.length_take]
  have hd:(decide (((min c.s.length t.length:Nat):Int) < ((t.map fun l=>T.sl 6 (l.map En.t)).length:Int))&&decide (((min c.s.length t.length:Nat):Int) < ((c.s.map Sd.t).length:Int)))=false:=by
   rw[List.length_map,List.length_map,Bool.and_eq_false_iff,decide_eq_false_iff_not,decide_eq_false_iff_not]; omega
  cases o with
  |none=>exact(aev _ _ _ _).trans (Uk hd)
  |some l=>exact(ajK _ _ _ _ _).trans (Uk hd)) ⟨g1,g2⟩
theorem abL {m:Nat} {c:Cf} {t:List (List En)} {ks:List Px} (hM:big+80≤m+1) (h:c.ok) (ht:DY t) (kx:∀ x∈ks,x.ok) (akT:ks.length*128≤big):
 bC env (m+1) 44 15 (sL4 c t ks [] 0)=aP env (m+1) 44 0 15 (aW env 44) (.exit 6) ⟨slots 87 [(9,.own 0)],[.row 46 8 ((ks.foldl (fun r x=>r++(jZ c t x).toList) []).map Ch.t)]⟩:=by
 have hbig:=aU
 refine(oV (N:=m+1) (F:=44) (r:=15) (id:=6) (S:=fun(r:List Ch) j=>sL4 c t ks r (j:Int)) (X:=fun r=>⟨slots 87 [(9,.own 0)],[.row 46 8 (r.map Ch.t)]⟩)
  (fun(r:List Ch) j=>r.length≤j) (fun r x=>r++(jZ c t x).toList) ks [] (by omega) (fun r j x hx hI=>by
   have hj:j < ks.length:=(List.getElem?_eq_some_iff.1 hx).1
   have hxo:=kx x (List.mem_of_getElem? hx)
   have hto:=xJ (x:=x) h ht
   have htl:=Qi (c:=c) (t:=t) (x:=x)
   have hth:=Ij (c:=c) (t:=t) (x:=x)
   have hq:cO Rt.ok (gu c t x):=⟨by
    unfold gu
    cases hcs:dH c with
    |false=>simp
    |true=>
     have:=(ou hcs).2.2.2.2
     have h1:=List.length_filterMap_le (fun(k:Nat)=>(t[k]?).bind fun l=>(pF l x).bind fun p=>wK c (k:Int) x p) (List.range (min t.length c.s.length))
     rw[List.length_range] at h1
     simp only[if_true,List.length_append]
     split<;>simp<;>omega,hto⟩
   rw[aep,decide_eq_true (by rw[List.length_map]; omega)]
   simp only[cond_true]
   rw[aA (aC hx),aH (amd (by omega) h ht hxo),aH (amc (by omega) hq (fun r hr=>by have:=hth r hr; omega)),I7]
   simp only[aG,List.getElem?_cons_zero,List.getElem?_cons_succ,tq,aN,jW]
   rw[wrap_succ (show j≤big by omega)]
   unfold jZ
   cases hb:qw (gu c t x) with
   |none=>exact⟨by simp,by simp; omega⟩
   |some q=>
    simp only[Option.isSome_some,cond_true,Option.getD_some,Option.map_some,Option.toList_some]
    rw[aA (aC hx),show(x.t.cells.length==2&& !x.t.aY)=true from rfl,aN]
    rw[show T.agg [x.t.cell 0,x.t.cell 1,q.t.cell 0,q.t.cell 1,q.t.cell 2,q.t.cell 3,q.t.cell 4,q.t.cell 5]=(Ch.mk x q).t from rfl,show ∀ K:ah (Ex×St),bW (T.mF 8) [(Ch.mk x q).t] K=K from fun K=>rfl,decide_eq_true (by rw[List.length_map]; omega),aN]
    refine⟨?_,by simp; omega⟩
    unfold sL4
    rw[List.map_append]; rfl) (fun r hI=>by rw[aep,decide_eq_false (by rw[List.length_map]; omega)]; rfl) (by simp)).1
theorem aeL {M:Nat} {c:Cf} {t:List (List En)} (hM:big+80≤M) (h:c.ok) (ht:DY t) (hr:uY c t):ak env (M+1) 44 [c.t,.sl 1 (fP t)]= .ok (.sl 8 ((iM c t).map Ch.t)):=by
 obtain⟨m,rfl⟩:=dJ (show 1≤M by omega)
 unfold uY at hr
 obtain⟨w,w0,w1,w2⟩:=weights c t
 obtain⟨W,hW⟩:∃ W,(iJ c t).length=W:=⟨_,rfl⟩
 rw[hW] at hr w2
 have w1':∀ j r,(t.take c.s.length)[j]? =some r→w (j+1)=w j+r.length∧w (j+1)≤W:=by rw[←hW]; exact w1
 have hwc:c.w.length≤W:=by rw[←hW]; unfold iJ; rw[List.length_append]; exact Nat.le_add_right _ _
 rw[q44,aX (dM h.wf ht.wf)]
 obtain⟨f1,g1,g2⟩:=ai0 (t:=t) hM h (Nat.le_trans (Nat.mul_le_mul_right 128 hwc) hr)
 refine f1.trans ?_
 obtain⟨f2,k1,k2⟩:=ai1 hM h.s.1 ht hr w1' (by rw[w0]; exact g1) g2
 have hkeys:((t.take c.s.length).foldl zN (c.w.foldl uq none)).getD []=wX c t:=by
  rw[PY,abD,adL (fun x=>x)]; rfl
 have t1:aP env (m+1) 44 0 3 (aW env 44) (.exit 0) (oX c t (c.w.foldl uq none))=bC env (m+1) 44 7 (oL2 c t (c.w.foldl uq none) 0):=by
  cases c.w.foldl uq none with
  |none=>exact Tt _ _ _
  |some l=>exact WO _ _ _ _
 refine t1.trans (f2.trans ?_)
 have akT:(((t.take c.s.length).foldl zN (c.w.foldl uq none)).getD []).length≤W:=Nat.le_trans k1 w2
 rw[show iM c t=(wX c t).foldl (fun r x=>r++(jZ c t x).toList) [] from VG (x:=⟨0,0⟩)]
 rw[←hkeys]
 generalize (t.take c.s.length).foldl zN (c.w.foldl uq none)=o at k2 akT
 cases o with
 |none=>
  refine(Tv _ _ _).trans ?_
  have:aF env (m+1) 44 0 15 (ag4 c t 0)= .ok (.exit 6,⟨slots 87 [(9,.own 0)],[.row 46 8 (([]:List Ch).map Ch.t)]⟩):=by rw[ahB]; rfl
  exact(aQ (dV this)).trans (Fz _ [])
 |some ks=>
  refine(WQ _ _ _ _).trans ?_
  exact(abL hM h ht k2 (Nat.le_trans (Nat.mul_le_mul_right 128 akT) hr)).trans (Fz _ _)
end
section
open Go.RowKit Go.Proofs
variable [Lv]
theorem nD {L:List (List Ch)} (h:cO (cO Ch.ok) L):(T.sl 1 (aK L)).wf=true:=wZ h.1 fun l hl=>dD (fun _ h=>Ch.ok.wf h) (h.2 l hl)
theorem Q7 (e:Ch):e.t.ay 0 2 true=e.x.t:=rfl
theorem aj1 (e:Ch):e.t.ay 2 6 true=e.r.t:=rfl
theorem aff (e:Ch):(e.t.cells.length==8&& !e.t.aY)=true:=rfl
theorem Il {j:Nat} (h0:0 < j) (h:j≤big):IntKind.i64.wrap ((j:Int) - 1)=((j - 1:Nat):Int):=by
 have:=aU
 rw[wrap64 (by omega)]; omega
theorem al0 {M:Nat} {c:Cf} {k:Int} {l:List Ch} (hM:big+30≤M) (hc:c.ok) (hk:aV k=true) (hl:cO Ch.ok l) (hb:(l.length+1)*64≤big):ak env (M+1) 46 [c.t,i64 k,.sl 8 (l.map Ch.t)]= .ok (.sl 6 ((uw c k l).map En.t)):=by
 obtain⟨m,rfl⟩:=dJ (show 1≤M by omega)
 have hbg:=aU
 rw[q46,aX (yG hc.wf (aZ hk) (dD (fun _ h=>Ch.ok.wf h) hl))]
 have rd:∀ j e,l[j]? =some e→aF env (m+1) 46 0 3 (Gw c k l ((l.take j).filterMap fun e=>(jU c k e.x e.r).map (En.mk e.x)) j)=bif FU l j then .ok (.ret,⟨slots 59 [(6,.own 0)],[.row 104 6 []]⟩) else .ok (.norm,Gw c k l ((l.take (j+1)).filterMap fun e=>(jU c k e.x e.r).map (En.mk e.x)) (j+1:Nat)):=fun j e hx=>by
  have hj:=(List.getElem?_eq_some_iff.1 hx).1
  have he:=hl.2 e (List.mem_of_getElem? hx)
  have hw:=wrap_succ (show j≤big by omega)
  have htk:l.take (j+1)=l.take j++ [e]:=by rw[List.take_add_one,hx]; rfl
  have hlen:((l.take j).filterMap fun e=>(jU c k e.x e.r).map (En.mk e.x)).length≤j:=by
   refine Nat.le_trans (List.length_filterMap_le _ _) ?_
   rw[List.length_take]; omega
  rw[htk,List.filterMap_append]
  generalize ((l.take j).filterMap fun e=>(jU c k e.x e.r).map (En.mk e.x))=ys at hlen
  have hby:decide (((ys.map En.t).length+1)*64≤140737488355328)=true:=decide_eq_true (by rw[List.length_map]; omega)
  rw[ajL,decide_eq_true (by rw[List.length_map]; omega)]
  simp only[cond_true,aA (aC hx)]
  rw[aff,aN,Q7,aj1,bJ (x9 he.x (by omega)),aH (ame (by omega) hc hk he.x he.r),hw]
  have tail:∀ K:ah (Ex×St),K=(aG (Gs (jU c k e.x e.r)) 0 fun y=>aG (Gs (jU c k e.x e.r)) 1 fun y_1=>chk (y.cells.length==4&& !y.aY) (bT y_1 fun v=>bif v then chk ((e.x.t).cells.length==2&& !(e.x.t).aY) (chk (y.cells.length==4&& !y.aY) (bW (T.mF 6) [T.agg [(e.x.t).cell 0,(e.x.t).cell 1,y.cell 0,y.cell 1,y.cell 2,y.cell 3]] (chk (decide (((List.map En.t ys).length+1)*64≤140737488355328)) (ah.ok (Ex.norm,{tmps:=slots 59 [(1,PV.t (i64 k)),(2,PV.t (T.sl 8 (List.map Ch.t l))),(3,PV.ptr 0 0),(7,PV.own 1),(12,PV.t (T.sl 8 (List.map Ch.t l))),(13,PV.t (i64 (↑(List.map Ch.t l).length:Int))),(14,PV.t (i64 ((j+1:Nat):Int)))],heap:=[aj.box 56 6 (PV.t c.t),aj.row 104 6 (List.map En.t ys++ [T.agg [(e.x.t).cell 0,(e.x.t).cell 1,y.cell 0,y.cell 1,y.cell 2,y.cell 3]])]}))))) else ah.ok (Ex.norm,Gw c k l ys ((j+1:Nat):Int))))→
   K= .ok (.norm,Gw c k l (ys++ [e].filterMap fun e=>(jU c k e.x e.r).map (En.mk e.x)) (j+1:Nat)):=fun K hK=>by
   rw[hK]
   cases ho:jU c k e.x e.r with
   |none=>
    rw[show[e].filterMap (fun e=>(jU c k e.x e.r).map (En.mk e.x))= [] by simp[ho],List.append_nil]
    rfl
   |some p=>
    rw[show[e].filterMap (fun e=>(jU c k e.x e.r).map (En.mk e.x))= [⟨e.x,p⟩] by simp[ho]]
    unfold Gw
    rw[List.map_append]
    show chk true (chk true (chk true (chk true (chk _ _))))=_
    rw[hby]
    rfl
  unfold FU
  rw[hx]
  simp only[]
  cases hs:dB e.x with
  |false=>rfl
  |true=>
   simp only[Bool.not_true,cond_false,Bool.false_or]
   by_cases h0:0 < j
   · have hp:l[j - 1]? =some l[j - 1]:=List.getElem?_eq_getElem (by omega)
     rw[decide_eq_true (show(j:Int) > 0 by omega),decide_eq_true h0,hp,cond_true,Il h0 (by omega),aA (aC hp),Q7,nG (OT (hl.2 _ (List.mem_of_getElem? hp)).x he.x (by omega))]
     simp only[Bool.true_and]
     cases decide (kE l[j - 1].x e.x≥0) with
     |true=>rfl
     |false=>exact tail _ rfl
   · rw[decide_eq_false (show ¬ (j:Int) > 0 by omega),decide_eq_false h0]
     exact tail _ rfl
 have it:=fB (B:=aF env (m+1) 46 0 3) (S:=fun j=>Gw c k l ((l.take j).filterMap fun e=>(jU c k e.x e.r).map (En.mk e.x)) j) (R:=fun _=>⟨slots 59 [(6,.own 0)],[.row 104 6 []]⟩) (X:=⟨slots 59 [(7,.own 0)],[.row 104 6 ((l.filterMap fun e=>(jU c k e.x e.r).map (En.mk e.x)).map En.t)]⟩) (id:=0) (FU l) l.length 0 (m+1) (by omega)
  (fun j _ hj hp=>by rw[rd j _ (List.getElem?_eq_getElem (by omega)),hp]; rfl) (fun j _ hj hp=>by rw[rd j _ (List.getElem?_eq_getElem (by omega)),hp]; rfl)
  (by rw[Nat.zero_add,List.take_length,ajL,decide_eq_false (by rw[List.length_map]; omega)]; rfl)
 have e0:Gw c k l ((l.take 0).filterMap fun e=>(jU c k e.x e.r).map (En.mk e.x)) (0:Nat)=Gw c k l [] 0:=rfl
 unfold uw qB
 cases hk:dF (FU l) 0 l.length with
 |some j=>
  rw[hk] at it
  rw[if_neg (by simp)]
  exact(aQ it).trans (ac5 (m+1) _)
 |none=>
  rw[hk] at it
  rw[if_pos (by simp)]
  exact(aQ it).trans (WR (m+1) _)
theorem aeH {M:Nat} {L:List (List Ch)} {i:Nat} (hL:cO (cO Ch.ok) L) (hi:i≤big):ak env (M+1) 37 [.sl 1 (aK L),i64 i]= .ok (.sl 8 ((L.getD i []).map Ch.t)):=by
 have hbg:=aU
 rw[q37,aX (dM (nD hL) (aZ (fZ (by omega))))]
 by_cases h:i < L.length
 · have hx:L[i]? =some L[i]:=List.getElem?_eq_getElem h
   rw[decide_eq_false (by rw[List.length_map]; omega),cond_false,aA (vC hx),List.getD_eq_getElem?_getD,hx]; rfl
 · rw[decide_eq_true (by rw[List.length_map]; omega),List.getD_eq_getElem?_getD,List.getElem?_eq_none (by omega)]; rfl
theorem aeI {M:Nat} {L:List (List Ch)} {i:Nat} (hL:cO (cO Ch.ok) L) (hi:i≤big):ak env (M+1) 39 [.sl 1 (aK L),i64 i]= .ok (.sl 8 ((L.getD i []).map Ch.t)):=by
 have hbg:=aU
 rw[q39,aX (dM (nD hL) (aZ (fZ (by omega))))]
 by_cases h:i < L.length
 · have hx:L[i]? =some L[i]:=List.getElem?_eq_getElem h
   rw[decide_eq_true (by rw[List.length_map]; omega),cond_true,aA (vC hx),List.getD_eq_getElem?_getD,hx]; rfl
 · rw[decide_eq_false (by rw[List.length_map]; omega),List.getD_eq_getElem?_getD,List.getElem?_eq_none (by omega)]; rfl
theorem Uf {m:Int} {n:Nat} (hm:m=(min n 8:Nat)):IntKind.i64.wrap (IntKind.i64.wrap (IntKind.i64.wrap (IntKind.i64.wrap (2*m)*m)+IntKind.i64.wrap (4*m))+10)=(jQ n:Int):=by
 subst hm
 unfold jQ
 have:min n 8≤8:=Nat.min_le_right _ _
 generalize min n 8=q at this
 have h9:∀ q:Nat,q≤8→IntKind.i64.wrap (IntKind.i64.wrap (IntKind.i64.wrap (IntKind.i64.wrap (2*(q:Int))*(q:Int))+IntKind.i64.wrap (4*(q:Int)))+10)=((2*q*q+4*q+10:Nat):Int):=by decide
 exact h9 q this
theorem alR {M n:Nat} (hn:n≤big):ak env (M+1) 29 [i64 n]= .ok (i64 (jQ n:Int)):=by
 have hbg:=aU
 rw[q29,aX (gJ (aZ (fZ (by omega)))),Uf (n:=n)]
 simp only[dh,cond_true,cond_false]
 split<;>split<;>omega
theorem alV {M n:Nat} (hn:n≤big):ak env (M+1) 36 [i64 n]= .ok (i64 (jQ n:Int)):=by
 have hbg:=aU
 rw[q36,aX (gJ (aZ (fZ (by omega)))),Uf (n:=n)]
 simp only[dh,cond_true,cond_false]
 split<;>split<;>omega
theorem alY {M:Nat} {i k:Int} (hi:aV i=true) (hk:aV k=true):ak env (M+1) 43 [i64 i,i64 k]= .ok (.sl 6 []):=by
 rw[q43,aX (dM (aZ hi) (aZ hk))]
structure nZ (t:List Cf) (L:List (List Ch)):Prop where
 ft:cO Cf.ok t
 fL:cO (cO Ch.ok) L
 sides:∀ c∈t,c.s.length≤1000∧c.w.length≤1000
 chs:∀ l∈L,l.length≤1000
theorem nZ.at {t:List Cf} {L:List (List Ch)} (h:nZ t L) (j:Nat):cO Ch.ok (L.getD j [])∧(L.getD j []).length≤1000:=by
 rw[List.getD_eq_getElem?_getD]
 cases hl:L[j]? with
 |none=>exact⟨⟨Nat.zero_le _,by simp⟩,Nat.zero_le _⟩
 |some l=>have hm:=List.mem_of_getElem? hl; exact⟨h.fL.2 l hm,h.chs l hm⟩
theorem nZ.side {t:List Cf} {L:List (List Ch)} (h:nZ t L) (i k:Nat):cO En.ok (lK t L i k)∧(lK t L i k).length≤1000:=by
 have hbg:=aU
 unfold lK
 cases gB t i k with
 |none=>exact⟨⟨Nat.zero_le _,by simp⟩,Nat.zero_le _⟩
 |some p=>
  obtain⟨j,m⟩:=p
  simp only
  cases hd:t[j]? with
  |none=>exact⟨⟨Nat.zero_le _,by simp⟩,Nat.zero_le _⟩
  |some d=>
   obtain⟨g1,g2⟩:=h.at j
   have hw:=Vz d (m:Int) (L.getD j [])
   refine⟨⟨by simp only; omega,fun e he=>?_⟩,by simp only; omega⟩
   obtain⟨_,r,hr,hp⟩:=zW.1 he
   exact⟨(g1.2 _ hr).x,QJ hp (h.ft.2 d (List.mem_of_getElem? hd)) (g1.2 _ hr).r⟩
theorem aeS {t:List Cf} {i k j m:Nat} (hi:i < t.length) (hs:∀ c∈t,c.s.length≤1000) (h:gB t i k=some (j,m)):j < t.length∧m≤1000:=by
 unfold gB at h
 rw[if_pos ⟨by omega,by omega⟩] at h
 split at h
 · split at h
   · split at h
     · split at h
       · rename_i d hd
         obtain⟨m',h1,h2⟩:=Option.map_eq_some_iff.1 h
         simp only[Prod.mk.injEq] at h2
         obtain⟨rfl,rfl⟩:=h2
         have h3:=(List.findIdx?_eq_some_iff_getElem.1 h1).1
         have h4:=hs d (List.mem_of_getElem? hd)
         exact⟨(List.getElem?_eq_some_iff.1 hd).1,by omega⟩
       · cases h
     · cases h
   · cases h
 · cases h
theorem alZ {M:Nat} {t:List Cf} {L:List (List Ch)} {i k:Nat} (hM:big+40≤M) (h:nZ t L) (hi:i < t.length) (hk:k≤1000):ak env (M+1) 45 [i64 i,i64 k,.ref (.sl 6 (t.map Cf.t)),.ref (.sl 1 (aK L))]= .ok (.sl 6 ((lK t L i k).map En.t)):=by
 obtain⟨m,rfl⟩:=dJ (show 1≤M by omega)
 have hbg:=aU
 have htb:=h.ft.1
 rw[q45,aX (by
  have h1:=aZ (n:=(i:Int)) (fZ (by omega)); have h2:=aZ (n:=(k:Int)) (fZ (by omega)); have h3:=lC (jo h.ft); have h4:=lC (nD h.fL)
  simp only[T.wfs,h1,h2,h3,h4,Bool.and_self]),aH (XB (by omega) h.ft (fZ (by omega)) (fZ (by omega)))]
 unfold lK
 cases hf:gB t i k with
 |none=>rfl
 |some p=>
  obtain⟨j,mm⟩:=p
  obtain⟨hj,hmm⟩:=aeS hi (fun c hc=>(h.sides c hc).1) hf
  have hd:t[j]? =some t[j]:=List.getElem?_eq_getElem hj
  simp only[MG,BU,BX,Option.map_some,Option.getD_some,aG,List.getElem?_cons_zero,List.getElem?_cons_succ,Option.isSome_some,bT,Bool.not_true,cond_false,o9]
  rw[aA (aC hd),aH (aeH h.fL (by omega))]
  obtain⟨g1,g2⟩:=h.at j
  rw[aH (al0 (by omega) (h.ft.2 _ (List.mem_of_getElem? hd)) (fZ (by omega)) g1 (by omega)),hd]
end
end Go.aT
namespace Go.Proofs
def sortL_ren:Go.Shelf.Ren:=⟨fun|6=>102|15=>138|14=>137|28=>185|29=>186|20=>177|21=>178|22=>179|23=>180|24=>181|25=>182|26=>183|27=>184|46=>200|47=>201|48=>202|49=>203|50=>204|57=>215|n=>n,fun|22=>40|24=>46|25=>126|3=>3|39=>151|0=>0|53=>177|55=>179|4=>4|46=>171|45=>170|50=>82|5=>5|9=>9|66=>193|70=>143|76=>206|77=>207|n=>n,fun|n=>n⟩
theorem sortL:Go.Proofs.SlLaysF0.n6 Tryz.prog sortL_ren where
 mixed:=by kernel_rfl
 f6:=⟨ "slices.SortFunc[[]ridgeway/api.Choice,ridgeway/api.Choice]",by decide,Tryz.func102.trans (congrArg some (by kernel_rfl))⟩
 f14:=⟨ "slices.pdqsortCmpFunc[ridgeway/api.Choice]",by decide,Tryz.func137.trans (congrArg some (by kernel_rfl))⟩
 f15:=Tryz.func138.trans (congrArg some (by kernel_rfl))
 f20:=⟨ "slices.insertionSortCmpFunc[ridgeway/api.Choice]",by decide,Tryz.func177.trans (congrArg some (by kernel_rfl))⟩
 f21:=⟨ "slices.heapSortCmpFunc[ridgeway/api.Choice]",by decide,Tryz.func178.trans (congrArg some (by kernel_rfl))⟩
 f22:=⟨ "slices.breakPatternsCmpFunc[ridgeway/api.Choice]",by decide,Tryz.func179.trans (congrArg some (by kernel_rfl))⟩
 f23:=⟨ "slices.choosePivotCmpFunc[ridgeway/api.Choice]",by decide,Tryz.func180.trans (congrArg some (by kernel_rfl))⟩
 f24:=⟨ "slices.reverseRangeCmpFunc[ridgeway/api.Choice]",by decide,Tryz.func181.trans (congrArg some (by kernel_rfl))⟩
 f25:=⟨ "slices.partialInsertionSortCmpFunc[ridgeway/api.Choice]",by decide,Tryz.func182.trans (congrArg some (by kernel_rfl))⟩
 f26:=⟨ "slices.partitionEqualCmpFunc[ridgeway/api.Choice]",by decide,Tryz.func183.trans (congrArg some (by kernel_rfl))⟩
 f27:=⟨ "slices.partitionCmpFunc[ridgeway/api.Choice]",by decide,Tryz.func184.trans (congrArg some (by kernel_rfl))⟩
 f28:=Tryz.func185.trans (congrArg some (by kernel_rfl))
 f29:=Tryz.func186.trans (congrArg some (by kernel_rfl))
 f46:=⟨ "slices.siftDownCmpFunc[ridgeway/api.Choice]",by decide,Tryz.func200.trans (congrArg some (by kernel_rfl))⟩
 f47:=Tryz.func201.trans (congrArg some (by kernel_rfl))
 f48:=Tryz.func202.trans (congrArg some (by kernel_rfl))
 f49:=⟨ "slices.medianAdjacentCmpFunc[ridgeway/api.Choice]",by decide,Tryz.func203.trans (congrArg some (by kernel_rfl))⟩
 f50:=⟨ "slices.medianCmpFunc[ridgeway/api.Choice]",by decide,Tryz.func204.trans (congrArg some (by kernel_rfl))⟩
 f57:=⟨ "slices.order2CmpFunc[ridgeway/api.Choice]",by decide,Tryz.func215.trans (congrArg some (by kernel_rfl))⟩
 t0:=Tryz.underlying0
 a0:=Tryz.isAgg0
 z0:=Tryz.sizeOf0
 v0:=Tryz.zeroValue0
 t3:=Tryz.underlying3
 a3:=Tryz.isAgg3
 z3:=Tryz.sizeOf3
 v3:=Tryz.zeroValue3
 t4:=Tryz.underlying4
 a4:=Tryz.isAgg4
 z4:=Tryz.sizeOf4
 v4:=Tryz.zeroValue4
 t5:=Tryz.underlying5
 a5:=Tryz.isAgg5
 z5:=Tryz.sizeOf5
 v5:=Tryz.zeroValue5
 t9:=Tryz.underlying9
 a9:=Tryz.isAgg9
 z9:=Tryz.sizeOf9
 v9:=Tryz.zeroValue9
 t22:=Tryz.underlying40
 a22:=Tryz.isAgg40
 z22:=Tryz.sizeOf40
 v22:=Tryz.zeroValue40
 t25:=Tryz.underlying126
 a25:=Tryz.isAgg126
 z25:=Tryz.sizeOf126
 v25:=Tryz.zeroValue126
 t39:=Tryz.underlying151
 a39:=Tryz.isAgg151
 z39:=Tryz.sizeOf151
 v39:=Tryz.zeroValue151
 t45:=Tryz.underlying170
 a45:=Tryz.isAgg170
 z45:=Tryz.sizeOf170
 v45:=Tryz.zeroValue170
 t46:=Tryz.underlying171
 a46:=Tryz.isAgg171
 z46:=Tryz.sizeOf171
 v46:=Tryz.zeroValue171
 t50:=Tryz.underlying82
 a50:=Tryz.isAgg82
 z50:=Tryz.sizeOf82
 v50:=Tryz.zeroValue82
 t53:=Tryz.underlying177
 a53:=Tryz.isAgg177
 z53:=Tryz.sizeOf177
 v53:=Tryz.zeroValue177
 t55:=Tryz.underlying179
 a55:=Tryz.isAgg179
 z55:=Tryz.sizeOf179
 v55:=Tryz.zeroValue179
 t66:=Tryz.underlying193
 a66:=Tryz.isAgg193
 z66:=Tryz.sizeOf193
 v66:=Tryz.zeroValue193
 t70:=Tryz.underlying143
 a70:=Tryz.isAgg143
 z70:=Tryz.sizeOf143
 v70:=Tryz.zeroValue143
 t76:=Tryz.underlying206
 a76:=Tryz.isAgg206
 z76:=Tryz.sizeOf206
 v76:=Tryz.zeroValue206
 t77:=Tryz.underlying207
 a77:=Tryz.isAgg207
 z77:=Tryz.sizeOf207
 v77:=Tryz.zeroValue207
end Go.Proofs
namespace Go.aT
section
open Go.RowKit Go.Proofs Go.Sort Go.Shelf
def dX (F:Nat→Prop) (w:World):Type:={p:List Value×Ch // Rd F w p.2.t (.agg p.1.toArray)}
section
variable {F:Nat→Prop} {w:World}
def dX.mk (v:List Value) (c:Ch) (h:Rd F w c.t (.agg v.toArray)):dX F w:=⟨(v,c),h⟩
def dX.enc (x:dX F w):List Value:=x.1.1
def dX.key (x:dX F w):Ch:=x.1.2
theorem dX.rd (x:dX F w):Rd F w x.key.t (.agg x.enc.toArray):=x.2
theorem Aa {c:Ch} {v:List Value} (h:Rd F w c.t (.agg v.toArray)):v.length=8∧(∀ u∈v,u.oneCell'=true)∧∀ (i:Nat) (x:T) (u:Value),c.t.cells[i]? =some x→v[i]? =some u→Rd F w x u:=by
 unfold Ch.t at h
 generalize hv:v.toArray=a at h
 cases h with
 |agg hl h1 hr=>
  have:=congrArg Array.toList hv
  simp only at this
  subst this
  exact⟨hl,h1,hr⟩
def cfC (x y:dX F w):Int:=kE x.key.x y.key.x
theorem ahD:SWO (ltOf (cfC (F:=F) (w:=w))) where
 irrefl x:=by unfold ltOf cfC; rw[decide_eq_false_iff_not,rC]; exact gG _
 trans x y z h1 h2:=by
  unfold ltOf cfC at*
  rw[decide_eq_true_eq,rC] at*
  exact yw h1 h2
 ntrans x y z h1 h2:=by
  unfold ltOf cfC at*
  rw[decide_eq_false_iff_not,rC] at*
  unfold vO at*
  omega
end
theorem LU {α:Type} [Inhabited α] {enc:α→List Value} {k:Nat} {w:World} {g m:Nat} {dk:Array α} {os:Array Obj} {b:Nat} (hb:b < w.heap.size) (hne:b≠g):(sortWorldK enc k w g 0 m dk os).heap[b]? =w.heap[b]? :=by
 unfold sortWorldK grow putRowK putRow mapBlock
 show(((Sort.ahead w m).heap.modify g _)++os)[b]? =_
 rw[Array.getElem?_append_left (by simpa[Sort.ahead] using hb),Array.getElem?_modify,if_neg (fun h=>hne h.symm)]
 rfl
theorem acN {α:Type} [Inhabited α] {enc:α→List Value} {k:Nat} {w:World} {g m:Nat} {dk:Array α} {os:Array Obj} {cur:Array Value} {e:TypeId} {fr:Nat×Nat} (hg:w.heap[g]? =some (.cells cur e fr)):
 (sortWorldK enc k w g 0 m dk os).heap[g]? =some (.cells (putCells id 0 (flatK enc k dk) cur) e fr):=by
 unfold sortWorldK grow putRowK putRow mapBlock
 show(((Sort.ahead w m).heap.modify g _)++os)[g]? =_
 have hlt:=(Array.getElem?_eq_some_iff.1 hg).1
 rw[Array.getElem?_append_left (by simpa[Sort.ahead] using hlt),Array.getElem?_modify,if_pos rfl]
 show Option.map _ w.heap[g]? =_
 rw[hg]; rfl
variable [Lv]
theorem Wp (he:nK env) {l:List Ch} (hne:l≠ []) (ho:cO Ch.ok l):X3 env 102 46 8 (l.map Ch.t) [.fn 103 [] []] fun ys=>∃ m:List Ch,ys=m.map Ch.t∧m.Perm l∧m.Pairwise fun a b=>¬ kE b.x a.x < 0:=by
 intro F κ w H i vals s hH hl hr
 obtain⟨cs,o1,o2,o3,o4,o5⟩:=s.ro i _ hH
 have hn:(l.map Ch.t).length=l.length:=by simp
 rw[hn] at o1 o2
 have hcs:cs.length=l.length*8:=o1.1
 have hpos:0 < l.length:=List.length_pos_iff.2 hne
 rcases o1.2 with ⟨_,h0⟩|⟨g,cap,cur,e1,_,e3,e4,e5,e6,e7⟩
 · omega
 have aqM:g < w.heap.size:=(Array.getElem?_eq_some_iff.1 e3).1
 have hgF:¬ F g:=(s.lt i _ g hH (by simp[blk,e1,Value.ownBlock])).2
 obtain⟨v,rfl⟩:∃ v,vals= [v]:=by
  match vals,hl with
  | [v],_=>exact⟨v,rfl⟩
 have hv:v= .func (.func 103) #[] #[]:=by
  have:=hr 0 _ v rfl rfl
  cases this with
  |fn hlf hlc _ _=>simp at hlf hlc; subst hlf; subst hlc; rfl
 subst hv
 have O8:∀ j (hj:j < l.length),Rd F w l[j].t (.agg ((cs.drop (j*8)).take 8).toArray):=fun j hj=>by
  have hlen:((cs.drop (j*8)).take 8).length=8:=by rw[List.length_take,List.length_drop,hcs]; omega
  have hx:(l.map Ch.t)[j]? =some l[j].t:=aC (List.getElem?_eq_getElem hj)
  unfold Ch.t at hx ⊢
  refine .agg hlen (fun u hu=>o4 u (List.mem_of_mem_drop (List.mem_of_mem_take hu))) fun q x u hq hu=>?_
  have hq8:q < 8:=by have:=(List.getElem?_eq_some_iff.1 hq).1; simpa using this
  refine o5 j _ q x u hx hq ?_
  rw[List.getElem?_take,if_pos hq8,List.getElem?_drop] at hu
  exact hu
 let dl:List (dX F w):=List.ofFn fun j:Fin l.length=>dX.mk ((cs.drop (j*8)).take 8) l[j] (O8 j j.2)
 have hdl:dl.length=l.length:=List.length_ofFn
 have aj9:∀ j (hj:j < l.length),dl[j]? =some (dX.mk ((cs.drop (j*8)).take 8) l[j] (O8 j hj)):=fun j hj=>by
  show(List.ofFn _)[j]? =_
  rw[List.getElem?_ofFn,dif_pos hj]
  rfl
 have hkeys:dl.map dX.key=l:=by
  refine List.ext_getElem? fun j=>?_
  rw[List.getElem?_map]
  rcases Nat.lt_or_ge j l.length with hj|hj
  · rw[aj9 j hj,List.getElem?_eq_getElem hj]; rfl
  · rw[List.getElem?_eq_none (by rw[hdl]; exact hj),List.getElem?_eq_none hj]; rfl
 haveI:Inhabited (dX F w):=⟨dX.mk ((cs.drop (0*8)).take 8) l[0] (O8 0 hpos)⟩
 have hsz:dl.toArray.size=l.length:=by simp[hdl]
 have eg:∀ args w,(callFunc 103 args).run Tryz.prog w= .ok (.enter 103 args) w:=enters_of Tryz.func103 (by kernel_rfl) rfl
 have Ri:∀ (dk:Array (dX F w)) j q,j < dk.size→q < 8→(flatK dX.enc 8 dk)[j*8+q]? =(dk[j]!).enc[q]? :=fun dk j q hj hq=>by
  have hlt:j*8+q < dk.size*8:=by omega
  have h8:=(Aa (dk[j]!).rd).1
  have h1:=get_flatK dX.enc 8 dk (j*8+q) hlt
  rw[show(j*8+q) / 8=j by omega,show(j*8+q) % 8=q by omega] at h1
  rw[Array.getElem?_eq_getElem (by rw[size_flatK]; exact hlt),List.getElem?_eq_getElem (by omega)]
  rw[getElem!_pos _ _ (by rw[size_flatK]; exact hlt),getElem!_pos _ _ (by omega)] at h1
  rw[h1]
 have amx:HoldsK dX.enc 8 w g 0 dl.toArray:=fun j hj=>by
  rw[size_flatK,hsz] at hj
  have hj8:j / 8 < l.length:=by omega
  have e8:j / 8*8+j % 8=j:=by omega
  have hc:cs[j]? =some cs[j]:=List.getElem?_eq_getElem (by omega)
  refine⟨?_,?_⟩
  · have h1:(flatK dX.enc 8 dl.toArray)[j]? =cs[j]? :=by
     have h0:=Ri dl.toArray (j / 8) (j % 8) (by rw[hsz]; exact hj8) (Nat.mod_lt _ (by omega))
     rw[e8] at h0
     rw[h0]
     have:dl.toArray[j / 8]! =dX.mk ((cs.drop (j / 8*8)).take 8) l[j / 8] (O8 _ hj8):=by
      rw[getElem!_pos _ _ (by rw[hsz]; exact hj8)]
      have:=aj9 _ hj8
      rw[List.getElem?_eq_getElem (by rw[hdl]; exact hj8)] at this
      exact Option.some.inj this
     rw[this]
     show((cs.drop (j / 8*8)).take 8)[j % 8]? =cs[j]?
     rw[List.getElem?_take,if_pos (Nat.mod_lt _ (by omega)),List.getElem?_drop,e8]
    have h2:(flatK dX.enc 8 dl.toArray)[j]! =cs[j]:=by
     rw[hc] at h1
     obtain⟨h3,h4⟩:=Array.getElem?_eq_some_iff.1 h1
     rw[getElem!_pos (flatK dX.enc 8 dl.toArray) j h3,h4]
    rw[h2,Nat.zero_add]
    show w.cell? ⟨g,j,none⟩=some cs[j]
    have h5:cur.toList[j]? =some cs[j]:=by
     have:(cur.toList.take (l.length*8))[j]? =cs[j]? :=by rw[e7]
     rw[List.getElem?_take,if_pos (by omega),hc] at this
     exact this
    simp only[World.cell?,e3]
    simpa using h5
  · simp[World.frozen?,e3]
 have hFw:∀ (m:Nat) (os:Array Obj) (dk:Array (dX F w)) b,F b→(sortWorldK dX.enc 8 w g 0 m dk os).heap[b]? =w.heap[b]? :=fun m os dk b hb=>LU (s.fl b hb) fun h=>hgF (h ▸ hb)
 have hcmp:CmpLays Tryz.prog 103 #[] dX.enc 8 cfC g 0 dl.toArray.size w:=fun m os dk hdk x y=>by
  have hx:=x.rd.mono (fun _ h=>h) (hFw m os dk)
  have hy:=y.rd.mono (fun _ h=>h) (hFw m os dk)
  have hok:∀ z:dX F w,z.key.ok:=fun z=>by
   have hw:=z.rd.wf
   unfold Ch.t at hw
   simp only[T.wf,T.wfs,Bool.and_eq_true,decide_eq_true_eq,Bool.and_true] at hw
   obtain⟨a1,a2,a3,a4,⟨a5,a6⟩,a7,a8,a9⟩:=hw
   exact⟨⟨a1,a2⟩,⟨a3,⟨a4,by rw[bg,List.length_map] at a5; exact a5,fun n hn=>(by
    have:=T.nC.1 a6 (i64 n) (List.mem_map.2 ⟨n,hn,rfl⟩)
    simpa[T.wf] using this),a7,a8⟩,a9⟩⟩
  have hcall:=ahI (M:=big+3) (Nat.le_refl _) (hok x) (hok y)
  have hfl:∀ b,F b→b < (sortWorldK dX.enc 8 w g 0 m dk os).heap.size:=fun b hb=>by
   have h1:=s.fl b hb
   have h2:=hFw m os dk b hb
   rw[Array.getElem?_eq_getElem h1] at h2
   exact(Array.getElem?_eq_some_iff.1 h2).1
  have:=FK (E:=env) (F:=F) (w:=sortWorldK dX.enc 8 w g 0 m dk os) he (n:=big+3+1) (f:=103) (ts:=[x.key.t,y.key.t]) rfl (by rw[hcall]; simp) (vals:=[.agg x.enc.toArray,.agg y.enc.toArray]) rfl (fun q z u h1 h2=>by
   match q with
   |0=>simp at h1 h2; subst h1; subst h2; exact hx
   |1=>simp at h1 h2; subst h1; subst h2; exact hy
   |q+2=>simp at h1) hfl
  refine Calls.mono this fun e w'=>?_
  rintro⟨v,rfl,⟨z,F',c1,c2,c3⟩,hd⟩
  rw[hcall] at c1
  injection c1 with c1
  subst c1
  have hvv:v= .int .i64 (cfC x y):=by
   cases c2 with
   |frozen _ h=>cases h; rfl
  subst hvv
  refine⟨rfl,?_⟩
  obtain⟨p,hp⟩:=regrown_of_below (w:=sortWorldK dX.enc 8 w g 0 m dk os) (w':=w') ⟨c3.os,c3.tape,c3.output,c3.size,c3.old⟩
  refine⟨p.d - (sortWorldK dX.enc 8 w g 0 m dk os).drawn,p.os,?_⟩
  have hdp:w'.drawn=p.d:=by rw[hp]; rfl
  rw[hdp] at hd
  rw[hp]
  unfold redrawn World.drewN
  rw[Nat.add_sub_cancel' hd]
 have hmain:=AnyQ.slices_SortFunc sortL 8 (fun w=>(vU (show lM Tryz.prog 46=some true by kernel_rfl) w)) (fun w=>jM (show kJ Tryz.prog 46=some 8 by kernel_rfl) w) dX.enc (fun x=>(Aa x.rd).1) (fun x=>(Aa x.rd).2.1) cfC ahD 103 #[] g 0 cap dl.toArray w eg hcmp amx aqM (by rw[hsz]; have:=ho.1; have:=aU; omega)
 rw[hsz] at hmain
 have hargs:(κ i::[Value.func (.func 103) #[] #[]]).toArray= #[.slice (some ⟨g,0,none⟩) l.length cap,.func (.func 103) #[] #[]]:=by rw[e1]
 rw[hargs]
 refine oM he ⟨_,_,Tryz.func102,rfl⟩ (Calls.mono hmain ?_)
 rintro e w' ⟨rfl,d',n,os,hp,hs,rfl⟩
 rw[←hsz] at hp hs
 obtain⟨p1,_,p3⟩:=hp
 have hw':∀ a b:Array (dX F w),a.extract 0 a.size=a:=fun a b=>by simp
 rw[←p1,hw' d' d',p1,hw' _ d'] at p3
 have hperm:(d'.toList.map dX.key).Perm l:=by
  have:=p3.map dX.key
  simp only[List.toList_toArray] at this
  rwa [hkeys] at this
 refine⟨.tuple #[],rfl,⟨rfl,⟨rfl,rfl,rfl,?_,fun b hb hne=>?_⟩,(d'.toList.map dX.key).map Ch.t,⟨_,rfl,hperm,?_⟩,?_⟩,?_⟩
 · show w.heap.size≤((putRowK dX.enc 8 (Sort.ahead w n) g 0 d').heap++os).size
   rw[Array.size_append]
   have:(putRowK dX.enc 8 (Sort.ahead w n) g 0 d').heap.size=w.heap.size:=by unfold putRowK; rw[Sort.size_putRow]; rfl
   omega
 · refine LU hb fun h=>hne ?_
   rw[h,e1]; rfl
 · rw[List.pairwise_map,List.pairwise_iff_getElem]
   intro a b ha hb hab
   have ha':a < d'.size:=by simpa using ha
   have hb':b < d'.size:=by simpa using hb
   have:=hs a b (Nat.zero_le _) hab (by rw[←p1]; exact hb')
   unfold ltOf at this
   rw[decide_eq_false_iff_not,getElem!_pos d' b hb',getElem!_pos d' a ha'] at this
   exact this
 · have hd':d'.size=l.length:=by rw[p1,hsz]
   have hrow:=acN (enc:=dX.enc) (k:=8) (m:=n) (dk:=d') (os:=os) e3
   have hF0:=hFw n os d'
   generalize hwe:sortWorldK dX.enc 8 w g 0 n d' os=w1 at hrow hF0
   have hcl:(flatK dX.enc 8 d').size=l.length*8:=by rw[size_flatK,hd']
   refine⟨(flatK dX.enc 8 d').toList,⟨by simp[hcl,hd'],.inr ⟨g,cap,_,by rw[e1]; simp[hd'],Nat.zero_le _,hrow,by simpa[hd'] using e4,e5,by simpa[putCells] using e6,?_⟩⟩,by simpa[hd'] using o2,fun x hx=>?_,fun c hc=>?_,fun a x q y u ha hq hu=>?_⟩
   · have hcs2:cur.size=cap*8:=e6
     refine List.ext_getElem? fun j=>?_
     rw[List.getElem?_take]
     simp only[List.length_map,Array.length_toList,hd']
     split
     · rename_i hj
       have h1:j < cur.size:=by rw[hcs2]; calc j < l.length*8:=hj
        _≤cap*8:=Nat.mul_le_mul_right _ e4
       have h2:j < (flatK dX.enc 8 d').size:=by rw[hcl]; exact hj
       unfold putCells
       simp only[Array.getElem?_toList,Array.getElem?_mapIdx,Array.getElem?_eq_getElem h1,Option.map_some,Nat.zero_le,true_and,Nat.zero_add,hcl,hj,if_true,Nat.sub_zero,id]
       rw[getElem!_pos (flatK dX.enc 8 d') j h2,Array.getElem?_eq_getElem h2]
     · rename_i hj
       rw[Array.getElem?_toList,Array.getElem?_eq_none (by rw[hcl]; omega)]
   · obtain⟨c,_,rfl⟩:=List.mem_map.1 hx
     exact⟨rfl,fun h=>by cases h⟩
   · obtain⟨t,ht,rfl⟩:=List.getElem_of_mem hc
     simp only[Array.length_toList,hcl] at ht
     have h1:=Ri d' (t / 8) (t % 8) (by rw[hd']; omega) (Nat.mod_lt _ (by omega))
     rw[show t / 8*8+t % 8=t by omega,Array.getElem?_eq_getElem (by rw[hcl]; exact ht)] at h1
     have:=(Aa (d'[t / 8]!).rd).2.1 _ (List.mem_of_getElem? h1.symm)
     simpa using this
   · have ha':a < l.length:=by have:=(List.getElem?_eq_some_iff.1 ha).1; simpa[hd'] using this
     rw[List.getElem?_map,List.getElem?_map,Array.getElem?_toList,Array.getElem?_eq_getElem (by rw[hd']; exact ha')] at ha
     simp only[Option.map_some,Option.some.injEq] at ha
     subst ha
     have hq8:q < 8:=by have:=(List.getElem?_eq_some_iff.1 hq).1; simpa[Ch.t,T.cells] using this
     have h1:=Ri d' a q (by rw[hd']; exact ha') hq8
     rw[Array.getElem?_toList] at hu
     rw[hu] at h1
     have hz:d'[a]! =d'[a]'(by rw[hd']; exact ha'):=getElem!_pos _ _ _
     have:=(Aa (d'[a]!).rd).2.2 q y u (by rw[hz]; exact hq) h1.symm
     exact this.mono (fun _ h=>h) hF0
 · show w.drawn≤w.drawn+n
   omega
end
section
open Go.RowKit Go.Proofs
variable [Lv]
abbrev ED:Type:=T×T×Nat
def sA (c:Cf) (t:List (List En)) (es:List ED) (cc:Nat) (i:Int):St:=⟨slots 81 [(1,.t (.sl 1 (fP t))),(2,.ptr 0 0),(5,.mp 1),(17,.t (.sl 2 (c.w.map Px.t))),(18,.t (i64 (c.w.map Px.t).length)),(19,.t (i64 i))],[.box 56 6 (.t c.t),.map es cc]⟩
def sB (c:Cf) (t:List (List En)) (es:List ED) (cc:Nat) (n i:Int):St:=⟨slots 81 [(1,.t (.sl 1 (fP t))),(2,.ptr 0 0),(5,.mp 1),(35,.t (i64 n)),(36,.t (i64 i))],[.box 56 6 (.t c.t),.map es cc]⟩
def sC (c:Cf) (t:List (List En)) (es:List ED) (cc:Nat) (n i:Int) (l:List En) (j:Int):St:=⟨slots 81 [(1,.t (.sl 1 (fP t))),(2,.ptr 0 0),(5,.mp 1),(35,.t (i64 n)),(36,.t (i64 i)),(42,.t (.sl 6 (l.map En.t))),(43,.t (i64 (l.map En.t).length)),(44,.t (i64 j))],[.box 56 6 (.t c.t),.map es cc]⟩
def sX (c:Cf) (t:List (List En)) (es:List ED) (cc:Nat):St:=⟨slots 81 [(1,.t (.sl 1 (fP t))),(2,.ptr 0 0),(5,.mp 1)],[.box 56 6 (.t c.t),.map es cc]⟩
def sR (c:Cf) (t:List (List En)) (es:List ED) (cc since last:Nat) (seen:List Nat) (r:List Ch):St:=⟨slots 81 [(1,.t (.sl 1 (fP t))),(2,.ptr 0 0),(11,.own 1),(58,.ptr 2 0)],[.box 56 6 (.t c.t),.row 46 8 (r.map Ch.t),.iter 3 since seen last,.map es cc]⟩
def nxF (st:St) (d:Nat):St:=⟨dL st.tmps (some d) (.t (.au [.bool false])),st.heap⟩
def nxT (st:St) (d l m since cc:Nat) (seen:List Nat) (e:T×T×Nat):St:=⟨dL st.tmps (some d) (.t (.au [.bool true,e.1,e.2.1])),st.heap.set l (.iter m since (seen++ [e.2.2]) cc)⟩
theorem zLA (N:Nat) (c:Cf) (t:List (List En)):D8 env 76 [] 3 (dO env N 76 [] 0 3 (oq env 76 [.t c.t,.t (.sl 1 (fP t))]))=ah.ok (Ex.norm,sA c t [] 0 0):=by kernel_rfl
theorem ajS (N:Nat) (c:Cf) (t:List (List En)) (es:List ED) (cc:Nat) (i:Int):aF env N 76 0 3 (sA c t es cc i)=bif decide (i < (↑(List.map Px.t c.w).length:Int)) then bK (List.map Px.t c.w) i fun e=>chk (e.cells.length==2&& !e.aY) (chk (jB [0,0] e) (fA [0,0] e es (chk (jB [0,0] e) (fA [0,0] e es (chk (decide (cc≤140737488355328)) (aS (iR (es++ [(e,i64 0,cc)]) (↑cc:Int)) fun jH=>match (es++ [(e,i64 0,cc)])[jH]? with|some (k,fst,b)=>ah.ok (Ex.norm,sA c t ((es++ [(e,i64 0,cc)]).set jH (k,i64 1,b)) (cc+1) (IntKind.i64.wrap (i+1)))|none=>ah.stuck)) fun x v b=>chk (decide (b≤140737488355328)) (aS (iR es (↑b:Int)) fun jH=>match es[jH]? with|some (k,fst,b)=>ah.ok (Ex.norm,sA c t (es.set jH (k,i64 1,b)) cc (IntKind.i64.wrap (i+1)))|none=>ah.stuck))) fun x v x_1=>iT IntKind.i64 v fun a=>chk (jB [0,0] e) (fA [0,0] e es (chk (decide (cc≤140737488355328)) (aS (iR (es++ [(e,i64 0,cc)]) (↑cc:Int)) fun jH=>match (es++ [(e,i64 0,cc)])[jH]? with|some (k,fst,b)=>ah.ok (Ex.norm,sA c t ((es++ [(e,i64 0,cc)]).set jH (k,i64 (IntKind.i64.wrap (a+1)),b)) (cc+1) (IntKind.i64.wrap (i+1)))|none=>ah.stuck)) fun x v b=>chk (decide (b≤140737488355328)) (aS (iR es (↑b:Int)) fun jH=>match es[jH]? with|some (k,fst,b)=>ah.ok (Ex.norm,sA c t (es.set jH (k,i64 (IntKind.i64.wrap (a+1)),b)) cc (IntKind.i64.wrap (i+1)))|none=>ah.stuck)))) else ah.ok (Ex.exit 0,sX c t es cc):=by kernel_rfl
theorem zLB (N:Nat) (c:Cf) (t:List (List En)) (es:List ED) (cc:Nat):D8 env 76 [] 5 (dO env N 76 [] 4 1 (sX c t es cc))=ah.ok (Ex.norm,sB c t es cc (dh false [(↑(List.map Sd.t c.s).length:Int)] (↑(List.map (fun l=>T.sl 6 (List.map En.t l)) t).length:Int)) 0):=by kernel_rfl
theorem ajT (N:Nat) (c:Cf) (t:List (List En)) (es:List ED) (cc:Nat) (n i:Int):aF env N 76 0 8 (sB c t es cc n i)=bif decide (i < n) then bK (List.map (fun l=>T.sl 6 (List.map En.t l)) t) i fun e=>iO e fun n_1=>qE env N 76 8 11 {tmps:=slots 81 [(1,PV.t (T.sl 1 (List.map (fun l=>T.sl 6 (List.map En.t l)) t))),(2,PV.ptr 0 0),(5,PV.mp 1),(35,PV.t (i64 n)),(36,PV.t (i64 i)),(42,PV.t e),(43,PV.t (i64 n_1)),(44,PV.t (i64 0))],heap:=[aj.box 56 6 (PV.t c.t),aj.map es cc]} else ah.ok (Ex.exit 2,sX c t es cc):=by kernel_rfl
theorem Ue (N:Nat) (c:Cf) (t:List (List En)) (es:List ED) (cc:Nat) (n i:Int) (l:List En) (j:Int):pq env N 76 0 8 11 (sC c t es cc n i l j)=bif decide (j < (↑(List.map En.t l).length:Int)) then bK (List.map En.t l) j fun e=>chk (e.cells.length==6&& !e.aY) (chk (jB [0,0] (e.ay 0 2 true)) (fA [0,0] (e.ay 0 2 true) es (chk (jB [0,0] (e.ay 0 2 true)) (fA [0,0] (e.ay 0 2 true) es (chk (decide (cc≤140737488355328)) (aS (iR (es++ [(e.ay 0 2 true,i64 0,cc)]) (↑cc:Int)) fun jH=>match (es++ [(e.ay 0 2 true,i64 0,cc)])[jH]? with|some (k,fst,b)=>ah.ok (Ex.norm,sC c t ((es++ [(e.ay 0 2 true,i64 0,cc)]).set jH (k,i64 1,b)) (cc+1) n i l (IntKind.i64.wrap (j+1)))|none=>ah.stuck)) fun x v b=>chk (decide (b≤140737488355328)) (aS (iR es (↑b:Int)) fun jH=>match es[jH]? with|some (k,fst,b)=>ah.ok (Ex.norm,sC c t (es.set jH (k,i64 1,b)) cc n i l (IntKind.i64.wrap (j+1)))|none=>ah.stuck))) fun x v x_1=>iT IntKind.i64 v fun a=>chk (jB [0,0] (e.ay 0 2 true)) (fA [0,0] (e.ay 0 2 true) es (chk (decide (cc≤140737488355328)) (aS (iR (es++ [(e.ay 0 2 true,i64 0,cc)]) (↑cc:Int)) fun jH=>match (es++ [(e.ay 0 2 true,i64 0,cc)])[jH]? with|some (k,fst,b)=>ah.ok (Ex.norm,sC c t ((es++ [(e.ay 0 2 true,i64 0,cc)]).set jH (k,i64 (IntKind.i64.wrap (a+1)),b)) (cc+1) n i l (IntKind.i64.wrap (j+1)))|none=>ah.stuck)) fun x v b=>chk (decide (b≤140737488355328)) (aS (iR es (↑b:Int)) fun jH=>match es[jH]? with|some (k,fst,b)=>ah.ok (Ex.norm,sC c t (es.set jH (k,i64 (IntKind.i64.wrap (a+1)),b)) cc n i l (IntKind.i64.wrap (j+1)))|none=>ah.stuck)))) else ah.ok (Ex.exit 4,sB c t es cc n i):=by kernel_rfl
theorem Nr (N:Nat) (c:Cf) (t:List (List En)) (es:List ED) (cc:Nat) (n i:Int):qF env N 76 0 8 11 (.exit 4) (sB c t es cc n i)=ah.ok (Ex.norm,sB c t es cc n (IntKind.i64.wrap (i+1))):=by kernel_rfl
theorem zLR (N:Nat) (c:Cf) (t:List (List En)) (es:List ED) (cc:Nat):D8 env 76 [] 8 (acL env N 76 [] 6 2 (sX c t es cc))=ah.ok (Ex.norm,{tmps:=slots 81 [(1,PV.t (T.sl 1 (List.map (fun l=>T.sl 6 (List.map En.t l)) t))),(2,PV.ptr 0 0),(11,PV.own 1),(58,PV.ptr 2 0)],heap:=[aj.box 56 6 (PV.t c.t),aj.row 46 8 [],aj.iter 3 cc [] cc,aj.map es cc]}):=by kernel_rfl
theorem zLF (N:Nat) (c:Cf) (t:List (List En)) (es:List ED) (cc since last:Nat) (seen:List Nat) (r:List Ch):exX env 76 [] 8 (Yn env N 76 [8] 0 1 1 (nxF (sR c t es cc since last seen r) 59))=ah.ok (Ex.exit 6,{tmps:=slots 81 [(11,PV.own 0)],heap:=[aj.row 46 8 (List.map Ch.t r)]}):=by kernel_rfl
def sT (c:Cf) (t:List (List En)) (es:List ED) (cc since:Nat) (seen:List Nat) (r:List Ch) (x:Px) (v:Int):St:=⟨slots 81 [(1,.t (.sl 1 (fP t))),(2,.ptr 0 0),(11,.own 1),(58,.ptr 2 0),(59,.t (.au [.bool true,x.t,i64 v])),(60,.t (.bool true)),(61,.t (.au [x.t,i64 v]))],[.box 56 6 (.t c.t),.row 46 8 (r.map Ch.t),.iter 3 since seen cc,.map es cc]⟩
def sU (c:Cf) (t:List (List En)) (es:List ED) (cc since:Nat) (seen:List Nat) (r:List Ch) (x:Px) (v:Int) (x1 x2:T) (q:Rt) (b:Bool):St:=⟨slots 81 [(1,.t (.sl 1 (fP t))),(2,.ptr 0 0),(11,.own 1),(12,.ptr 4 0),(13,.ptr 5 0),(14,.t (.bool b)),(58,.ptr 2 0),(59,.t (.au [.bool true,x.t,i64 v])),(60,.t (.bool true)),(61,.t (.au [x.t,i64 v])),(62,.t x.t),(63,.t x2),(64,.t c.t),(65,.t (.sl 1 (fP t))),(66,.t x.t),(67,.t x1),(68,.t x2),(69,.t q.t),(70,.t (.bool b)),(71,.t (.bool b))],[.box 56 6 (.t c.t),.row 46 8 (r.map Ch.t),.iter 3 since seen cc,.map es cc,.box 25 2 (.t x.t),.box 44 6 (.t q.t)]⟩
def sE (r:List Ch):St:=⟨slots 81 [(11,.own 0)],[.row 46 8 (r.map Ch.t)]⟩
theorem atA (N:Nat) (c:Cf) (t:List (List En)) (es:List ED) (cc since last:Nat) (seen:List Nat) (r:List Ch) (x:Px) (v:Int) (n:Nat):(Yn env N 76 [8] 0 1 1 (nxT (sR c t es cc since last seen r) 59 2 3 since cc seen (x.t,i64 v,n)))=ah.ok (Ex.norm,{tmps:=slots 81 [(1,PV.t (T.sl 1 (List.map (fun l=>T.sl 6 (List.map En.t l)) t))),(2,PV.ptr 0 0),(11,PV.own 1),(58,PV.ptr 2 0),(59,PV.t (T.au [T.bool true,x.t,i64 v])),(60,PV.t (T.bool true))],heap:=[aj.box 56 6 (PV.t c.t),aj.row 46 8 (List.map Ch.t r),aj.iter 3 since (seen++ [n]) cc,aj.map es cc]}):=by kernel_rfl
theorem atB (N:Nat) (c:Cf) (t:List (List En)) (es:List ED) (cc since:Nat) (seen:List Nat) (r:List Ch) (x:Px) (v:Int):(CG env N 76 [8,2] 0 1 2 (sT c t es cc since seen r x v) fun e s=>(.ok (e,s):ah (Ex×St)))=cl N 101 [c.t,T.sl 1 (List.map (fun l=>T.sl 6 (List.map En.t l)) t),x.t] fun x_1=>cl N 100 [x_1] fun x_2=>aG x_2 0 fun y=>aG x_2 1 fun y_1=>chk (y.cells.length==6&& !y.aY) (ah.ok (Ex.norm,{tmps:=slots 81 [(1,PV.t (T.sl 1 (List.map (fun l=>T.sl 6 (List.map En.t l)) t))),(2,PV.ptr 0 0),(11,PV.own 1),(12,PV.ptr 4 0),(13,PV.ptr 5 0),(14,PV.t y_1),(58,PV.ptr 2 0),(59,PV.t (T.au [T.bool true,x.t,i64 v])),(60,PV.t (T.bool true)),(61,PV.t (T.au [x.t,i64 v])),(62,PV.t x.t),(63,PV.t x_2),(64,PV.t c.t),(65,PV.t (T.sl 1 (List.map (fun l=>T.sl 6 (List.map En.t l)) t))),(66,PV.t x.t),(67,PV.t x_1),(68,PV.t x_2),(69,PV.t y),(70,PV.t y_1),(71,PV.t y_1)],heap:=[aj.box 56 6 (PV.t c.t),aj.row 46 8 (List.map Ch.t r),aj.iter 3 since seen cc,aj.map es cc,aj.box 25 2 (PV.t x.t),aj.box 44 6 (PV.t y)]})):=by kernel_rfl
theorem agE (N:Nat) (c:Cf) (t:List (List En)) (es:List ED) (cc since:Nat) (seen:List Nat) (r:List Ch) (x:Px) (v:Int) (x1 x2:T) (q:Rt):(oN env N 76 [8,2] 3 1 (sU c t es cc since seen r x v x1 x2 q false) (zL env 76 [] 8))=ah.ok (Ex.norm,sR c t es cc since cc seen r):=by kernel_rfl
theorem ajz (N:Nat) (c:Cf) (t:List (List En)) (es:List ED) (cc since:Nat) (seen:List Nat) (r:List Ch) (x:Px) (v:Int) (x1 x2:T) (q:Rt):(oN env N 76 [8,2] 3 1 (sU c t es cc since seen r x v x1 x2 q true) (zL env 76 [] 8))=bW (T.mF 8) [T.agg [i64 x.a,i64 x.n,i64 q.n,i64 q.p.o,T.sl 1 (ints q.p.s),i64 q.p.h,i64 q.p.c,i64 q.f]] (chk (decide (((List.map Ch.t r).length+1)*80≤140737488355328)) (ah.ok (Ex.norm,{tmps:=slots 81 [(1,PV.t (T.sl 1 (List.map (fun l=>T.sl 6 (List.map En.t l)) t))),(2,PV.ptr 0 0),(11,PV.own 1),(58,PV.ptr 2 0)],heap:=[aj.box 56 6 (PV.t c.t),aj.row 46 8 (List.map Ch.t r++ [T.agg [i64 x.a,i64 x.n,i64 q.n,i64 q.p.o,T.sl 1 (ints q.p.s),i64 q.p.h,i64 q.p.c,i64 q.f]]),aj.iter 3 since seen cc,aj.map es cc]}))):=by kernel_rfl
theorem zLE (N:Nat):(dO env N 76 [] 9 3 (sE []))=cl N 102 [T.sl 8 [],T.fn 103 [] []] fun x=>chk x.plain (ah.ok (Ex.ret,{tmps:=slots 81 [(4,PV.own 0),(11,PV.own 0),(78,PV.own 0),(79,PV.t x),(80,PV.own 0)],heap:=[aj.row 46 8 []]})):=by kernel_rfl
theorem aoK (N:Nat) (r:List Ch):(akV env N 76 [] 9 0 1 (sE r))=ah.ok {tmps:=slots 81 [(11,PV.own 0),(78,PV.own 0)],heap:=[aj.row 46 8 (List.map Ch.t r)]}:=by kernel_rfl
theorem atz (N:Nat) (r m:List Ch):((akV env N 76 [] 9 0 1 (sE r)).bind fun s=>dO env N 76 [] 10 2 ⟨dL s.tmps (some 79) (.t (.au [])),[.row 46 8 (m.map Ch.t)]⟩)=ah.ok (Ex.ret,{tmps:=slots 81 [(4,PV.own 0),(11,PV.own 0),(78,PV.own 0),(79,PV.t (T.au [])),(80,PV.own 0)],heap:=[aj.row 46 8 (List.map Ch.t m)]}):=by kernel_rfl
end
section
open Go.RowKit Go.Proofs
def BQ (ks:List Px) (x:Px):List Px:=if x∈ks then ks else ks++ [x]
theorem UN {ks:List Px} {x y:Px}:y∈BQ ks x↔y∈ks∨y=x:=by
 unfold BQ
 split
 · rename_i h
   exact⟨.inl,fun h2=>h2.elim id fun e=>e ▸ h⟩
 · simp
theorem YI {ks:List Px} {x:Px} (h:ks.Nodup):(BQ ks x).Nodup:=by
 unfold BQ
 split
 · exact h
 · rename_i hx
   rw[List.nodup_append]
   exact⟨h,by simp,fun a ha b hb e=>by rw[List.mem_singleton.1 hb] at e; exact hx (e ▸ ha)⟩
structure IJ (es:List (T×T×Nat)) (cc:Nat) (ks:List Px):Prop where
 keys:es.map (·.1)=ks.map Px.t
 nd:ks.Nodup
 vals:∀ e∈es,∃ n,e.2.1=i64 n
 st:es.map (·.2.2)=List.range es.length
 cc:cc=es.length
theorem IJ.len {es:List (T×T×Nat)} {cc:Nat} {ks:List Px} (h:IJ es cc ks):es.length=ks.length:=by have:=congrArg List.length h.keys; simpa using this
theorem IJ.at {es:List (T×T×Nat)} {cc:Nat} {ks:List Px} (h:IJ es cc ks) {i:Nat} (hi:i < ks.length):∃ n,es[i]? =some (ks[i].t,i64 n,i):=by
 have hl:=h.len
 have e0:es[i]? =some es[i]:=List.getElem?_eq_getElem (by omega)
 have h1:=congrArg (fun z=>z[i]?) h.keys
 have h2:=congrArg (fun z=>z[i]?) h.st
 simp only[List.getElem?_map,e0,Option.map_some,List.getElem?_eq_getElem hi,Option.some.injEq,List.getElem?_range (show i < es.length by omega)] at h1 h2
 obtain⟨n,hn⟩:=h.vals _ (List.mem_of_getElem? e0)
 refine⟨n,e0.trans (congrArg some ?_)⟩
 generalize es[i]=e at h1 h2 hn
 obtain⟨e1,e2,e3⟩:=e
 simp only at h1 h2 hn
 subst h1; subst h2; subst hn; rfl
theorem Uw {x:Px}:∀ (es:List (T×T×Nat)) (ks:List Px) (i:Nat),es.map (·.1)=ks.map Px.t→
 jh [0,0] x.t es i=some (match ks.findIdx? (fun y=>decide (x=y)) with|none=>none|some j=>(es[j]?).map fun e=>(i+j,e.2.1,e.2.2))
 | [],[],i,_=>rfl
 | [],_::_,_,h=>by simp at h
 |_::_,[],_,h=>by simp at h
 |e::es,k::ks,i,h=>by
  simp only[List.map_cons,List.cons.injEq] at h
  unfold jh
  rw[h.1,show T.flat [0,0] x.t= [i64 x.a,i64 x.n] from rfl,show T.flat [0,0] k.t= [i64 k.a,i64 k.n] from rfl,JI,List.findIdx?_cons]
  by_cases hx:x=k
  · rw[decide_eq_true hx]; simp
  · rw[decide_eq_false hx]
    simp only[Bool.false_eq_true,if_false]
    rw[Uw es ks (i+1) h.2]
    cases ks.findIdx? (fun y=>decide (x=y)) with
    |none=>rfl
    |some j=>
     simp only[Option.map_some,List.getElem?_cons_succ]
     cases es[j]? with
     |none=>rfl
     |some e'=>simp only[Option.map_some]; congr 3; omega
theorem Vu {es:List (T×T×Nat)} {i:Nat} (h:es.map (·.2.2)=List.range es.length) (hi:i < es.length):iR es (i:Int)=some i:=by
 unfold iR
 rw[List.findIdx?_eq_some_iff_getElem]
 have hg:∀ j (hj:j < es.length),es[j].2.2=j:=fun j hj=>by
  have:=congrArg (fun z=>z[j]?) h
  simpa[List.getElem?_range hj,List.getElem?_eq_getElem hj] using this
 refine⟨hi,by rw[hg i hi]; simp,fun j hj=>?_⟩
 rw[hg j (by omega)]
 simp; omega
section
variable {β:Type}
def X4 (e:T) (es:List (T×T×Nat)) (cc:Nat) (G:List (T×T×Nat)→Nat→ah β):ah β:=
 chk (jB [0,0] e) (fA [0,0] e es (chk (jB [0,0] e) (fA [0,0] e es (chk (decide (cc≤140737488355328)) (aS (iR (es++ [(e,i64 0,cc)]) (cc:Int)) fun i=>match (es++ [(e,i64 0,cc)])[i]? with|some (k,_,b)=>G ((es++ [(e,i64 0,cc)]).set i (k,i64 1,b)) (cc+1)|none=>ah.stuck))
  fun _ _ b=>chk (decide (b≤140737488355328)) (aS (iR es (b:Int)) fun i=>match es[i]? with|some (k,_,b)=>G (es.set i (k,i64 1,b)) cc|none=>ah.stuck)))
  fun _ v _=>iT IntKind.i64 v fun a=>chk (jB [0,0] e) (fA [0,0] e es (chk (decide (cc≤140737488355328)) (aS (iR (es++ [(e,i64 0,cc)]) (cc:Int)) fun i=>match (es++ [(e,i64 0,cc)])[i]? with|some (k,_,b)=>G ((es++ [(e,i64 0,cc)]).set i (k,i64 (IntKind.i64.wrap (a+1)),b)) (cc+1)|none=>ah.stuck))
   fun _ _ b=>chk (decide (b≤140737488355328)) (aS (iR es (b:Int)) fun i=>match es[i]? with|some (k,_,b)=>G (es.set i (k,i64 (IntKind.i64.wrap (a+1)),b)) cc|none=>ah.stuck)))
def wW (p:List (T×T×Nat)×Nat) (x:Px):List (T×T×Nat)×Nat:=match jh [0,0] x.t p.1 0 with
 |some (some (i,.int .i64 a,b))=>(p.1.set i (x.t,i64 (IntKind.i64.wrap (a+1)),b),p.2)
 |_=>(p.1++ [(x.t,i64 1,p.2)],p.2+1)
theorem ahC {es:List (T×T×Nat)} {cc:Nat} {ks:List Px} {x:Px} (h:IJ es cc ks) (hc:cc≤big):(∀ G:List (T×T×Nat)→Nat→ah β,X4 x.t es cc G=G (wW (es,cc) x).1 (wW (es,cc) x).2)∧IJ (wW (es,cc) x).1 (wW (es,cc) x).2 (BQ ks x):=by
 have hf:=Uw (x:=x) es ks 0 h.keys
 have hlen:=h.len
 have hcc:=h.cc
 have hb:cc≤140737488355328:=by have:=aU; omega
 cases hk:ks.findIdx? (fun y=>decide (x=y)) with
 |none=>
  rw[hk] at hf
  simp only at hf
  have hx:x∉ks:=fun hx=>by
   have:=List.findIdx?_eq_none_iff.1 hk x hx
   simp at this
  have hbf:wW (es,cc) x=(es++ [(x.t,i64 1,cc)],cc+1):=by unfold wW; simp only[hf]
  have hst:(es++ [(x.t,i64 0,cc)]).map (·.2.2)=List.range (es++ [(x.t,i64 0,cc)]).length:=by
   rw[List.map_append,h.st,List.length_append]
   show List.range es.length++ [cc]=List.range (es.length+1)
   rw[List.range_succ,hcc]
  have hs:=Vu (i:=cc) hst (by simp; omega)
  rw[hbf]
  refine⟨fun G=>?_,?_⟩
  · unfold X4
    rw[QD,aN]
    unfold fA
    rw[hf]
    simp only[aN]
    rw[decide_eq_true hb,aN,hs]
    simp only[aS]
    rw[hcc,List.getElem?_append_right (Nat.le_refl _),Nat.sub_self]
    simp only[List.getElem?_cons_zero]
    rw[List.set_append_right _ _ (Nat.le_refl _),Nat.sub_self]
    rfl
  · unfold BQ
    rw[if_neg hx]
    refine⟨by rw[List.map_append,List.map_append,h.keys]; rfl,?_,fun e he=>?_,?_,by simp[hcc]⟩
    · have:=YI (x:=x) h.nd; unfold BQ at this; rwa [if_neg hx] at this
    · rcases List.mem_append.1 he with he|he
      · exact h.vals e he
      · rw[List.mem_singleton.1 he]; exact⟨1,rfl⟩
    · rw[List.map_append,h.st,List.length_append]
      show List.range es.length++ [cc]=List.range (es.length+1)
      rw[List.range_succ,hcc]
 |some j=>
  rw[hk] at hf
  obtain⟨hj,XH,_⟩:=List.findIdx?_eq_some_iff_getElem.1 hk
  have hxk:x=ks[j]:=by simpa using XH
  obtain⟨a,ha⟩:=h.at hj
  rw[←hxk] at ha
  simp only[ha,Option.map_some,Nat.zero_add] at hf
  have hs:=Vu (i:=j) h.st (by omega)
  have hbf:wW (es,cc) x=(es.set j (x.t,i64 (IntKind.i64.wrap (a+1)),j),cc):=by unfold wW; simp only[hf]
  have hjb:decide (j≤140737488355328)=true:=decide_eq_true (by omega)
  rw[hbf]
  refine⟨fun G=>?_,?_⟩
  · unfold X4
    rw[QD,aN]
    unfold fA
    rw[hf]
    simp only[aN,dI]
    rw[hjb,aN,hs]
    simp only[aS,ha]
  · unfold BQ
    rw[if_pos (by rw[hxk]; exact List.getElem_mem _)]
    refine⟨?_,h.nd,fun e he=>?_,?_,by simp[hcc]⟩
    · rw[List.map_set,h.keys]
      refine List.ext_getElem? fun i=>?_
      rw[List.getElem?_set]
      split
      · rename_i e; subst e
        rw[List.length_map]
        split
        · rw[List.getElem?_map,List.getElem?_eq_getElem hj,hxk]; rfl
        · omega
      · rfl
    · rcases List.mem_or_eq_of_mem_set he with he|he
      · exact h.vals e he
      · rw[he]; exact⟨_,rfl⟩
    · rw[List.map_set,h.st,List.length_set]
      refine List.ext_getElem? fun i=>?_
      rw[List.getElem?_set]
      split
      · rename_i e; subst e
        rw[List.length_range]
        split
        · rw[List.getElem?_range (by omega)]
        · omega
      · rfl
end
theorem Ej:∀ (n:Nat) (l:List Nat),l.Nodup→(∀ x∈l,x < n)→l.length≤n
 |0,[],_,_=>Nat.le_refl _
 |0,x::l,_,h=>absurd (h x List.mem_cons_self) (Nat.not_lt_zero _)
 |n+1,l,hn,h=>by
  by_cases hm:n∈l
  · have h1:=Ej n (l.erase n) (hn.erase n) fun x hx=>by
     have h2:=h x (List.mem_of_mem_erase hx)
     have h3:x≠n:=fun e=>by rw[e] at hx; exact(List.Nodup.not_mem_erase hn) hx
     omega
    rw[List.length_erase_of_mem hm] at h1
    omega
  · exact Nat.le_succ_of_le (Ej n l hn fun x hx=>by
     have h2:=h x hx
     have h3:x≠n:=fun e=>hm (e ▸ hx)
     omega)
end
end Go.aT
