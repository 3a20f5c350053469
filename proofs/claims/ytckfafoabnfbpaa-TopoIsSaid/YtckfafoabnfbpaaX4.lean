/- The texts of a proof, one behind the other: an interpreter and its soundness, what the functions of the program answer, and plain laws on that. -/
import Derived.Test.YtckfafoabnfbpaaX3
import Derived.Test.YtckfafoabnfbpaaX2
import Derived.Test.YtckfafoabnfbpaaK10
import Derived.Test.YtckfafoabnfbpaaX1
set_option linter.unusedVariables false
set_option linter.unusedSimpArgs false
set_option linter.unnecessarySimpa false
set_option linter.unusedSectionVars false
set_option maxRecDepth 100000
namespace Go.aO
section
open Go.RowKit Go.Proofs
def FT (l:List Px) (i:Nat):Bool:=match l[i]? with|some x=> !jo x||(l.take i).contains x|none=>false
def xK (l:List Sd) (a:Int) (i:Nat):Bool:=match l[i]? with|some s=> !(nP s&& !(s.a==a))||((l.take i).map Sd.a).contains s.a|none=>false
theorem aai {l:List Px}:(dH (FT l) 0 l.length).isNone=jl id jo [] l:=by
 rw[Bool.eq_iff_iff,AU,Option.isNone_iff_eq_none]
 constructor
 · intro h i x hx
   have:=iI h i (by omega) (by have:=(List.getElem?_eq_some_iff.1 hx).1; omega)
   unfold FT at this
   rw[hx] at this
   simp only[Bool.or_eq_false_iff,Bool.not_eq_false'] at this
   exact⟨by simpa using this.2,this.1⟩
 · intro h
   cases hk:dH (FT l) 0 l.length with
   |none=>rfl
   |some j=>
    obtain⟨_,hj,hp⟩:=lW hk
    have hx:=h j l[j] (List.getElem?_eq_getElem (by omega))
    unfold FT at hp
    rw[List.getElem?_eq_getElem (show j < l.length by omega)] at hp
    simp only[Bool.or_eq_true,Bool.not_eq_true'] at hp
    rcases hp with hp|hp
    · rw[hp] at hx; exact absurd hx.2 (by simp)
    · have:=hx.1; simp only[List.nil_append,List.map_id_fun,id] at this; rw[hp] at this; cases this
theorem Vz {l:List Sd} {a:Int}:(dH (xK l a) 0 l.length).isNone=jl Sd.a nP [a] l:=by
 rw[Bool.eq_iff_iff,AU,Option.isNone_iff_eq_none]
 have key:∀ (i:Nat) (s:Sd),([a]++(l.take i).map Sd.a).contains s.a=(s.a==a||((l.take i).map Sd.a).contains s.a):=fun i s=>by rw[List.singleton_append,List.contains_cons]
 constructor
 · intro h i x hx
   have:=iI h i (by omega) (by have:=(List.getElem?_eq_some_iff.1 hx).1; omega)
   unfold xK at this
   rw[hx] at this
   simp only[Bool.or_eq_false_iff,Bool.not_eq_false',Bool.and_eq_true,Bool.not_eq_true'] at this
   rw[key,this.1.2,this.2]
   exact⟨rfl,this.1.1⟩
 · intro h
   cases hk:dH (xK l a) 0 l.length with
   |none=>rfl
   |some j=>
    obtain⟨_,hj,hp⟩:=lW hk
    have hx:=h j l[j] (List.getElem?_eq_getElem (by omega))
    rw[key,Bool.or_eq_false_iff] at hx
    unfold xK at hp
    rw[List.getElem?_eq_getElem (show j < l.length by omega)] at hp
    simp only[hx.1.1,hx.1.2,hx.2,Bool.not_false,Bool.and_self,Bool.not_true,Bool.or_self] at hp
    cases hp
variable [Lv]
theorem iW {N:Nat} {f:FuncId} {r q:Nat} {s s':St} {e:Ex} (h:eF (kE env N f 0 r q) N s= .ok (e,s')):oq env N f r q s=nR env N f 0 r q e s':=by
 unfold oq; rw[h]; rfl
theorem aaj {M i:Nat} {l:List Px} {x:Px} (hM:big+1≤M) (hl:l.length≤big) (hx:l[i]? =some x):oq env M 68 2 7 (RG l i 0)=bif (l.take i).contains x then .ok (.ret,⟨slots 34 [(2,.t (.bool false))],[]⟩) else .ok (.norm,RF l (i+1:Nat)):=by
 have hi:=(List.getElem?_eq_some_iff.1 hx).1
 have it:=rU (B:=kE env M 68 0 2 7) (S:=fun k=>RG l i k) (R:=⟨slots 34 [(2,.t (.bool false))],[]⟩) (X:=RF l i) (id:=2) (fun y=>y==x) (l.take i) (n:=M) (by rw[List.length_take]; omega) (fun j y hy=>by
  have hj:j < i:=by have:=(List.getElem?_eq_some_iff.1 hy).1; rw[List.length_take] at this; omega
  have hy':l[j]? =some y:=by rw[List.getElem?_take,if_pos hj] at hy; exact hy
  rw[PK,decide_eq_true (by omega)]
  simp only[cond_true]
  rw[aF (aI hy'),aF (aI hx)]
  have e:T.fA [0,0] y.t.cells x.t.cells=some (y.a==x.a&&(y.n==x.n&&true)):=rfl
  have e2:(y.a==x.a&&(y.n==x.n&&true))=(y==x):=by
   rw[Bool.eq_iff_iff]; obtain⟨a,n⟩:=y; obtain⟨a',n'⟩:=x; simp
  rw[e,e2,wrap_succ (show j≤big by omega)])
  (by rw[List.length_take,Nat.min_eq_left (by omega),PK,decide_eq_false (by omega)]; rfl)
 have e:(l.take i).any (fun y=>y==x)=(l.take i).contains x:=by
  rw[Bool.eq_iff_iff,List.any_eq_true,List.contains_iff_mem]
  exact⟨fun⟨y,h,e⟩=>(beq_iff_eq.1 e) ▸ h,fun h=>⟨x,h,beq_self_eq_true x⟩⟩
 rw[e] at it
 cases hc:(l.take i).contains x with
 |true=>rw[hc] at it; exact(iW it).trans (ML M false)
 |false=>rw[hc] at it; refine(iW it).trans ((Gx M l i).trans ?_); rw[wrap_succ (show i≤big by omega)]; rfl
theorem acB {M:Nat} {l:List Px} (hM:big+50≤M) (hl:dN Px.ok l):aB env (M+1) 68 [.sl 2 (l.map Px.t)]= .ok (.bool (decide (l.length≤8)&&jl id jo [] l)):=by
 obtain⟨m,rfl⟩:=gV (show 1≤M by omega)
 have hb:=hl.1
 rw[q68,dA (jD (gq (fun _ h=>Px.ok.wf h) hl)),←aai]
 have rd:∀ j,j < l.length→aT env (m+1) 68 0 2 (RF l j)=bif FT l j then .ok (.ret,⟨slots 34 [(2,.t (.bool false))],[]⟩) else .ok (.norm,RF l (j+1:Nat)):=fun j hj=>by
  have e1:l[j]? =some l[j]:=List.getElem?_eq_getElem hj
  rw[aaM,decide_eq_true (by rw[List.length_map]; omega)]
  simp only[cond_true]
  rw[aF (aI e1),dM (Ug (by omega) (hl.2 _ (List.mem_of_getElem? e1)))]
  have e2:FT l j=(!jo l[j]||(l.take j).contains l[j]):=by unfold FT; rw[e1]
  rw[e2]
  cases jo l[j] with
  |false=>rfl
  |true=>simp only[Bool.not_true,cond_false,Bool.false_or]; exact aaj (by omega) hb e1
 have it:=fZ (B:=aT env (m+1) 68 0 2) (S:=fun i=>RF l i) (R:=fun _=>⟨slots 34 [(2,.t (.bool false))],[]⟩) (X:=⟨slots 34 [(0,.t (.sl 2 (l.map Px.t)))],[]⟩) (id:=0) (FT l) l.length 0 (m+1) (by omega)
  (fun j h0 h1 hp=>by rw[rd j (by omega),hp]; rfl) (fun j h0 h1 hp=>by rw[rd j (by omega),hp]; rfl)
  (by rw[Nat.zero_add,aaM,decide_eq_false (by rw[List.length_map]; omega)]; rfl)
 cases hk:dH (FT l) 0 l.length with
 |some j=>rw[hk] at it; rw[Option.isNone_some,Bool.and_false]; exact(aN it).trans (SH (m+1) false)
 |none=>
  rw[hk] at it
  rw[Option.isNone_none,Bool.and_true]
  refine(aN it).trans ((MN (m+1) l).trans ?_)
  rw[List.length_map,show decide ((l.length:Int)≤8)=decide (l.length≤8) from decide_eq_decide.2 (by omega)]
theorem VB {M i:Nat} {l:List Sd} {a:Int} {x:Sd} (hM:big+1≤M) (hl:l.length≤big) (hx:l[i]? =some x):oq env M 69 2 8 (V5 l a i x 0)=bif ((l.take i).map Sd.a).contains x.a then .ok (.ret,⟨slots 70 [(4,.t (.bool false))],[]⟩) else .ok (.norm,RJ l a (i+1:Nat)):=by
 have hi:=(List.getElem?_eq_some_iff.1 hx).1
 have it:=rU (B:=kE env M 69 0 2 8) (S:=fun k=>V5 l a i x k) (R:=⟨slots 70 [(4,.t (.bool false))],[]⟩) (X:=RJ l a i) (id:=2) (fun y=>y.a==x.a) (l.take i) (n:=M) (by rw[List.length_take]; omega) (fun j y hy=>by
  have hj:j < i:=by have:=(List.getElem?_eq_some_iff.1 hy).1; rw[List.length_take] at this; omega
  have hy':l[j]? =some y:=by rw[List.getElem?_take,if_pos hj] at hy; exact hy
  rw[PL,decide_eq_true (by omega)]
  simp only[cond_true]
  rw[aF (aI hy')]
  have e:y.t.ah 0 1 false=i64 y.a:=rfl
  rw[e]
  simp only[bM]
  rw[wrap_succ (show j≤big by omega)])
  (by rw[List.length_take,Nat.min_eq_left (by omega),PL,decide_eq_false (by omega)]; rfl)
 have e:(l.take i).any (fun y=>y.a==x.a)=((l.take i).map Sd.a).contains x.a:=by
  rw[Bool.eq_iff_iff,List.any_eq_true,List.contains_iff_mem,List.mem_map]
  exact⟨fun⟨y,h,e⟩=>⟨y,h,beq_iff_eq.1 e⟩,fun⟨y,h,e⟩=>⟨y,h,beq_iff_eq.2 e⟩⟩
 rw[e] at it
 cases hc:((l.take i).map Sd.a).contains x.a with
 |true=>rw[hc] at it; exact(iW it).trans (MO M false)
 |false=>rw[hc] at it; refine(iW it).trans ((Gy M l a i).trans ?_); rw[wrap_succ (show i≤big by omega)]; rfl
theorem acC {M:Nat} {l:List Sd} {a:Int} (hM:big+53≤M) (hl:dN Sd.ok l) (ha:aS a=true):aB env (M+1) 69 [.sl 4 (l.map Sd.t),i64 a]= .ok (.bool (decide (l.length≤8)&&jl Sd.a nP [a] l)):=by
 obtain⟨m,rfl⟩:=gV (show 1≤M by omega)
 have hb:=hl.1
 rw[q69,dA (iY (gq (fun _ h=>Sd.ok.wf h) hl) (bC ha)),←Vz]
 have rd:∀ j,j < l.length→aT env (m+1) 69 0 2 (RJ l a j)=bif xK l a j then .ok (.ret,⟨slots 70 [(4,.t (.bool false))],[]⟩) else .ok (.norm,RJ l a (j+1:Nat)):=fun j hj=>by
  have e1:l[j]? =some l[j]:=List.getElem?_eq_getElem hj
  have ho:=hl.2 _ (List.mem_of_getElem? e1)
  have c1:(l[j].t.cells.length==4&& !l[j].t.dS)=true:=rfl
  have p0:l[j].t.ah 0 1 false=i64 l[j].a:=rfl
  have p1:l[j].t.ah 1 1 false=i64 l[j].r:=rfl
  have p2:l[j].t.ah 2 1 false= .sl 6 (l[j].i.map Ru.t):=rfl
  have p3:l[j].t.ah 3 1 false= .sl 6 (l[j].o.map Ru.t):=rfl
  have e2:xK l a j=(!(nP l[j]&& !(l[j].a==a))||((l.take j).map Sd.a).contains l[j].a):=by unfold xK; rw[e1]
  rw[aaN,decide_eq_true (by rw[List.length_map]; omega)]
  simp only[cond_true]
  rw[aF (aI e1),c1,bD,p0,p1,p2,p3,e2]
  simp only[bM]
  unfold nP nX
  by_cases h1:l[j].a < 1
  · rw[decide_eq_true h1,decide_eq_false (show ¬ l[j].a > 0 by omega)]; rfl
  rw[decide_eq_false h1,decide_eq_true (show l[j].a > 0 by omega)]
  by_cases h2:l[j].a > 4294967295
  · rw[decide_eq_true h2,decide_eq_false (show ¬ l[j].a≤4294967295 by omega)]; rfl
  rw[decide_eq_false h2,decide_eq_true (show l[j].a≤4294967295 by omega)]
  cases h3:l[j].a==a with
  |true=>simp only[cond_false,cond_true,Bool.not_true,Bool.and_false,Bool.not_false,Bool.true_or]
  |false=>
  by_cases h4:l[j].r < 1
  · rw[decide_eq_true h4,decide_eq_false (show ¬ l[j].r≥1 by omega)]; rfl
  rw[decide_eq_false h4,decide_eq_true (show l[j].r≥1 by omega)]
  by_cases h5:l[j].r > 3
  · rw[decide_eq_true h5,decide_eq_false (show ¬ l[j].r≤3 by omega)]; rfl
  rw[decide_eq_false h5,decide_eq_true (show l[j].r≤3 by omega)]
  simp only[cond_false]
  rw[dM (Uk (by omega) ho.i)]
  cases h6:qU l[j].i true with
  |false=>rfl
  |true=>
  simp only[Bool.not_true,cond_false]
  rw[dM (Uk (by omega) ho.o)]
  cases h7:qU l[j].o false with
  |false=>rfl
  |true=>
  simp only[Bool.not_true,cond_false,Bool.and_self,Bool.not_false,Bool.and_true,Bool.false_or]
  exact VB (x:=l[j]) (by omega) hb e1
 have it:=fZ (B:=aT env (m+1) 69 0 2) (S:=fun i=>RJ l a i) (R:=fun _=>⟨slots 70 [(4,.t (.bool false))],[]⟩) (X:=⟨slots 70 [(0,.t (.sl 4 (l.map Sd.t)))],[]⟩) (id:=0) (xK l a) l.length 0 (m+1) (by omega)
  (fun j h0 h1 hp=>by rw[rd j (by omega),hp]; rfl) (fun j h0 h1 hp=>by rw[rd j (by omega),hp]; rfl)
  (by rw[Nat.zero_add,aaN,decide_eq_false (by rw[List.length_map]; omega)]; rfl)
 cases hk:dH (xK l a) 0 l.length with
 |some j=>rw[hk] at it; rw[Option.isNone_some,Bool.and_false]; exact(aN it).trans (SK (m+1) false)
 |none=>
  rw[hk] at it
  rw[Option.isNone_none,Bool.and_true]
  refine(aN it).trans ((MP (m+1) l).trans ?_)
  rw[List.length_map,show decide ((l.length:Int)≤8)=decide (l.length≤8) from decide_eq_decide.2 (by omega)]
theorem NC {M:Nat} {c:Cf} (hM:big+56≤M) (h:c.ok):aB env (M+1) 54 [c.t]= .ok (.bool (dZ c)):=by
 obtain⟨m,rfl⟩:=gV (show 1≤M by omega)
 rw[q54,dA (jD h.wf)]
 unfold dZ nX
 rw[IC,IC]
 by_cases h1:c.a > 0
 case neg=>rw[decide_eq_false h1]; rfl
 by_cases h2:c.a≤4294967295
 case neg=>rw[decide_eq_true h1,decide_eq_false h2]; rfl
 by_cases h3:c.d > 0
 case neg=>rw[decide_eq_true h1,decide_eq_true h2,decide_eq_false h3]; rfl
 by_cases h4:c.d≤4294967295
 case neg=>rw[decide_eq_true h1,decide_eq_true h2,decide_eq_true h3,decide_eq_false h4]; rfl
 rw[decide_eq_true h1,decide_eq_true h2,decide_eq_true h3,decide_eq_true h4]
 simp only[cond_true,Bool.and_self,Bool.true_and]
 rw[dM (acA h.h)]
 cases holdB c.h with
 |false=>rfl
 |true=>
 simp only[cond_true,Bool.true_and]
 by_cases h5:c.k≥1
 case neg=>rw[decide_eq_false h5]; rfl
 by_cases h6:c.k≤1000
 case neg=>rw[decide_eq_true h5,decide_eq_false h6]; simp
 rw[decide_eq_true h5,decide_eq_true h6]
 simp only[cond_true,Bool.true_and]
 rw[dM (acB (by omega) h.w)]
 by_cases h7:c.w.length≤8
 case neg=>rw[decide_eq_false h7]; rfl
 rw[decide_eq_true h7]
 simp only[Bool.true_and]
 cases hf:jl id jo [] c.w with
 |false=>simp
 |true=>
 simp only[cond_true,Bool.true_and]
 rw[aV (acC (by omega) h.s h.a)]
end
section
open Go.RowKit Go.Proofs
variable [Lv]
def sN (t:List Cf) (i:Nat):Nat:=((t[i]?).map fun c=>c.s.length).getD 0
def sG (t:List Cf) (q:Nat→Nat→Bool) (i:Nat):Bool:=(dH (q i) 0 (sN t i)).isSome
def lG (t:List Cf) (q:Nat→Nat→Bool):Option Nat:=dH (sG t q) 0 t.length
def wM (r:Option Nat):T:= .ak [i64 ((r.getD 0:Nat):Int),.bool r.isSome]
theorem Uo {t:List Cf} (ht:dN Cf.ok t) (hs:∀ c∈t,c.s.length≤big) {i k:Int}:aS (yT (iE t i k))=true∧aS (yU (iE t i k))=true:=by
 have hb:=ht.1
 cases h:iE t i k with
 |none=>exact⟨by decide,by decide⟩
 |some p=>
  obtain⟨j,m⟩:=p
  unfold iE at h
  split at h
  · split at h
    · split at h
      · rename_i s _
        split at h
        · rename_i j' hj
          split at h
          · rename_i d hd
            rw[Option.map_eq_some_iff] at h
            obtain⟨m',h1,h2⟩:=h
            injection h2 with h2 h3
            subst h2; subst h3
            have hjl:=yX hj
            have hm:m' < d.s.length:=by
             unfold idxOf at h1
             exact(List.findIdx?_eq_some_iff_getElem.1 h1).1
            have:=hs d (List.mem_of_getElem? hd)
            exact⟨fQ (by show j'≤big; omega),fQ (by show m'≤big; omega)⟩
          · cases h
        · cases h
      · cases h
    · cases h
  · cases h
theorem Ny {M:Nat} {t:List Cf} {g:FuncId} {cs:List T} {q:Nat→Nat→Bool} (hM:big+8≤M) (ht:dN Cf.ok t) (hw:T.wfs cs=true) (hm:env.mode g=0)
 (hq:∀ (i k:Nat) (c:Cf) (s:Sd),t[i]? =some c→c.s[k]? =some s→aB env M g ([i64 i,i64 k,i64 (yT (iE t i k)),i64 (yU (iE t i k)),.bool (iE t i k).isSome]++cs)= .ok (.bool (q i k))):
 aB env (M+1) 33 [.sl 6 (t.map Cf.t),.fn g [] cs]= .ok (wM (lG t q)):=by
 have hb:=ht.1
 have hbg:=bH
 obtain⟨m,rfl⟩:=gV (show 1≤M by omega)
 rw[q33,dA (iY (jR ht) (Aj hw))]
 have inner:∀ (i:Nat) (c:Cf),t[i]? =some c→oq env (m+1) 33 2 5 (WA t (.fn g [] cs) i ((c.s.map Sd.t).length:Int) 0)=bif sG t q i then .ok (.ret,⟨slots 43 [(4,.t (i64 i)),(5,.t (.bool true))],[]⟩) else .ok (.norm,UD t (.fn g [] cs) ((i+1:Nat):Int)):=fun i c hc=>by
  have hco:=ht.2 c (List.mem_of_getElem? hc)
  have hcl:=hco.s.1
  have hi:i < t.length:=(List.getElem?_eq_some_iff.1 hc).1
  have rd:∀ k,k < c.s.length→kE env (m+1) 33 0 2 5 (WA t (.fn g [] cs) i ((c.s.map Sd.t).length:Int) (k:Nat))=bif q i k then .ok (.ret,⟨slots 43 [(4,.t (i64 i)),(5,.t (.bool true))],[]⟩) else .ok (.norm,WA t (.fn g [] cs) i ((c.s.map Sd.t).length:Int) ((k+1:Nat):Int)):=fun k hk=>by
   have hs:c.s[k]? =some c.s[k]:=List.getElem?_eq_getElem hk
   rw[PG,decide_eq_true (by rw[List.length_map]; omega)]
   simp only[cond_true]
   rw[aV (Dl (by omega) ht (fQ (by omega)) (fQ (by omega)))]
   simp only[AO,aH,List.getElem?_cons_zero,List.getElem?_cons_succ]
   refine(qL hm).trans ?_
   rw[List.nil_append,aV (hq i k c _ hc hs),wrap_succ (show k≤big by omega)]
   rfl
  have it:=fZ (B:=kE env (m+1) 33 0 2 5) (S:=fun k=>WA t (.fn g [] cs) i ((c.s.map Sd.t).length:Int) (k:Nat)) (R:=fun _=>⟨slots 43 [(4,.t (i64 i)),(5,.t (.bool true))],[]⟩) (X:=UD t (.fn g [] cs) i) (id:=2) (q i) c.s.length 0 (m+1) (by omega)
   (fun k h0 h1 hp=>by rw[rd k (by omega),hp]; rfl) (fun k h0 h1 hp=>by rw[rd k (by omega),hp]; rfl)
   (by rw[Nat.zero_add,PG,decide_eq_false (by rw[List.length_map]; omega)]; rfl)
  have hn:sN t i=c.s.length:=by unfold sN; rw[hc]; rfl
  unfold sG
  rw[hn]
  cases hk:dH (q i) 0 c.s.length with
  |some k=>rw[hk] at it; exact(iW it).trans (Me (m+1) i)
  |none=>
   rw[hk] at it
   refine(iW it).trans ((Gv (m+1) t _ i).trans ?_)
   rw[wrap_succ (show i≤big by omega)]; first|done|rfl
 have it:=fZ (B:=aT env (m+1) 33 0 2) (S:=fun i=>UD t (.fn g [] cs) (i:Nat)) (R:=fun i=>⟨slots 43 [(4,.t (i64 i)),(5,.t (.bool true))],[]⟩) (X:=⟨slots 43 [],[]⟩) (id:=0) (sG t q) t.length 0 (m+1) (by omega)
  (fun i h0 h1 hp=>by
   have hc:t[i]? =some t[i]:=List.getElem?_eq_getElem (by omega)
   rw[Tz,decide_eq_true (by rw[List.length_map]; omega)]
   simp only[cond_true]
   rw[aF (aI hc)]
   simp only[uX,jF]
   rw[inner i _ hc,hp]; rfl)
  (fun i h0 h1 hp=>by
   have hc:t[i]? =some t[i]:=List.getElem?_eq_getElem (by omega)
   rw[Tz,decide_eq_true (by rw[List.length_map]; omega)]
   simp only[cond_true]
   rw[aF (aI hc)]
   simp only[uX,jF]
   rw[inner i _ hc,hp]; rfl)
  (by rw[Nat.zero_add,Tz,decide_eq_false (by rw[List.length_map]; omega)]; rfl)
 unfold lG
 cases hk:dH (sG t q) 0 t.length with
 |some i=>rw[hk] at it; exact(aN it).trans (SA (m+1) i)
 |none=>rw[hk] at it; exact(aN it).trans (MB (m+1))
def xk (t:List Cf) (i:Nat):Bool:=match t[i]? with|some c=> !dZ c|none=>false
def vS (c d:Cf):Bool:=d.a==c.a||d.d==c.d
def o8 (t:List Cf) (i:Nat):Bool:=match t[i]? with|some c=>(t.take i).any (vS c)|none=>false
def Jj (t:List Cf) (i k:Nat):Int:=(((t[i]?).bind fun c=>c.s[k]?).map Sd.r).getD 0
def nM (t:List Cf) (i k:Nat):Bool:=(iE t i k).isNone
def rY (t:List Cf) (i k:Nat):Bool:=match iE t i k with|some (j,m)=>Jj t i k+Jj t j m !=4|none=>false
def rX (t:List Cf) (i k:Nat):Bool:=match iE t i k with|some (j,_)=>(match t[i]?,t[j]? with|some c,some d=> !zZ c d|_,_=>false)|none=>false
noncomputable def kY (t:List Cf):Nat×Int:=if t.length=0 then(0,1) else if 8 < t.length then(0,4) else match dH (xk t) 0 t.length with
 |some i=>(i,2)
 |none=>match dH (o8 t) 0 t.length with
  |some i=>(i,7)
  |none=>match lG t (nM t) with
   |some i=>(i,8)
   |none=>match lG t (rY t) with
    |some i=>(i,9)
    |none=>match lG t (rX t) with
     |some i=>(i,10)
     |none=>match nN t with
      |some i=>(i,11)
      |none=>(0,0)
theorem aci {M:Nat} {c d:Cf} (h:c.ok) (h':d.ok):aB env (M+1) 32 [d.t,.ref c.t]= .ok (.bool (vS c d)):=by
 rw[q32,dA (iY h'.wf (mP h.wf))]
 unfold vS
 cases d.a==c.a<;>rfl
theorem pJ {t:List Cf} {q:Nat→Nat→Bool} (h:lG t q=none) {i k:Nat} {c:Cf} {s:Sd} (hc:t[i]? =some c) (hs:c.s[k]? =some s):q i k=false:=by
 have h1:=iI h i (Nat.zero_le _) (by have:=(List.getElem?_eq_some_iff.1 hc).1; omega)
 unfold sG at h1
 have h2:dH (q i) 0 (sN t i)=none:=by
  cases hh:dH (q i) 0 (sN t i) with
  |none=>rfl
  |some _=>rw[hh] at h1; cases h1
 have hn:sN t i=c.s.length:=by unfold sN; rw[hc]; rfl
 rw[hn] at h2
 exact iI h2 k (Nat.zero_le _) (by have:=(List.getElem?_eq_some_iff.1 hs).1; omega)
theorem Eo {m:Nat} {t:List Cf} {j:Nat} {c:Cf} (hM:big+4≤m) (ht:dN Cf.ok t) (hc:t[j]? =some c):aT env (m+1) 16 0 12 (UC t j)=bif o8 t j then .ok (.ret,⟨slots 80 [(2,.t (i64 j)),(3,.t (i64 7))],[]⟩) else .ok (.norm,UC t ((j+1:Nat):Int)):=by
 have hb:=ht.1
 have hj:j < t.length:=(List.getElem?_eq_some_iff.1 hc).1
 have hco:=ht.2 c (List.mem_of_getElem? hc)
 have e:lS env (m+1) 16 [] 5=aT env (m+1) 16 0 12:=by kernel_rfl
 rw[←e]
 have h1:bF env (m+1) 16 ([]++ [5]) 0 2 (UC t j)= .ok (.norm,abC t j):=by
  refine(Iz (m+1) t j).trans ?_
  rw[decide_eq_true (by rw[List.length_map]; omega)]; rfl
 have h2:bF env (m+1) 16 (([]++ [5])++ [2]) 0 1 (abC t j)= .ok (.norm,abD t j c):=by
  refine(Nh (m+1) t j).trans ?_
  rw[aF (aI hc)]; rfl
 have h3:mJ env (m+1) 16 (([]++ [5])++ [2]) 1 2 (abD t j c) (AL env (m+1) 16 [] 5 4 3 1)=bif o8 t j then .ok (.ret,⟨slots 80 [(2,.t (i64 j)),(3,.t (i64 7))],[]⟩) else .ok (.norm,UC t ((j+1:Nat):Int)):=by
  refine(zCB (m+1) t j c).trans ?_
  have hl:dN Cf.ok (t.take j):=⟨by rw[List.length_take]; omega,fun x hx=>ht.2 x (List.mem_of_mem_take hx)⟩
  have hd:(decide (0≤(j:Int))&&decide ((j:Int)≤((t.map Cf.t).length:Int)))=true:=by rw[decide_eq_true (by omega),decide_eq_true (by rw[List.length_map]; omega)]; rfl
  rw[hd,bD,Int.toNat_natCast,List.drop_zero,←List.map_take]
  rw[dM (ach (q:=vS c) (by omega) hl (jD (mP hco.wf)) rfl fun m' hm' d hd=>by
   obtain⟨m',rfl⟩:=gV (show 1≤m' by omega); exact aci hco (hl.2 d hd)),wrap_succ (show j≤big by omega)]
  have:o8 t j=(t.take j).any (vS c):=by unfold o8; rw[hc]
  rw[this]
  rfl
 cases hu:o8 t j with
 |true=>
  rw[hu] at h3
  exact wC (a:=2) (b:=1) (k1:=2) (k2:=1) (id:=4) (c:=gK ((aG env 16 [5]).getD 2 .skip)) (by kernel_rfl) (by kernel_rfl) (by kernel_rfl) (by kernel_rfl) (by kernel_rfl) h1 h2 h3
 |false=>
  rw[hu] at h3
  exact wC (a:=2) (b:=1) (k1:=2) (k2:=1) (id:=4) (c:=gK ((aG env 16 [5]).getD 2 .skip)) (by kernel_rfl) (by kernel_rfl) (by kernel_rfl) (by kernel_rfl) (by kernel_rfl) h1 h2 h3
def ahJ (t:List Cf):St:=⟨slots 80 [(1,.ptr 0 0),(36,.t (.sl 6 (t.map Cf.t))),(37,.t (i64 (t.map Cf.t).length)),(38,.t (i64 (t.length:Int))),(39,.t (.bool false))],[.box 22 1 (.t (.sl 6 (t.map Cf.t)))]⟩
theorem Eb {c:Cf} (h:dZ c=true) {s:Sd} (hs:s∈c.s):1≤s.r∧s.r≤3:=by
 have:=tJ h hs
 unfold nP at this
 simp only[Bool.and_eq_true,decide_eq_true_eq] at this
 omega
theorem CV {t:List Cf} {i k j m:Nat} {c:Cf} {s:Sd} (hc:t[i]? =some c) (hs:c.s[k]? =some s) (h:iE t i k=some (j,m)):∃ d u,t[j]? =some d∧d.s[m]? =some u∧d.a=s.a∧u.a=c.a∧kF t s.a=some j∧idxOf d c.a=some m:=by
 rw[yV hc hs] at h
 cases hf:kF t s.a with
 |none=>rw[hf] at h; cases h
 |some j'=>
  rw[hf] at h
  simp only at h
  cases hd:t[j']? with
  |none=>rw[hd] at h; cases h
  |some d=>
   rw[hd] at h
   simp only[Option.map_eq_some_iff,Prod.mk.injEq] at h
   obtain⟨m',h1,h2,h3⟩:=h
   subst h2; subst h3
   obtain⟨g1,g2,_⟩:=List.findIdx?_eq_some_iff_getElem.1 (show d.s.findIdx? (fun s=>s.a==c.a)=some m' from h1)
   obtain⟨k1,k2,_⟩:=List.findIdx?_eq_some_iff_getElem.1 (show t.findIdx? (fun c=>c.a==s.a)=some j' from hf)
   have hde:d=t[j']:=by rw[List.getElem?_eq_getElem k1] at hd; injection hd with hd; exact hd.symm
   exact⟨d,_,hd,List.getElem?_eq_getElem g1,by rw[hde]; simpa using k2,by simpa using g2,rfl,h1⟩
theorem ab9 {M:Nat} {t:List Cf} (hM:big+40≤M) (ht:dN Cf.ok t) (hs:∀ c∈t,c.s.length≤big)
 (hring:∀ m,aB env m 18 [.sl 6 (t.map Cf.t)]= .ok (wM (nN t))∨8 < t.length∨(∃ c∈t,dZ c=false)):
 aB env (M+1) 16 [.sl 6 (t.map Cf.t)]= .ok (.ak [i64 ((kY t).1:Int),i64 (kY t).2]):=by
 have hb:=ht.1
 have hbg:=bH
 obtain⟨m,rfl⟩:=gV (show 1≤M by omega)
 rw[q16,dA (jD (jR ht))]
 unfold kY
 by_cases h0:t.length=0
 · rw[if_pos h0,beq_iff_eq.2 (show((t.map Cf.t).length:Int)=0 by rw[List.length_map]; omega)]; rfl
 rw[if_neg h0,beq_eq_false_iff_ne.2 (show((t.map Cf.t).length:Int)≠0 by rw[List.length_map]; omega),cond_false]
 by_cases h8:8 < t.length
 · rw[if_pos h8,decide_eq_true (show((t.map Cf.t).length:Int) > 8 by rw[List.length_map]; omega)]; rfl
 rw[if_neg h8,decide_eq_false (show ¬ ((t.map Cf.t).length:Int) > 8 by rw[List.length_map]; omega),cond_false]
 have it:=fZ (B:=aT env (m+1) 16 0 6) (S:=fun i=>sCa t (i:Nat)) (R:=fun i=>⟨slots 80 [(2,.t (i64 i)),(3,.t (i64 2))],[]⟩) (X:=⟨slots 80 [(1,.ptr 0 0)],[.box 22 1 (.t (.sl 6 (t.map Cf.t)))]⟩) (id:=1) (xk t) t.length 0 (m+1) (by omega)
  (fun i _ h1 hp=>by
   have hc:t[i]? =some t[i]:=List.getElem?_eq_getElem (by omega)
   unfold xk at hp; rw[hc] at hp
   rw[Tv,decide_eq_true (by rw[List.length_map]; omega)]
   simp only[cond_true]
   rw[aF (aI hc),show(t[i].t.cells.length==6&& !t[i].t.dS)=true from rfl,bD,dM (Dn (by omega) (ht.2 _ (List.mem_of_getElem? hc)))]
   simp only at hp
   rw[hp]; rfl)
  (fun i _ h1 hp=>by
   have hc:t[i]? =some t[i]:=List.getElem?_eq_getElem (by omega)
   unfold xk at hp; rw[hc] at hp
   rw[Tv,decide_eq_true (by rw[List.length_map]; omega)]
   simp only[cond_true]
   rw[aF (aI hc),show(t[i].t.cells.length==6&& !t[i].t.dS)=true from rfl,bD,dM (Dn (by omega) (ht.2 _ (List.mem_of_getElem? hc)))]
   simp only at hp
   rw[hp,wrap_succ (show i≤big by omega)]; rfl)
  (by rw[Nat.zero_add,Tv,decide_eq_false (by rw[List.length_map]; omega)]; rfl)
 cases hk0:dH (xk t) 0 t.length with
 |some i=>rw[hk0] at it; exact(aN it).trans (Si (m+1) i 2)
 |none=>
 rw[hk0] at it
 refine(aN it).trans ((LW (m+1) t).trans ?_)
 have CG:∀ c∈t,dZ c=true:=fun c hc=>by
  obtain⟨i,hi,rfl⟩:=List.getElem_of_mem hc
  have:=iI hk0 i (Nat.zero_le _) (by omega)
  unfold xk at this
  rw[List.getElem?_eq_getElem hi] at this
  simpa using this
 have Wy:=fZ (B:=aT env (m+1) 16 0 12) (S:=fun i=>UC t (i:Nat)) (R:=fun i=>⟨slots 80 [(2,.t (i64 i)),(3,.t (i64 7))],[]⟩) (X:=⟨slots 80 [(1,.ptr 0 0)],[.box 22 1 (.t (.sl 6 (t.map Cf.t)))]⟩) (id:=3) (o8 t) t.length 0 (m+1) (by omega)
  (fun i _ h1 hp=>by rw[Eo (by omega) ht (List.getElem?_eq_getElem (by omega)),hp]; rfl)
  (fun i _ h1 hp=>by rw[Eo (by omega) ht (List.getElem?_eq_getElem (by omega)),hp]; rfl)
  (by
   rw[Nat.zero_add]
   have e:lS env (m+1) 16 [] 5=aT env (m+1) 16 0 12:=by kernel_rfl
   rw[←e]
   have h1:bF env (m+1) 16 ([]++ [5]) 0 2 (UC t t.length)= .ok (.exit 3,ahJ t):=by
    refine(Iz (m+1) t t.length).trans ?_
    rw[decide_eq_false (by rw[List.length_map]; omega)]; rfl
   exact xY (a:=2) (by kernel_rfl) h1 (by kernel_rfl))
 cases hk1:dH (o8 t) 0 t.length with
 |some i=>rw[hk1] at Wy; exact(aN Wy).trans (Ph (m+1) i 7)
 |none=>
 rw[hk1] at Wy
 refine(aN Wy).trans ((Js (m+1) t).trans ?_)
 have ad1:∀ n:Nat,n≤big→aS (n:Int)=true:=fun n h=>fQ h
 have wf5:∀ (i k:Nat) (c:Cf) (s:Sd),t[i]? =some c→c.s[k]? =some s→aS (i:Int)=true∧aS (k:Int)=true∧aS (yT (iE t i k))=true∧aS (yU (iE t i k))=true:=fun i k c s hc hk=>by
  have h1:=(List.getElem?_eq_some_iff.1 hc).1
  have h2:=(List.getElem?_eq_some_iff.1 hk).1
  have h3:=hs c (List.mem_of_getElem? hc)
  exact⟨ad1 _ (by omega),ad1 _ (by omega),(Uo ht hs).1,(Uo ht hs).2⟩
 rw[aV (Ny (q:=nM t) (by omega) ht rfl rfl fun i k c s hc hk=>by
  obtain⟨w1,w2,w3,w4⟩:=wf5 i k c s hc hk
  obtain⟨m,rfl⟩:=gV (show 1≤m by omega)
  show aB env (m+1) 34 [i64 i,i64 k,i64 (yT (iE t i k)),i64 (yU (iE t i k)),.bool (iE t i k).isSome]=_
  rw[q34,dA (by simp[T.wfs,T.wf,w1,w2,w3,w4])]
  unfold nM
  cases iE t i k<;>rfl)]
 cases hk2:lG t (nM t) with
 |some i=>rfl
 |none=>
 simp only[wM,aH,List.getElem?_cons_zero,List.getElem?_cons_succ,Option.isSome_none,bT,cond_false]
 have QG:∀ (i k:Nat) (c:Cf) (s:Sd),t[i]? =some c→c.s[k]? =some s→∃ j mm d u,iE t i k=some (j,mm)∧t[j]? =some d∧d.s[mm]? =some u:=fun i k c s hc hk=>by
  have h1:=pJ hk2 hc hk
  unfold nM at h1
  cases hf:iE t i k with
  |none=>rw[hf] at h1; cases h1
  |some p=>
   obtain⟨d,u,g1,g2,_⟩:=CV (j:=p.1) (m:=p.2) hc hk hf
   exact⟨p.1,p.2,d,u,rfl,g1,g2⟩
 have hwt:(T.ref (.sl 6 (t.map Cf.t))).wf=true:=mP (jR ht)
 rw[aV (Ny (q:=rY t) (by omega) ht (jD hwt) rfl fun i k c s hc hk=>by
  obtain⟨w1,w2,w3,w4⟩:=wf5 i k c s hc hk
  obtain⟨m,rfl⟩:=gV (show 1≤m by omega)
  obtain⟨j,mm,d,u,hf,hd,hu⟩:=QG i k c s hc hk
  show aB env (m+1) 35 [i64 i,i64 k,i64 (yT (iE t i k)),i64 (yU (iE t i k)),.bool (iE t i k).isSome,.ref (.sl 6 (t.map Cf.t))]=_
  rw[q35,dA (by simp only[T.wfs,hwt]; simp[T.wf,w1,w2,w3,w4])]
  unfold rY Jj
  rw[hf]
  simp only[yT,yU,Option.map_some,Option.getD_some]
  rw[aF (aI hc),uX]
  simp only[nD,if_true]
  rw[aF (aI hk),aF (aI hd),uX]
  simp only[nD,if_true]
  rw[aF (aI hu),uh,uh]
  simp only[bM]
  obtain⟨r1,r2⟩:=Eb (CG c (List.mem_of_getElem? hc)) (List.mem_of_getElem? hk)
  obtain⟨r3,r4⟩:=Eb (CG d (List.mem_of_getElem? hd)) (List.mem_of_getElem? hu)
  rw[wrap64 (by omega),hc,hd]
  simp only[Option.bind_some,hk,hu,Option.map_some,Option.getD_some])]
 cases hk3:lG t (rY t) with
 |some i=>rfl
 |none=>
 simp only[wM,aH,List.getElem?_cons_zero,List.getElem?_cons_succ,Option.isSome_none,bT,cond_false]
 rw[aV (Ny (q:=rX t) (by omega) ht (jD hwt) rfl fun i k c s hc hk=>by
  obtain⟨w1,w2,w3,w4⟩:=wf5 i k c s hc hk
  obtain⟨m,rfl⟩:=gV (show 1≤m by omega)
  obtain⟨j,mm,d,u,hf,hd,hu⟩:=QG i k c s hc hk
  show aB env (m+1) 36 [i64 i,i64 k,i64 (yT (iE t i k)),i64 (yU (iE t i k)),.bool (iE t i k).isSome,.ref (.sl 6 (t.map Cf.t))]=_
  rw[q36,dA (by simp only[T.wfs,hwt]; simp[T.wf,w1,w2,w3,w4])]
  unfold rX
  rw[hf]
  simp only[yT,yU,Option.map_some,Option.getD_some]
  rw[aF (aI hc),aF (aI hd),hc,hd]
  obtain⟨m,rfl⟩:=gV (show 1≤m by omega)
  rw[dM (Ub (by omega) (ht.2 c (List.mem_of_getElem? hc)) (ht.2 d (List.mem_of_getElem? hd)))])]
 cases hk4:lG t (rX t) with
 |some i=>rfl
 |none=>
 simp only[wM,aH,List.getElem?_cons_zero,List.getElem?_cons_succ,Option.isSome_none,bT,cond_false]
 have hr:=(hring (m+1)).resolve_right (by
  rintro(h|⟨c,hc,h⟩)
  · exact h8 h
  · rw[CG c hc] at h; cases h)
 rw[aV hr]
 cases nN t<;>rfl
end
section
open Go.RowKit Go.Proofs
theorem wJ {α β:Type} (f:α→β):∀ (l:List α) (i:Nat),(l.eraseIdx i).map f=(l.map f).eraseIdx i
 | [],_=>rfl
 |_::_,0=>rfl
 |a::l,i+1=>by rw[List.eraseIdx_cons_succ,List.map_cons,List.map_cons,List.eraseIdx_cons_succ,wJ f l i]
structure iG (es:List (T×T×Nat)) (cc:Nat) (ks:List Nat):Prop where
 keys:es.map (·.1)=ks.map fun(j:Nat)=>i64 (j:Int)
 nd:ks.Nodup
 vals:∀ e∈es,∃ n,e.2.1=i64 n
 st:(es.map (·.2.2)).Pairwise (· < ·)
 lt:∀ e∈es,e.2.2 < cc
theorem iG.nil (cc:Nat):iG [] cc []:=⟨rfl,List.nodup_nil,by simp,by simp,by simp⟩
theorem iG.len {es:List (T×T×Nat)} {cc:Nat} {ks:List Nat} (h:iG es cc ks):es.length=ks.length:=by have:=congrArg List.length h.keys; simpa using this
theorem iG.at {es:List (T×T×Nat)} {cc:Nat} {ks:List Nat} (h:iG es cc ks) {i:Nat} (hi:i < ks.length):∃ n b,es[i]? =some (i64 (ks[i]:Int),i64 n,b)∧b < cc:=by
 have hl:=h.len
 have e0:es[i]? =some es[i]:=List.getElem?_eq_getElem (by omega)
 have h1:=congrArg (fun z=>z[i]?) h.keys
 simp only[List.getElem?_map,e0,Option.map_some,List.getElem?_eq_getElem hi,Option.some.injEq] at h1
 obtain⟨n,hn⟩:=h.vals _ (List.mem_of_getElem? e0)
 have hlt:=h.lt _ (List.mem_of_getElem? e0)
 refine⟨n,es[i].2.2,e0.trans (congrArg some ?_),hlt⟩
 generalize es[i]=e at h1 hn
 obtain⟨e1,e2,e3⟩:=e
 simp only at h1 hn
 subst h1; subst hn; rfl
theorem iG.strike {es:List (T×T×Nat)} {cc:Nat} {ks:List Nat} (h:iG es cc ks) (i:Nat):iG (es.eraseIdx i) cc (ks.eraseIdx i) where
 keys:=by rw[wJ,h.keys,wJ]
 nd:=h.nd.sublist (List.eraseIdx_sublist _ _)
 vals e he:=h.vals e (List.mem_of_mem_eraseIdx he)
 st:=by rw[wJ]; exact h.st.sublist (List.eraseIdx_sublist _ _)
 lt e he:=h.lt e (List.mem_of_mem_eraseIdx he)
theorem iG.add {es:List (T×T×Nat)} {cc:Nat} {ks:List Nat} (h:iG es cc ks) {j:Nat} (hj:j∉ks) (n:Int):iG (es++ [(i64 (j:Int),i64 n,cc)]) (cc+1) (ks++ [j]) where
 keys:=by rw[List.map_append,List.map_append,h.keys]; rfl
 nd:=by
  rw[List.nodup_append]
  exact⟨h.nd,by simp,fun a ha b hb e=>by rw[List.mem_singleton.1 hb] at e; exact hj (e ▸ ha)⟩
 vals e he:=by
  rcases List.mem_append.1 he with he|he
  · exact h.vals e he
  · rw[List.mem_singleton.1 he]; exact⟨n,rfl⟩
 st:=by
  rw[List.map_append,List.pairwise_append]
  refine⟨h.st,by simp,fun a ha b hb=>?_⟩
  obtain⟨e,he,rfl⟩:=List.mem_map.1 ha
  have:=h.lt e he
  simp at hb
  omega
 lt e he:=by
  rcases List.mem_append.1 he with he|he
  · have:=h.lt e he; omega
  · rw[List.mem_singleton.1 he]; show cc < cc+1; omega
theorem UQ (a b:Int):T.fA [0] [i64 a] [i64 b]=some (a==b):=by simp[T.fA]
theorem Hw {x:Nat}:∀ (es:List (T×T×Nat)) (ks:List Nat) (i:Nat),es.map (·.1)=(ks.map fun(j:Nat)=>i64 (j:Int))→
 iK [0] (i64 (x:Int)) es i=some (match ks.findIdx? (fun y=>decide (x=y)) with|none=>none|some j=>(es[j]?).map fun e=>(i+j,e.2.1,e.2.2))
 | [],[],i,_=>rfl
 | [],_::_,_,h=>by simp at h
 |_::_,[],_,h=>by simp at h
 |e::es,k::ks,i,h=>by
  simp only[List.map_cons,List.cons.injEq] at h
  unfold iK
  rw[h.1,show T.flat [0] (i64 (x:Int))= [i64 (x:Int)] from rfl,show T.flat [0] (i64 (k:Int))= [i64 (k:Int)] from rfl,UQ,List.findIdx?_cons]
  by_cases hx:x=k
  · subst hx; simp
  · rw[decide_eq_false hx,show((x:Int)==(k:Int))=false from beq_eq_false_iff_ne.2 (by omega)]
    simp only[Bool.false_eq_true,if_false]
    rw[Hw es ks (i+1) h.2]
    cases ks.findIdx? (fun y=>decide (x=y)) with
    |none=>rfl
    |some j=>
     simp only[Option.map_some,List.getElem?_cons_succ]
     cases es[j]? with
     |none=>rfl
     |some e'=>simp only[Option.map_some]; congr 3; omega
theorem Dv (x:Int):jg [0] (i64 x)=true:=rfl
theorem findD {es:List (T×T×Nat)} {cc:Nat} {ks:List Nat} (h:iG es cc ks) (x:Nat):(x∉ks∧iK [0] (i64 (x:Int)) es 0=some none)∨
 ∃ i a b,ks[i]? =some x∧es[i]? =some (i64 (x:Int),i64 a,b)∧iK [0] (i64 (x:Int)) es 0=some (some (i,i64 a,b)):=by
 have hf:=Hw (x:=x) es ks 0 h.keys
 cases hk:ks.findIdx? (fun y=>decide (x=y)) with
 |none=>
  rw[hk] at hf
  exact .inl ⟨fun hx=>by have:=List.findIdx?_eq_none_iff.1 hk x hx; simp at this,hf⟩
 |some j=>
  rw[hk] at hf
  obtain⟨hj,QI,_⟩:=List.findIdx?_eq_some_iff_getElem.1 hk
  have hxk:x=ks[j]:=by simpa using QI
  obtain⟨a,b,ha,_⟩:=h.at hj
  rw[←hxk] at ha
  simp only[ha,Option.map_some,Nat.zero_add] at hf
  exact .inr ⟨j,a,b,by rw[List.getElem?_eq_getElem hj,hxk],ha,hf⟩
theorem BX {α β:Type} (f:α→β) {l:List α} {i:Nat} {a b:α} (h:l[i]? =some a) (e:f b=f a):(l.set i b).map f=l.map f:=by
 rw[List.map_set,e]
 refine List.ext_getElem? fun k=>?_
 rw[List.getElem?_set]
 split
 · rename_i e; subst e
   rw[List.length_map,if_pos (List.getElem?_eq_some_iff.1 h).1,List.getElem?_map,h]; rfl
 · rfl
theorem iG.put {es:List (T×T×Nat)} {cc:Nat} {ks:List Nat} (h:iG es cc ks) {i:Nat} {k:T} {a b:Nat} {v:T} (he:es[i]? =some (k,v,b)) (n:Int):iG (es.set i (k,i64 n,b)) cc ks where
 keys:=by rw[BX _ he (b:=(k,i64 n,b)) rfl]; exact h.keys
 nd:=h.nd
 vals e hm:=by
  rcases List.mem_or_eq_of_mem_set hm with hm|hm
  · exact h.vals e hm
  · rw[hm]; exact⟨n,rfl⟩
 st:=by rw[BX _ he (b:=(k,i64 n,b)) rfl]; exact h.st
 lt e hm:=by
  rcases List.mem_or_eq_of_mem_set hm with hm|hm
  · exact h.lt e hm
  · rw[hm]; exact h.lt (k,v,b) (List.mem_of_getElem? he)
def addN (ks:List Nat) (x:Nat):List Nat:=if x∈ks then ks else ks++ [x]
theorem Kz {ks:List Nat} {x y:Nat}:y∈addN ks x↔y∈ks∨y=x:=by
 unfold addN
 split
 · rename_i h
   exact⟨.inl,fun h2=>h2.elim id fun e=>e ▸ h⟩
 · simp
def I5 {β:Type} (x:Nat) (es:List (T×T×Nat)) (cc:Nat) (G:List (T×T×Nat)→Nat→aj β):aj β:=
 chk (jg [0] (i64 (x:Int))) (eY [0] (i64 (x:Int)) es (chk (jg [0] (i64 (x:Int))) (eY [0] (i64 (x:Int)) es (G (es++ [(i64 (x:Int),i64 1,cc)]) (cc+1)) fun i _ b=>G (es.set i (i64 (x:Int),i64 1,b)) cc))
  fun _ v _=>iT IntKind.i64 v fun a=>chk (jg [0] (i64 (x:Int))) (eY [0] (i64 (x:Int)) es (G (es++ [(i64 (x:Int),i64 (IntKind.i64.wrap (a+1)),cc)]) (cc+1)) fun i _ b=>G (es.set i (i64 (x:Int),i64 (IntKind.i64.wrap (a+1)),b)) cc))
theorem Qw {β:Type} {es:List (T×T×Nat)} {cc:Nat} {ks:List Nat} (h:iG es cc ks) {x:Nat} (hx:x∉ks) (G:List (T×T×Nat)→Nat→aj β):I5 x es cc G=G (es++ [(i64 (x:Int),i64 1,cc)]) (cc+1):=by
 rcases findD h x with ⟨_,hf⟩|⟨i,_,_,hi,_,_⟩
 · unfold I5 eY
   rw[Dv,bD,hf]
   simp only[bD]
 · exact absurd (List.mem_of_getElem? hi) hx
theorem JU {es:List (T×T×Nat)} {cc:Nat} {ks:List Nat} (h:iG es cc ks) (x:Nat):∃ es' cc',iG es' cc' (addN ks x)∧∀ {β:Type} (G:List (T×T×Nat)→Nat→aj β),I5 x es cc G=G es' cc':=by
 unfold addN
 rcases findD h x with ⟨hx,_⟩|⟨i,a,b,hi,he,hf⟩
 · rw[if_neg hx]
   exact⟨_,_,h.add hx 1,fun G=>Qw h hx G⟩
 · rw[if_pos (List.mem_of_getElem? hi)]
   refine⟨_,_,h.put (a:=0) he (IntKind.i64.wrap (a+1)),fun G=>?_⟩
   unfold I5 eY
   rw[Dv,bD,hf]
   simp only[bD,bM]
def Ones (es:List (T×T×Nat)):Prop:=∀ e∈es,e.2.1=i64 1
theorem Ones.add {es:List (T×T×Nat)} (h:Ones es) (k:T) (c:Nat):Ones (es++ [(k,i64 1,c)]):=fun e he=>by
 rcases List.mem_append.1 he with he|he
 · exact h e he
 · rw[List.mem_singleton.1 he]
theorem y5 {β:Type} {es:List (T×T×Nat)} {cc:Nat} {ks:List Nat} (h:iG es cc ks) (ho:Ones es) (x:Nat) (A:aj β) (B:Nat→T→Nat→aj β):(x∉ks∧eY [0] (i64 (x:Int)) es A B=A)∨(x∈ks∧∃ i b,eY [0] (i64 (x:Int)) es A B=B i (i64 1) b):=by
 unfold eY
 rcases findD h x with ⟨hx,hf⟩|⟨i,a,b,hi,he,hf⟩
 · rw[hf]; exact .inl ⟨hx,rfl⟩
 · rw[hf]
   have:=ho _ (List.mem_of_getElem? he)
   simp only at this
   rw[this]
   exact .inr ⟨List.mem_of_getElem? hi,i,b,rfl⟩
theorem Fh {ks:List Nat} (hn:ks.Nodup) {i x y:Nat} (hi:ks[i]? =some x):y∈ks.eraseIdx i↔y∈ks∧y≠x:=by
 rw[List.mem_eraseIdx_iff_getElem]
 obtain⟨hl,hx⟩:=List.getElem?_eq_some_iff.1 hi
 constructor
 · rintro⟨k,hk,hne,rfl⟩
   refine⟨List.getElem_mem _,fun e=>hne ?_⟩
   rw[←hx] at e
   exact(List.getElem_inj hn).1 e
 · rintro⟨hy,hne⟩
   obtain⟨k,hk,rfl⟩:=List.getElem_of_mem hy
   exact⟨k,hk,fun e=>hne (by subst e; exact hx),rfl⟩
theorem iG.mem {es:List (T×T×Nat)} {cc:Nat} {ks:List Nat} (h:iG es cc ks) {e:T×T×Nat} (he:e∈es):∃ (x:Nat) (n:Int),x∈ks∧e=(i64 (x:Int),i64 n,e.2.2)∧VH es e.2.2=some e:=by
 obtain⟨i,hi,hie⟩:=List.getElem_of_mem he
 have hl:=h.len
 obtain⟨n,b,hv,_⟩:=h.at (show i < ks.length by omega)
 rw[List.getElem?_eq_getElem hi,hie] at hv
 simp only[Option.some.injEq] at hv
 refine⟨ks[i],n,List.getElem_mem _,by rw[hv],?_⟩
 unfold VH
 rw[List.find?_eq_some_iff_getElem]
 refine⟨by simp,i,hi,hie,fun j hj=>?_⟩
 have:=List.pairwise_iff_getElem.1 h.st j i (by rw[List.length_map]; omega) (by rw[List.length_map]; omega) hj
 simp only[List.getElem_map] at this
 rw[hie] at this
 simp; omega
theorem wK:∀ (n:Nat) (l:List Nat),l.Nodup→(∀ x∈l,x < n)→l.length≤n
 |0,[],_,_=>Nat.le_refl _
 |0,x::l,_,h=>absurd (h x List.mem_cons_self) (Nat.not_lt_zero _)
 |n+1,l,hn,h=>by
  by_cases hm:n∈l
  · have h1:=wK n (l.erase n) (hn.erase n) fun x hx=>by
     have h2:=h x (List.mem_of_mem_erase hx)
     have h3:x≠n:=fun e=>by rw[e] at hx; exact(List.Nodup.not_mem_erase hn) hx
     omega
    rw[List.length_erase_of_mem hm] at h1
    omega
  · exact Nat.le_succ_of_le (wK n l hn fun x hx=>by
     have h2:=h x hx
     have h3:x≠n:=fun e=>hm (e ▸ hx)
     omega)
def Fp (gs ks:List Nat) (x:Nat):List Nat:=if x∈gs then ks else addN ks x
theorem JI {gs:List Nat} {y:Nat}:∀ (l ks:List Nat),y∈l.foldl (Fp gs) ks↔y∈ks∨(y∈l∧y∉gs)
 | [],ks=>by simp
 |x::l,ks=>by
  rw[List.foldl_cons,JI l]
  unfold Fp
  by_cases hx:x∈gs
  · rw[if_pos hx,List.mem_cons]
    constructor
    · rintro(h|⟨h,h2⟩)
      · exact .inl h
      · exact .inr ⟨.inr h,h2⟩
    · rintro(h|⟨rfl|h,h2⟩)
      · exact .inl h
      · exact absurd hx h2
      · exact .inr ⟨h,h2⟩
  · rw[if_neg hx,Kz,List.mem_cons]
    constructor
    · rintro((h|rfl)|⟨h,h2⟩)
      · exact .inl h
      · exact .inr ⟨.inl rfl,hx⟩
      · exact .inr ⟨.inr h,h2⟩
    · rintro(h|⟨rfl|h,h2⟩)
      · exact .inl (.inl h)
      · exact .inl (.inr rfl)
      · exact .inr ⟨h,h2⟩
end
section
open Go.RowKit Go.Proofs
variable [Lv]
abbrev dL:Type:=T×T×Nat
def RH (t:List Cf) (i:Int):St:=⟨slots 70 [(0,.t (.sl 6 (t.map Cf.t))),(13,.t (i64 (t.map Cf.t).length)),(14,.t (i64 i))],[]⟩
def Og (t:List Cf) (i:Int) (b:Bool):St:=⟨slots 70 [(0,.t (.sl 6 (t.map Cf.t))),(13,.t (i64 (t.map Cf.t).length)),(14,.t (i64 i)),(15,.t (.bool b))],[]⟩
def RI (t:List Cf) (i:Int) (we:List dL) (wc:Nat) (ge:List dL) (gc:Nat) (xs:List T) (n k:Int):St:=⟨slots 70 [(0,.t (.sl 6 (t.map Cf.t))),(4,.t (i64 i)),(5,.mp 0),(6,.mp 1),(13,.t (i64 (t.map Cf.t).length)),(14,.t (i64 i)),(21,.t (.sl 1 xs)),(22,.t (i64 n)),(23,.t (i64 k))],[.map we wc,.map ge gc]⟩
def qI (t:List Cf) (i:Int) (we:List dL) (wc:Nat) (ge:List dL) (gc:Nat):St:=⟨slots 70 [(0,.t (.sl 6 (t.map Cf.t))),(4,.t (i64 i)),(5,.mp 0),(6,.mp 1),(13,.t (i64 (t.map Cf.t).length)),(14,.t (i64 i))],[.map we wc,.map ge gc]⟩
def sRx (t:List Cf) (i:Int) (ge:List dL) (gc:Nat):St:=⟨slots 70 [(0,.t (.sl 6 (t.map Cf.t))),(4,.t (i64 i)),(6,.mp 0),(13,.t (i64 (t.map Cf.t).length)),(14,.t (i64 i))],[.map ge gc]⟩
def sRr (t:List Cf) (i:Int) (we:List dL) (wc:Nat) (ge:List dL) (gc since last:Nat) (seen:List Nat):St:=⟨slots 70 [(0,.t (.sl 6 (t.map Cf.t))),(4,.t (i64 i)),(5,.mp 0),(6,.mp 1),(13,.t (i64 (t.map Cf.t).length)),(14,.t (i64 i)),(36,.ptr 2 0)],[.map we wc,.map ge gc,.iter 0 since seen last]⟩
def V4 (t:List Cf) (i:Int) (we:List dL) (wc:Nat) (ge:List dL) (gc:Nat) (n:Int) (b:Bool):St:=⟨slots 70 [(0,.t (.sl 6 (t.map Cf.t))),(4,.t (i64 i)),(5,.mp 0),(6,.mp 1),(13,.t (i64 (t.map Cf.t).length)),(14,.t (i64 i)),(32,.mp 0),(33,.t (i64 n)),(34,.t (.bool b))],[.map we wc,.map ge gc]⟩
def ahA (st:St) (d l m since cc:Nat) (seen:List Nat) (e:T×T×Nat):St:=⟨bV st.tmps (some d) (.t (.ak [.bool true,e.1,e.2.1])),st.heap.set l (.iter m since (seen++ [e.2.2]) cc)⟩
def sRe (t:List Cf) (i:Int) (we:List dL) (wc:Nat) (ge:List dL) (gc:Nat) (j v:Int) (n:Nat):St:=⟨slots 70 [(0,.t (.sl 6 (t.map Cf.t))),(4,.t (i64 i)),(5,.mp 0),(6,.mp 1),(13,.t (i64 (t.map Cf.t).length)),(14,.t (i64 i)),(36,.ptr 2 0),(37,.t (.ak [.bool true,i64 j,i64 v])),(38,.t (.bool true)),(39,.t (.ak [i64 j,i64 v]))],[.map we wc,.map ge gc,.iter 0 wc [n] wc]⟩
def sRd (t:List Cf) (i:Int) (we:List dL) (wc:Nat) (ge:List dL) (gc:Nat) (j v:Int) (n:Nat):St:=⟨slots 70 [(0,.t (.sl 6 (t.map Cf.t))),(4,.t (i64 i)),(5,.mp 0),(6,.mp 1),(9,.t (i64 j)),(13,.t (i64 (t.map Cf.t).length)),(14,.t (i64 i)),(36,.ptr 2 0),(37,.t (.ak [.bool true,i64 j,i64 v])),(38,.t (.bool true)),(39,.t (.ak [i64 j,i64 v])),(40,.t (i64 j))],[.map we wc,.map ge gc,.iter 0 wc [n] wc]⟩
def ahK (t:List Cf) (i:Int) (we:List dL) (wc:Nat) (ge:List dL) (gc:Nat) (j:Int) (o:au):St:=⟨slots 70 [(0,.t (.sl 6 (t.map Cf.t))),(4,.t (i64 i)),(5,.mp 0),(6,.mp 1),(9,.t (i64 j)),(13,.t (i64 (t.map Cf.t).length)),(14,.t (i64 i))],[.map we wc,.map ge gc,o]⟩
def UG (t:List Cf) (i:Int) (we:List dL) (wc:Nat) (ge:List dL) (gc:Nat) (xs:List T) (n k:Int):St:=⟨slots 70 [(0,.t (.sl 6 (t.map Cf.t))),(4,.t (i64 i)),(5,.mp 0),(6,.mp 1),(13,.t (i64 (t.map Cf.t).length)),(14,.t (i64 i)),(49,.t (.sl 1 xs)),(50,.t (i64 n)),(51,.t (i64 k))],[.map we wc,.map ge gc]⟩
theorem Ti (N:Nat) (t:List Cf) (i:Int):bF env N 18 [2] 0 2 (RH t i)=bif decide (i < (↑(List.map Cf.t t).length:Int)) then aj.ok (Ex.norm,Og t i (decide (i < (↑(List.map Cf.t t).length:Int)))) else aj.ok (Ex.exit 0,Og t i (decide (i < (↑(List.map Cf.t t).length:Int)))):=by kernel_rfl
theorem IB (N:Nat) (t:List Cf) (i:Int) (we:List dL) (wc:Nat) (ge:List dL) (gc:Nat) (xs:List T) (n k:Int):lS env N 18 [2,2] 4 (RI t i we wc ge gc xs n k)=bif decide (k < n) then dF xs k fun e=>chk (jg [0] e) (eY [0] e we (chk (jg [0] e) (eY [0] e we (aj.ok (Ex.norm,RI t i (we++ [(e,i64 1,wc)]) (wc+1) ge gc xs n (IntKind.i64.wrap (k+1)))) fun kV x b=>aj.ok (Ex.norm,RI t i (we.set kV (e,i64 1,b)) wc ge gc xs n (IntKind.i64.wrap (k+1))))) fun x v x_1=>iT IntKind.i64 v fun a=>chk (jg [0] e) (eY [0] e we (aj.ok (Ex.norm,RI t i (we++ [(e,i64 (IntKind.i64.wrap (a+1)),wc)]) (wc+1) ge gc xs n (IntKind.i64.wrap (k+1)))) fun kV x b=>aj.ok (Ex.norm,RI t i (we.set kV (e,i64 (IntKind.i64.wrap (a+1)),b)) wc ge gc xs n (IntKind.i64.wrap (k+1))))) else aj.ok (Ex.exit 2,qI t i we wc ge gc):=by kernel_rfl
theorem GI (N:Nat) (t:List Cf) (i:Int) (we:List dL) (wc:Nat) (ge:List dL) (gc:Nat):bF env N 18 [2,2,5] 0 2 (qI t i we wc ge gc)=chk (decide (we.length≤140737488355328)) (bif decide ((↑we.length:Int) > 0) then aj.ok (Ex.norm,V4 t i we wc ge gc (↑we.length:Int) (decide ((↑we.length:Int) > 0))) else aj.ok (Ex.exit 4,V4 t i we wc ge gc (↑we.length:Int) (decide ((↑we.length:Int) > 0)))):=by kernel_rfl
theorem zRX (N:Nat) (t:List Cf) (i:Int) (ge:List dL) (gc:Nat):(mJ env N 18 [2,2] 6 2 (sRx t i ge gc) (AL env N 18 [] 2 1 3 1))=chk (jg [0] (i64 i)) (eY [0] (i64 i) ge (aj.ok (Ex.norm,RH t (IntKind.i64.wrap (i+1)))) fun x v x_1=>iT IntKind.i64 v fun a=>bif decide (a > 0) then aj.ok (Ex.ret,{tmps:=slots 70 [(2,PV.t (i64 i)),(3,PV.t (T.bool true))],heap:=[]}) else aj.ok (Ex.norm,RH t (IntKind.i64.wrap (i+1)))):=by kernel_rfl
theorem zRR (N:Nat) (t:List Cf) (i:Int) (we:List dL) (wc:Nat) (ge:List dL) (gc:Nat) (n:Int) (b:Bool):(Fz env 18 [2,2,5,2] 1 (Wj env N 18 [2,2,5,2] 0 1 (V4 t i we wc ge gc n b)))=aj.ok (Ex.norm,sRr t i we wc ge gc wc wc []):=by kernel_rfl
theorem zRN (N:Nat) (t:List Cf) (i:Int) (we:List dL) (wc:Nat) (ge:List dL) (gc:Nat) (j v:Int) (n:Nat):(abb env N 18 [2,2,5,2,1] 0 1 1 (ahA (sRr t i we wc ge gc wc wc []) 37 2 0 wc wc [] (i64 j,i64 v,n)))=aj.ok (Ex.norm,{tmps:=slots 70 [(0,PV.t (T.sl 6 (List.map Cf.t t))),(4,PV.t (i64 i)),(5,PV.mp 0),(6,PV.mp 1),(13,PV.t (i64 (↑(List.map Cf.t t).length:Int))),(14,PV.t (i64 i)),(36,PV.ptr 2 0),(37,PV.t (T.ak [T.bool true,i64 j,i64 v])),(38,PV.t (T.bool true))],heap:=[au.map we wc,au.map ge gc,au.iter 0 wc [n] wc]}):=by kernel_rfl
theorem zRE (N:Nat) (t:List Cf) (i:Int) (we:List dL) (wc:Nat) (ge:List dL) (gc:Nat) (j v:Int) (n:Nat):(zX env N 18 [2,2,5,2,1,2] 0 1 0 (sRe t i we wc ge gc j v n) fun e s=>(.ok (e,s):aj (Ex×St)))=aj.ok (Ex.norm,sRd t i we wc ge gc j v n):=by kernel_rfl
theorem zRD (N:Nat) (t:List Cf) (i:Int) (we:List dL) (wc:Nat) (ge:List dL) (gc:Nat) (j v:Int) (n:Nat):(mJ env N 18 [2,2,5,2,1,2] 1 2 (sRd t i we wc ge gc j v n) (fun e s=>e.k (.ok s) (fun _=> .stuck) .stuck))=chk (jg [0] (i64 j)) (eY [0] (i64 j) we (chk (jg [0] (i64 j)) (eY [0] (i64 j) ge (chk (jg [0] (i64 j)) (eY [0] (i64 j) ge (aj.ok {tmps:=slots 70 [(0,PV.t (T.sl 6 (List.map Cf.t t))),(4,PV.t (i64 i)),(5,PV.mp 0),(6,PV.mp 1),(9,PV.t (i64 j)),(13,PV.t (i64 (↑(List.map Cf.t t).length:Int))),(14,PV.t (i64 i)),(36,PV.ptr 2 0),(37,PV.t (T.ak [T.bool true,i64 j,i64 v])),(38,PV.t (T.bool true)),(39,PV.t (T.ak [i64 j,i64 v])),(40,PV.t (i64 j)),(41,PV.mp 0),(42,PV.t (i64 j)),(43,PV.mp 1),(44,PV.t (i64 j)),(45,PV.t (i64 0)),(46,PV.t (i64 1))],heap:=[au.map we wc,au.map (ge++ [(i64 j,i64 1,gc)]) (gc+1),au.iter 0 wc [n] wc]}) fun kV x b=>aj.ok {tmps:=slots 70 [(0,PV.t (T.sl 6 (List.map Cf.t t))),(4,PV.t (i64 i)),(5,PV.mp 0),(6,PV.mp 1),(9,PV.t (i64 j)),(13,PV.t (i64 (↑(List.map Cf.t t).length:Int))),(14,PV.t (i64 i)),(36,PV.ptr 2 0),(37,PV.t (T.ak [T.bool true,i64 j,i64 v])),(38,PV.t (T.bool true)),(39,PV.t (T.ak [i64 j,i64 v])),(40,PV.t (i64 j)),(41,PV.mp 0),(42,PV.t (i64 j)),(43,PV.mp 1),(44,PV.t (i64 j)),(45,PV.t (i64 0)),(46,PV.t (i64 1))],heap:=[au.map we wc,au.map (ge.set kV (i64 j,i64 1,b)) gc,au.iter 0 wc [n] wc]})) fun x v_1 x_1=>iT IntKind.i64 v_1 fun a=>chk (jg [0] (i64 j)) (eY [0] (i64 j) ge (aj.ok {tmps:=slots 70 [(0,PV.t (T.sl 6 (List.map Cf.t t))),(4,PV.t (i64 i)),(5,PV.mp 0),(6,PV.mp 1),(9,PV.t (i64 j)),(13,PV.t (i64 (↑(List.map Cf.t t).length:Int))),(14,PV.t (i64 i)),(36,PV.ptr 2 0),(37,PV.t (T.ak [T.bool true,i64 j,i64 v])),(38,PV.t (T.bool true)),(39,PV.t (T.ak [i64 j,i64 v])),(40,PV.t (i64 j)),(41,PV.mp 0),(42,PV.t (i64 j)),(43,PV.mp 1),(44,PV.t (i64 j)),(45,PV.t v_1),(46,PV.t (i64 (IntKind.i64.wrap (a+1))))],heap:=[au.map we wc,au.map (ge++ [(i64 j,i64 (IntKind.i64.wrap (a+1)),gc)]) (gc+1),au.iter 0 wc [n] wc]}) fun kV x b=>aj.ok {tmps:=slots 70 [(0,PV.t (T.sl 6 (List.map Cf.t t))),(4,PV.t (i64 i)),(5,PV.mp 0),(6,PV.mp 1),(9,PV.t (i64 j)),(13,PV.t (i64 (↑(List.map Cf.t t).length:Int))),(14,PV.t (i64 i)),(36,PV.ptr 2 0),(37,PV.t (T.ak [T.bool true,i64 j,i64 v])),(38,PV.t (T.bool true)),(39,PV.t (T.ak [i64 j,i64 v])),(40,PV.t (i64 j)),(41,PV.mp 0),(42,PV.t (i64 j)),(43,PV.mp 1),(44,PV.t (i64 j)),(45,PV.t v_1),(46,PV.t (i64 (IntKind.i64.wrap (a+1))))],heap:=[au.map we wc,au.map (ge.set kV (i64 j,i64 (IntKind.i64.wrap (a+1)),b)) gc,au.iter 0 wc [n] wc]}))) fun kV x x_1=>chk (jg [0] (i64 j)) (eY [0] (i64 j) ge (chk (jg [0] (i64 j)) (eY [0] (i64 j) ge (aj.ok {tmps:=slots 70 [(0,PV.t (T.sl 6 (List.map Cf.t t))),(4,PV.t (i64 i)),(5,PV.mp 0),(6,PV.mp 1),(9,PV.t (i64 j)),(13,PV.t (i64 (↑(List.map Cf.t t).length:Int))),(14,PV.t (i64 i)),(36,PV.ptr 2 0),(37,PV.t (T.ak [T.bool true,i64 j,i64 v])),(38,PV.t (T.bool true)),(39,PV.t (T.ak [i64 j,i64 v])),(40,PV.t (i64 j)),(41,PV.mp 0),(42,PV.t (i64 j)),(43,PV.mp 1),(44,PV.t (i64 j)),(45,PV.t (i64 0)),(46,PV.t (i64 1))],heap:=[au.map (we.eraseIdx kV) wc,au.map (ge++ [(i64 j,i64 1,gc)]) (gc+1),au.iter 0 wc [n] wc]}) fun i_2 x b=>aj.ok {tmps:=slots 70 [(0,PV.t (T.sl 6 (List.map Cf.t t))),(4,PV.t (i64 i)),(5,PV.mp 0),(6,PV.mp 1),(9,PV.t (i64 j)),(13,PV.t (i64 (↑(List.map Cf.t t).length:Int))),(14,PV.t (i64 i)),(36,PV.ptr 2 0),(37,PV.t (T.ak [T.bool true,i64 j,i64 v])),(38,PV.t (T.bool true)),(39,PV.t (T.ak [i64 j,i64 v])),(40,PV.t (i64 j)),(41,PV.mp 0),(42,PV.t (i64 j)),(43,PV.mp 1),(44,PV.t (i64 j)),(45,PV.t (i64 0)),(46,PV.t (i64 1))],heap:=[au.map (we.eraseIdx kV) wc,au.map (ge.set i_2 (i64 j,i64 1,b)) gc,au.iter 0 wc [n] wc]})) fun x v_1 x_2=>iT IntKind.i64 v_1 fun a=>chk (jg [0] (i64 j)) (eY [0] (i64 j) ge (aj.ok {tmps:=slots 70 [(0,PV.t (T.sl 6 (List.map Cf.t t))),(4,PV.t (i64 i)),(5,PV.mp 0),(6,PV.mp 1),(9,PV.t (i64 j)),(13,PV.t (i64 (↑(List.map Cf.t t).length:Int))),(14,PV.t (i64 i)),(36,PV.ptr 2 0),(37,PV.t (T.ak [T.bool true,i64 j,i64 v])),(38,PV.t (T.bool true)),(39,PV.t (T.ak [i64 j,i64 v])),(40,PV.t (i64 j)),(41,PV.mp 0),(42,PV.t (i64 j)),(43,PV.mp 1),(44,PV.t (i64 j)),(45,PV.t v_1),(46,PV.t (i64 (IntKind.i64.wrap (a+1))))],heap:=[au.map (we.eraseIdx kV) wc,au.map (ge++ [(i64 j,i64 (IntKind.i64.wrap (a+1)),gc)]) (gc+1),au.iter 0 wc [n] wc]}) fun i_2 x b=>aj.ok {tmps:=slots 70 [(0,PV.t (T.sl 6 (List.map Cf.t t))),(4,PV.t (i64 i)),(5,PV.mp 0),(6,PV.mp 1),(9,PV.t (i64 j)),(13,PV.t (i64 (↑(List.map Cf.t t).length:Int))),(14,PV.t (i64 i)),(36,PV.ptr 2 0),(37,PV.t (T.ak [T.bool true,i64 j,i64 v])),(38,PV.t (T.bool true)),(39,PV.t (T.ak [i64 j,i64 v])),(40,PV.t (i64 j)),(41,PV.mp 0),(42,PV.t (i64 j)),(43,PV.mp 1),(44,PV.t (i64 j)),(45,PV.t v_1),(46,PV.t (i64 (IntKind.i64.wrap (a+1))))],heap:=[au.map (we.eraseIdx kV) wc,au.map (ge.set i_2 (i64 j,i64 (IntKind.i64.wrap (a+1)),b)) gc,au.iter 0 wc [n] wc]}))):=by kernel_rfl
end
section
open Go.RowKit Go.Proofs
variable [Lv]
def V3 (t:List Cf) (i:Int) (we:List dL) (wc:Nat) (ge:List dL) (gc:Nat) (xs:List T) (n k:Int) (b:Bool):St:=⟨slots 70 [(0,.t (.sl 6 (t.map Cf.t))),(4,.t (i64 i)),(5,.mp 0),(6,.mp 1),(13,.t (i64 (t.map Cf.t).length)),(14,.t (i64 i)),(49,.t (.sl 1 xs)),(50,.t (i64 n)),(51,.t (i64 k)),(52,.t (.bool b))],[.map we wc,.map ge gc]⟩
def sRh (t:List Cf) (i:Int) (we:List dL) (wc:Nat) (ge:List dL) (gc:Nat) (xs:List T) (n k m:Int) (b:Bool):St:=⟨slots 70 [(0,.t (.sl 6 (t.map Cf.t))),(4,.t (i64 i)),(5,.mp 0),(6,.mp 1),(11,.t (i64 m)),(13,.t (i64 (t.map Cf.t).length)),(14,.t (i64 i)),(49,.t (.sl 1 xs)),(50,.t (i64 n)),(51,.t (i64 k)),(52,.t (.bool b)),(53,.rp 1 (i64 m) 0),(54,.t (i64 m))],[.map we wc,.map ge gc]⟩
def Il (t:List Cf) (i:Int) (we:List dL) (wc:Nat) (ge:List dL) (gc:Nat) (xs:List T) (n k m g:Int) (b b2:Bool):St:=⟨slots 70 [(0,.t (.sl 6 (t.map Cf.t))),(4,.t (i64 i)),(5,.mp 0),(6,.mp 1),(11,.t (i64 m)),(13,.t (i64 (t.map Cf.t).length)),(14,.t (i64 i)),(49,.t (.sl 1 xs)),(50,.t (i64 n)),(51,.t (i64 k)),(52,.t (.bool b)),(53,.rp 1 (i64 m) 0),(54,.t (i64 m)),(55,.mp 1),(56,.t (i64 m)),(57,.t (i64 g)),(58,.t (.bool b2))],[.map we wc,.map ge gc]⟩
theorem oJ (N:Nat) (t:List Cf) (i:Int) (we:List dL) (wc:Nat) (ge:List dL) (gc:Nat) (xs:List T) (n k:Int):bF env N 18 [2,2,5,2,1,2,4] 0 2 (UG t i we wc ge gc xs n k)=bif decide (k < n) then aj.ok (Ex.norm,V3 t i we wc ge gc xs n k (decide (k < n))) else aj.ok (Ex.exit 8,V3 t i we wc ge gc xs n k (decide (k < n))):=by kernel_rfl
theorem tq (N:Nat) (t:List Cf) (i:Int) (we:List dL) (wc:Nat) (ge:List dL) (gc:Nat) (xs:List T) (n k:Int) (b:Bool):bF env N 18 [2,2,5,2,1,2,4,2] 0 1 (V3 t i we wc ge gc xs n k b)=dF xs k fun e=>aj.ok (Ex.norm,{tmps:=slots 70 [(0,PV.t (T.sl 6 (List.map Cf.t t))),(4,PV.t (i64 i)),(5,PV.mp 0),(6,PV.mp 1),(11,PV.t e),(13,PV.t (i64 (↑(List.map Cf.t t).length:Int))),(14,PV.t (i64 i)),(49,PV.t (T.sl 1 xs)),(50,PV.t (i64 n)),(51,PV.t (i64 k)),(52,PV.t (T.bool b)),(53,PV.rp 1 e 0),(54,PV.t e)],heap:=[au.map we wc,au.map ge gc]}):=by kernel_rfl
theorem tu (N:Nat) (t:List Cf) (i:Int) (we:List dL) (wc:Nat) (ge:List dL) (gc:Nat) (xs:List T) (n k m:Int) (b:Bool):bF env N 18 [2,2,5,2,1,2,4,2] 1 1 (sRh t i we wc ge gc xs n k m b)=chk (jg [0] (i64 m)) (eY [0] (i64 m) ge (aj.ok (Ex.norm,Il t i we wc ge gc xs n k m 0 b true)) fun x v x_1=>iT IntKind.i64 v fun a=>aj.ok (Ex.norm,{tmps:=slots 70 [(0,PV.t (T.sl 6 (List.map Cf.t t))),(4,PV.t (i64 i)),(5,PV.mp 0),(6,PV.mp 1),(11,PV.t (i64 m)),(13,PV.t (i64 (↑(List.map Cf.t t).length:Int))),(14,PV.t (i64 i)),(49,PV.t (T.sl 1 xs)),(50,PV.t (i64 n)),(51,PV.t (i64 k)),(52,PV.t (T.bool b)),(53,PV.rp 1 (i64 m) 0),(54,PV.t (i64 m)),(55,PV.mp 1),(56,PV.t (i64 m)),(57,PV.t v),(58,PV.t (T.bool (a==0)))],heap:=[au.map we wc,au.map ge gc]})):=by kernel_rfl
theorem ah5 (N:Nat) (t:List Cf) (i:Int) (we:List dL) (wc:Nat) (ge:List dL) (gc:Nat) (xs:List T) (n k m g:Int) (b:Bool):(mJ env N 18 [2,2,5,2,1,2,4,2] 2 1 (Il t i we wc ge gc xs n k m g b false) (AL env N 18 [2,2,5,2,1,2] 4 9 3 1))=aj.ok (Ex.norm,{tmps:=slots 70 [(0,PV.t (T.sl 6 (List.map Cf.t t))),(4,PV.t (i64 i)),(5,PV.mp 0),(6,PV.mp 1),(13,PV.t (i64 (↑(List.map Cf.t t).length:Int))),(14,PV.t (i64 i)),(49,PV.t (T.sl 1 xs)),(50,PV.t (i64 n)),(51,PV.t (i64 (IntKind.i64.wrap (k+1))))],heap:=[au.map we wc,au.map ge gc]}):=by kernel_rfl
theorem ah6 (N:Nat) (t:List Cf) (i:Int) (we:List dL) (wc:Nat) (ge:List dL) (gc:Nat) (xs:List T) (n k m g:Int) (b:Bool):(mJ env N 18 [2,2,5,2,1,2,4,2] 2 1 (Il t i we wc ge gc xs n k m g b true) (AL env N 18 [2,2,5,2,1,2] 4 9 3 1))=chk (jg [0] (i64 m)) (eY [0] (i64 m) we (chk (jg [0] (i64 m)) (eY [0] (i64 m) we (aj.ok (Ex.norm,{tmps:=slots 70 [(0,PV.t (T.sl 6 (List.map Cf.t t))),(4,PV.t (i64 i)),(5,PV.mp 0),(6,PV.mp 1),(13,PV.t (i64 (↑(List.map Cf.t t).length:Int))),(14,PV.t (i64 i)),(49,PV.t (T.sl 1 xs)),(50,PV.t (i64 n)),(51,PV.t (i64 (IntKind.i64.wrap (k+1))))],heap:=[au.map (we++ [(i64 m,i64 1,wc)]) (wc+1),au.map ge gc]})) fun kV x b=>aj.ok (Ex.norm,{tmps:=slots 70 [(0,PV.t (T.sl 6 (List.map Cf.t t))),(4,PV.t (i64 i)),(5,PV.mp 0),(6,PV.mp 1),(13,PV.t (i64 (↑(List.map Cf.t t).length:Int))),(14,PV.t (i64 i)),(49,PV.t (T.sl 1 xs)),(50,PV.t (i64 n)),(51,PV.t (i64 (IntKind.i64.wrap (k+1))))],heap:=[au.map (we.set kV (i64 m,i64 1,b)) wc,au.map ge gc]}))) fun x v x_1=>iT IntKind.i64 v fun a=>chk (jg [0] (i64 m)) (eY [0] (i64 m) we (aj.ok (Ex.norm,{tmps:=slots 70 [(0,PV.t (T.sl 6 (List.map Cf.t t))),(4,PV.t (i64 i)),(5,PV.mp 0),(6,PV.mp 1),(13,PV.t (i64 (↑(List.map Cf.t t).length:Int))),(14,PV.t (i64 i)),(49,PV.t (T.sl 1 xs)),(50,PV.t (i64 n)),(51,PV.t (i64 (IntKind.i64.wrap (k+1))))],heap:=[au.map (we++ [(i64 m,i64 (IntKind.i64.wrap (a+1)),wc)]) (wc+1),au.map ge gc]})) fun kV x b=>aj.ok (Ex.norm,{tmps:=slots 70 [(0,PV.t (T.sl 6 (List.map Cf.t t))),(4,PV.t (i64 i)),(5,PV.mp 0),(6,PV.mp 1),(13,PV.t (i64 (↑(List.map Cf.t t).length:Int))),(14,PV.t (i64 i)),(49,PV.t (T.sl 1 xs)),(50,PV.t (i64 n)),(51,PV.t (i64 (IntKind.i64.wrap (k+1))))],heap:=[au.map (we.set kV (i64 m,i64 (IntKind.i64.wrap (a+1)),b)) wc,au.map ge gc]}))):=by kernel_rfl
end
section
open Go.RowKit Go.Proofs
variable [Lv]
def aeo (t:List Cf) (i:Int) (we:List dL) (wc:Nat) (ge:List dL) (gc:Nat) (j v:Int) (n wd:Nat):St:=⟨slots 70 [(0,.t (.sl 6 (t.map Cf.t))),(4,.t (i64 i)),(5,.mp 0),(6,.mp 1),(9,.t (i64 j)),(13,.t (i64 (t.map Cf.t).length)),(14,.t (i64 i)),(36,.ptr 2 0),(37,.t (.ak [.bool true,i64 j,i64 v])),(38,.t (.bool true)),(39,.t (.ak [i64 j,i64 v])),(40,.t (i64 j)),(41,.mp 0),(42,.t (i64 j)),(43,.mp 1),(44,.t (i64 j)),(45,.t (i64 0)),(46,.t (i64 1))],[.map we wc,.map ge gc,.iter 0 wd [n] wd]⟩
theorem xM (N:Nat) (t:List Cf) (i:Int) (we:List dL) (wc:Nat) (ge:List dL) (gc:Nat) (j v:Int) (n wd:Nat):bF env N 18 [2,2,5,2,1,2] 3 1 (aeo t i we wc ge gc j v n wd)=cl N 38 [T.sl 6 (List.map Cf.t t),i64 j] fun x=>jF x fun QT=>aj.ok (Ex.norm,{tmps:=slots 70 [(0,PV.t (T.sl 6 (List.map Cf.t t))),(4,PV.t (i64 i)),(5,PV.mp 0),(6,PV.mp 1),(9,PV.t (i64 j)),(13,PV.t (i64 (↑(List.map Cf.t t).length:Int))),(14,PV.t (i64 i)),(36,PV.ptr 2 0),(37,PV.t (T.ak [T.bool true,i64 j,i64 v])),(38,PV.t (T.bool true)),(39,PV.t (T.ak [i64 j,i64 v])),(40,PV.t (i64 j)),(41,PV.mp 0),(42,PV.t (i64 j)),(43,PV.mp 1),(44,PV.t (i64 j)),(45,PV.t (i64 0)),(46,PV.t (i64 1)),(47,PV.t (T.sl 6 (List.map Cf.t t))),(48,PV.t (i64 j)),(49,PV.t x),(50,PV.t (i64 QT)),(51,PV.t (i64 0))],heap:=[au.map we wc,au.map ge gc,au.iter 0 wd [n] wd]}):=by kernel_rfl
theorem Nj (N:Nat) (t:List Cf) (i:Int) (b:Bool):bF env N 18 [2,2] 0 4 (Og t i b)=cl N 38 [T.sl 6 (List.map Cf.t t),i64 i] fun x=>jF x fun n=>aj.ok (Ex.norm,{tmps:=slots 70 [(0,PV.t (T.sl 6 (List.map Cf.t t))),(4,PV.t (i64 i)),(5,PV.mp 0),(6,PV.mp 1),(13,PV.t (i64 (↑(List.map Cf.t t).length:Int))),(14,PV.t (i64 i)),(15,PV.t (T.bool b)),(16,PV.t (i64 i)),(17,PV.mp 0),(18,PV.mp 1),(19,PV.t (T.sl 6 (List.map Cf.t t))),(20,PV.t (i64 i)),(21,PV.t x),(22,PV.t (i64 n)),(23,PV.t (i64 0))],heap:=[au.map [] 0,au.map [] 0]}):=by kernel_rfl
theorem Tf (N:Nat):bF env N 18 [] 3 2 (⟨slots 70 [],[]⟩)=aj.ok (Ex.ret,{tmps:=slots 70 [(2,PV.t (i64 0)),(3,PV.t (T.bool false))],heap:=[]}):=by kernel_rfl
end
end Go.aO
