/- The texts of a proof, one behind the other: an interpreter and its soundness, what the functions of the program answer, and plain laws on that. -/
import Derived.Test.YtjlpnhpfbgbkhaaGreatK5
import Derived.MapKept
import Derived.WideKeyRuns
set_option linter.unusedVariables false
set_option linter.unusedSimpArgs false
set_option linter.unnecessarySimpa false
set_option linter.unusedSectionVars false
set_option maxRecDepth 100000
namespace Go.aT
section
open Go.RowKit
section
variable {P:Program} {F:Nat→Prop} {κ:Nat→Value} {w:World} {H:List aj}
theorem acM {α γ:Type} {o:Option α} {K:α→Option γ} {c:γ} (h:akz o K=some c):∃ a,o=some a∧K a=some c:=by
 cases o with
 |none=>cases h
 |some a=>exact⟨a,rfl,h⟩
theorem zD {t k e:TypeId} (h:IV P t=some (k,e)):P.underlying t=some (.map k e):=by
 unfold IV at h
 split at h
 · rename_i k' e' hu; simp only[Option.some.injEq,Prod.mk.injEq] at h; rw[hu,h.1,h.2]
 · cases h
inductive Io (P:Program) (t:TypeId):List Nat→Prop
 |int {k:IntKind} (h:P.underlying t=some (.int k)):Io P t [0]
 |struct {fs:Array Field} {l:List Nat} (h:P.underlying t=some (.struct fs)) (hf:∀ f∈fs.toList,∃ k,P.underlying f.type=some (.int k)) (e1:BR P 20 t=some l) (h2:2≤l.length) (h0:∀ n∈l,n=0):Io P t l
theorem aaG {t:TypeId} {l:List Nat} (h:akR P t=some l):Io P t l:=by
 unfold akR at h
 cases hu:P.underlying t with
 |none=>simp[hu] at h
 |some d=>
  cases d with
  |int k=>simp only[hu,Option.some.injEq] at h; subst h; exact .int hu
  |struct fs=>
   simp only[hu] at h
   cases hc:(fs.toList.all fun f=>(qC P f.type).isSome) with
   |false=>simp[hc] at h
   |true=>
    simp only[hc,cond_true] at h
    obtain⟨l',hl,h⟩:=acM h
    cases h2:(decide (2≤l'.length)&&l'.all (· ==0)) with
    |false=>simp[h2] at h
    |true=>
     simp only[h2,cond_true,Option.some.injEq] at h
     subst h
     simp only[Bool.and_eq_true,decide_eq_true_eq,List.all_eq_true,beq_iff_eq] at h2
     refine .struct hu (fun f hf=>?_) ?_ h2.1 h2.2
     · have:=List.all_eq_true.1 hc f hf
       obtain⟨k,hk⟩:=Option.isSome_iff_exists.1 this
       exact⟨k,tH hk⟩
     · unfold X8 at hl
       cases hg:P.eqGuardType P.depth t with
       |true=>simp[hg] at hl
       |false=>
        simp only[hg,cond_false] at hl
        split at hl
        · rename_i l2 a s g1 g2 g3
          cases hq:(l2.length==s&&((a&&decide (2≤s))||(!a&&s==1))) with
          |false=>simp[hq] at hl
          |true=>simp only[hq,cond_true,Option.some.injEq] at hl; subst hl; exact g1
        · cases hl
  |_=>simp[hu] at h
theorem OM:∀ {l:List Nat} {xs ys:List T},T.eX l xs ys=some true→(∀ n∈l,n=0)→xs=ys∧∀ x∈xs,∃ k n,x= .int k n
 | [],xs,ys,h,_=>by
  cases xs<;>cases ys<;>simp[T.eX] at h
  exact⟨rfl,by simp⟩
 |n::l,xs,ys,h,h0=>by
  obtain rfl:=h0 n List.mem_cons_self
  cases xs with
  |nil=>simp[T.eX] at h
  |cons x xs=>
   cases ys with
   |nil=>cases x<;>simp[T.eX] at h
   |cons y ys=>
    cases x<;>cases y<;>simp only[T.eX] at h<;>try (cases h)
    rename_i k a k' b
    split at h
    · rename_i hk
      simp only[Option.map_eq_some_iff,Bool.and_eq_true,beq_iff_eq] at h
      obtain⟨c,h1,rfl,rfl⟩:=h
      subst hk
      obtain⟨e1,e2⟩:=OM h1 fun n hn=>h0 n (List.mem_cons_of_mem _ hn)
      exact⟨by rw[e1],fun z hz=>(List.mem_cons.1 hz).elim (fun e=>⟨_,_,e⟩) (e2 z)⟩
    · cases h
theorem Rd.wL {k:IntKind} {n:Int} {v:Value} (h:Rd F w (.int k n) v):v= .int k n:=by cases h; rfl
theorem UK {l:List Nat} {x y:T} {v u:Value} (h0:∀ n∈l,n=0) (hx:keyS l x=true) (hl:(x.flat l).length=l.length) (h:T.eX l (x.flat l) (y.flat l)=some true) (r1:Rd F w x v) (r2:Rd F w y u):v=u∧x=y∧Instr.sameBits 10000 v v=true:=by
 obtain⟨e1,e2⟩:=OM h h0
 match l,hx,hl with
 | [n],hx,_=>
  have exy:x=y:=by simpa[T.flat] using e1
  subst exy
  obtain⟨k,m,rfl⟩:=e2 x (by simp[T.flat])
  rw[r1.wL,r2.wL]
  exact⟨rfl,rfl,by simp[Instr.sameBits]⟩
 |n::m::l,hx,hl=>
  cases x with
  |agg cs=>
   simp only[T.flat,T.cells] at e1 e2 hl
   have hy:y= .agg cs:=by
    cases y with
    |agg ds=>simp only[T.cells] at e1; rw[e1]
    |_=>simp only[T.cells] at e1; rw[e1] at hl; simp at hl
   subst hy
   cases r1 with
   | @agg _ vs hl1 _ hr1=>
   cases r2 with
   | @agg _ us hl2 _ hr2=>
   have hint:∀ (i:Nat) (v:Value),vs[i]? =some v→∃ k n,v= .int k n∧us[i]? =some v:=fun i v hv=>by
    have hi:i < cs.length:=by rw[←hl1]; exact(List.getElem?_eq_some_iff.1 hv).1
    have hu:us[i]? =some us[i]:=List.getElem?_eq_getElem (by omega)
    have hc:cs[i]? =some cs[i]:=List.getElem?_eq_getElem hi
    obtain⟨k,m,hk⟩:=e2 cs[i] (List.getElem_mem _)
    have a1:=hr1 i _ _ hc hv
    have a2:=hr2 i _ _ hc hu
    rw[hk] at a1 a2
    exact⟨k,m,a1.wL,by rw[hu,a1.wL,a2.wL]⟩
   have hvu:vs=us:=List.ext_getElem? fun i=>by
    cases hv:vs[i]? with
    |none=>
     have:vs.length≤i:=List.getElem?_eq_none_iff.1 hv
     exact(List.getElem?_eq_none (by omega)).symm
    |some v=>obtain⟨_,_,_,h⟩:=hint i v hv; exact h.symm
   subst hvu
   refine⟨rfl,rfl,?_⟩
   show Instr.sameBits (9999+1) (.agg vs.toArray) (.agg vs.toArray)=true
   simp only[Instr.sameBits,beq_self_eq_true,Bool.true_and,List.all_eq_true]
   rintro⟨p,q⟩ hpq
   obtain⟨i,hi⟩:=List.getElem?_of_mem hpq
   rw[List.getElem?_zip_eq_some] at hi
   obtain⟨k,m,rfl,h2⟩:=hint i p hi.1
   have:q= .int k m:=by have:=hi.2; simp only[] at this; rw[hi.1] at this; injection this with this; exact this.symm
   subst this
   simp[Instr.sameBits]
  |_=>cases hx
theorem UJ {l:List Nat} {k:T} (h:jB l k=true):keyS l k=true∧(k.flat l).length=l.length∧∀ x∈k.flat l,x.isInt=true:=by
 simp only[jB,Bool.and_eq_true,beq_iff_eq,List.all_eq_true] at h
 exact h
theorem Fj {v:Value} (h:Instr.sameBits 10000 v v=true):(Instr.keyThatStays v v).run P w= .ok v w:=by simp[Instr.keyThatStays,h]
theorem aex {t:TypeId} {q:IntKind} (hu:P.underlying t=some (.int q)) (em:Bool) (n:Nat) (v:Value):(Instr.checkKey em (n+1) t v).run P w= .ok () w:=by
 unfold Instr.checkKey
 simp only[Sem.run_bind,run_underlying hu,Result.andThen_ok]
 cases v<;>rfl
theorem YV {α:Type} {l:List α} {b:α→PUnit→Sem (ForInStep PUnit)} (h:∀ x∈l,∀ u,(b x u).run P w= .ok (.yield u) w) (u:PUnit):(forIn l u b).run P w= .ok u w:=by
 induction l with
 |nil=>simp
 |cons x l ih=>
  rw[List.forIn_cons,Sem.run_bind,h x List.mem_cons_self]
  simp only[Result.andThen_ok]
  exact ih fun y hy=>h y (List.mem_cons_of_mem _ hy)
theorem GY {P:Program} {d:TypeId→Option (List Nat)}:∀ {fl:List Field} {off:Nat} {l:List Nat},Iu P d fl off=some l→∀ f∈fl,∃ s a,kJ P f.type=some s∧lM P f.type=some a∧(a=true∨s=1)∧f.offset+s≤off+l.length
 | [],_,_,_,f,hf=>by cases hf
 |g::fl,off,l,h,f,hf=>by
  unfold Iu at h
  cases hg:(g.name== "_" || !(g.offset==off)) with
  |true=>simp[hg] at h
  |false=>
   simp only[hg,cond_false] at h
   simp only[Bool.or_eq_false_iff,Bool.not_eq_false',beq_iff_eq,beq_eq_false_iff_ne] at hg
   cases q1:d g.type with
   |none=>simp[q1] at h
   |some l1=>
    cases q2:kJ P g.type with
    |none=>simp[q1,q2] at h
    |some s=>
     cases q3:lM P g.type with
     |none=>simp[q1,q2,q3] at h
     |some a=>
      simp only[q1,q2,q3] at h
      cases hc:(l1.length==s&&(a||s==1)) with
      |false=>simp[hc] at h
      |true=>
       simp only[hc,cond_true,Option.map_eq_some_iff] at h
       obtain⟨l2,h3,rfl⟩:=h
       simp only[Bool.and_eq_true,Bool.or_eq_true,beq_iff_eq] at hc
       obtain⟨rfl,hc2⟩:=hc
       rw[List.length_append]
       rcases List.mem_cons.1 hf with rfl|hf
       · exact⟨_,a,q2,q3,hc2,by omega⟩
       · obtain⟨s,a,e1,e2,e3,e4⟩:=GY h3 f hf
         exact⟨s,a,e1,e2,e3,by omega⟩
theorem qm {t:TypeId} {l:List Nat} {k:T} {v:Value} (hk:Io P t l) (h:keyS l k=true) (hl:(k.flat l).length=l.length) (r:Rd F w k v) (em:Bool):(Instr.checkKey em 10000 t v).run P w= .ok () w:=by
 cases hk with
 | @int q hu=>exact aex hu em 9999 v
 | @struct fs l hu hf e1 h2 h0=>
  match l,h,hl,h2 with
  |n::m::l,h,hl,h2=>
  cases k with
  |agg cs=>
   cases r with
   | @agg _ vs hlv h1 hr=>
   simp only[T.flat,T.cells] at hl
   have e1':=e1
   rw[show(20:Nat)=19+1 from rfl] at e1'
   unfold BR at e1'
   simp only[hu] at e1'
   cases hst:P.stoodInHeld t with
   |true=>simp[hst] at e1'
   |false=>
    simp only[hst,cond_false] at e1'
    have gen:∀ N:Nat,(Instr.checkKey em (N+1+1) t (.agg vs.toArray)).run P w= .ok () w:=fun N=>by
     unfold Instr.checkKey
     simp only[Sem.run_bind,run_underlying hu,Result.andThen_ok]
     rw[←Array.forIn_toList]
     rw[YV (fun f hfm u=>?_)]
     · rfl
     · obtain⟨s,a,g1,g2,g3,g4⟩:=GY e1' f hfm
       obtain⟨k,hk⟩:=hf f hfm
       have hp:=AL (w:=w) g1 g2 g3 vs f.offset (by rw[hlv,hl]; simpa using g4)
       by_cases hn:f.name= "_"
       · simp[hn]
       · simp[hn,hp,aex hk]
    exact gen 9998
  |_=>cases h
def vV (F:Nat→Prop) (w:World) (es:List (T×T×Nat)) (ms:List MapEntry):Prop:=ms.length=es.length∧∀ (i:Nat) (x:T×T×Nat) (m:MapEntry),es[i]? =some x→ms[i]? =some m→Rd F w x.1 m.key∧Rd F w x.2.1 m.val∧m.born=x.2.2
theorem vV.tail {x:T×T×Nat} {es:List (T×T×Nat)} {m:MapEntry} {ms:List MapEntry} (h:vV F w (x::es) (m::ms)):vV F w es ms:=
 ⟨by simpa using h.1,fun i x m a b=>h.2 (i+1) x m (by simpa using a) (by simpa using b)⟩
def Found (es:List (T×T×Nat)) (l:List Nat) (k:T) (j:Nat):Option (Nat×T×Nat)→Prop
 |none=>True
 |some (i,v,b)=>j≤i∧∃ k',es[i - j]? =some (k',v,b)∧T.eX l (k.flat l) (k'.flat l)=some true
theorem Ux {t:TypeId} {l:List Nat} {k:T} {v:Value} (hk:Io P t l) (rk:Rd F w k v):∀ {es:List (T×T×Nat)} {ms:List MapEntry} {j:Nat} {r:Option (Nat×T×Nat)},vV F w es ms→jh l k es j=some r→
 ∃ q,((∀ kd,P.underlying t=some (.int kd)→Instr.findNow (.int kd) v ms j=some q)∧(Instr.findAsking t v ms j).run P w= .ok q w)∧Found es l k j r∧
  (match r with|none=>q=none|some (i,_,_)=>∃ m,ms[i - j]? =some m∧q=some (i,m.val))
 | [],ms,j,r,he,h=>by
  simp only[jh,Option.some.injEq] at h
  subst h
  have:ms= []:=List.eq_nil_of_length_eq_zero (by simpa using he.1)
  subst this
  exact⟨none,⟨fun _ _=>rfl,rfl⟩,trivial,rfl⟩
 |e::es,[],j,r,he,h=>by have:=he.1; simp at this
 |e::es,m::ms,j,r,he,h=>by
  obtain⟨r1,r2,r3⟩:=he.2 0 e m rfl rfl
  unfold jh at h
  cases hq:T.eX l (k.flat l) (e.1.flat l) with
  |none=>simp[hq] at h
  |some b=>
   have akO:∀ kd,P.underlying t=some (.int kd)→Instr.sameNow (.int kd) v m.key=some b:=fun kd hu=>by
    cases hk with
    |int _=>
     cases k<;>cases e1:e.1<;>rw[e1] at hq<;>simp only[T.flat,T.eX] at hq<;>try (cases hq)
     rw[e1] at r1
     rw[rk.wL,r1.wL]
     simp only[Instr.sameNow]
     split at hq
     · rename_i hkk; rw[if_pos hkk]; simpa using hq
     · cases hq
    |struct h=>rw[h] at hu; cases hu
   have heq:(Op.equal t v m.key).run P w= .ok b w:=by
    cases hk with
    | @int kd hu=>
     have h1:=akO kd hu
     cases v<;>simp only[Instr.sameNow] at h1<;>try (cases h1)
     cases hm:m.key<;>rw[hm] at h1<;>simp only[Instr.sameNow] at h1<;>try (cases h1)
     split at h1
     · rename_i hkk
       subst hkk
       injection h1 with h1
       subst h1
       unfold Op.equal Op.maxDepth
       exact run_equalIn_int w _ t _ _ _ _ hu
     · cases h1
    | @struct fs l hu hf e1 h2 h0=>
     obtain⟨vs,us,_,_,hv1,hu1,hrun⟩:=Bv (E:={P:=P,hint:=fun _ _=>([],[]),mode:=fun _=>0,ext:=fun _=>none,agH:=fun _=>false,zM:=fun _=>none}) e1 (VB hu) rfl (.inl ⟨rfl,h2⟩) rk r1 hq
     rw[hv1,hu1]; exact hrun
   simp only[hq] at h
   cases b with
   |true=>
    simp only[Option.some.injEq] at h
    subst h
    refine⟨some (j,m.val),⟨fun kd hu=>by simp[Instr.findNow,akO kd hu],by simp[Instr.findAsking,heq]⟩,⟨Nat.le_refl _,e.1,by simp,hq⟩,m,by simp,rfl⟩
   |false=>
    obtain⟨q,⟨g1,g2⟩,g3,g4⟩:=Ux hk rk he.tail h
    refine⟨q,⟨fun kd hu=>by simp[Instr.findNow,akO kd hu,g1 kd hu],by simp[Instr.findAsking,heq,g2]⟩,?_,?_⟩
    · cases r with
      |none=>trivial
      |some x=>
       obtain⟨a1,k',a2,a3⟩:=g3
       exact⟨by omega,k',by rw[show x.1 - j=(x.1 - (j+1))+1 by omega]; exact a2,a3⟩
    · cases r with
      |none=>exact g4
      |some x=>
       obtain⟨m',a1,a2⟩:=g4
       have:=g3.1
       exact⟨m',by rw[show x.1 - j=(x.1 - (j+1))+1 by omega]; exact a1,a2⟩
theorem sO {t:TypeId} {l:List Nat} {k:T} {v:Value} (hk:Io P t l) (rk:Rd F w k v) {es:List (T×T×Nat)} {ms:List MapEntry} {r:Option (Nat×T×Nat)} (he:vV F w es ms) (h:jh l k es 0=some r):
 ∃ q,(Instr.findKey t v ms).run P w= .ok q w∧Found es l k 0 r∧(match r with|none=>q=none|some (i,_,_)=>∃ m,ms[i]? =some m∧q=some (i,m.val)):=by
 obtain⟨q,⟨g1,g2⟩,g3,g4⟩:=Ux hk rk he h
 refine⟨q,?_,g3,by cases r<;>simpa using g4⟩
 cases hk with
 |int hu=>exact MapKept.run_findKey hu (g1 _ hu)
 |struct hu _ _ _ _=>rw[run_findKey_eq w (by rw[hu])]; exact g2
end
section
variable {β:Type} {E:Env} {st:St} {F:Nat→Prop} {κ:Nat→Value} {w:World} {N0:Nat} {tm:Array Value}
theorem zU {l:List Nat} {k:T} {es:List (T×T×Nat)} {Kn:ah β} {K:Nat→T→Nat→ah β} (h:fA l k es Kn K≠ .stuck):
 (jh l k es 0=some none∧fA l k es Kn K=Kn)∨∃ i v b,jh l k es 0=some (some (i,v,b))∧fA l k es Kn K=K i v b:=by
 unfold fA at h ⊢
 cases hf:jh l k es 0 with
 |none=>simp[hf] at h
 |some r=>
  cases r with
  |none=>exact .inl ⟨rfl,rfl⟩
  |some x=>exact .inr ⟨x.1,x.2.1,x.2.2,rfl,rfl⟩
structure MapAt (E:Env) (st:St) (F:Nat→Prop) (κ:Nat→Value) (w:World) (t:TypeId) (p ix:PV) (v u:Value) (l:List Nat) (m:Nat) (es:List (T×T×Nat)) (c:Nat) (k:T) (kt et:TypeId) (b:Nat) (ms:Array MapEntry):Prop where
 un:E.P.underlying t=some (.map kt et)
 ko:Io E.P kt l
 hp:p= .mp m
 ho:st.heap[m]? =some (.map es c)
 hv:v= .map (some b)
 hk:κ m= .map (some b)
 hb:w.heap[b]? =some (.map ms c)
 en:vV F w es ms.toList
 kt:keyS l k=true
 kl:(k.flat l).length=l.length
 rk:Rd F w k u
theorem Ef {t:TypeId} {p ix:PV} {v u:Value} {K:List Nat→Nat→List (T×T×Nat)→Nat→T→ah β} (h:Ee E st t p ix K≠ .stuck) (s:SI F κ w st.heap) (hp:RP F κ st.heap.length w p v) (hi:RP F κ st.heap.length w ix u):
 ∃ l m es c k kt et b ms,Ee E st t p ix K=K l m es c k∧MapAt E st F κ w t p ix v u l m es c k kt et b ms:=by
 unfold Ee at h ⊢
 cases hm:IV E.P t with
 |none=>simp[hm] at h
 |some q=>
  obtain⟨kt,et⟩:=q
  simp only[hm] at h ⊢
  obtain⟨l,hl,e⟩:=aB h
  rw[e] at h ⊢
  cases hp with
  | @mp m b hN hk=>
   cases hi with
   | @t k _ rk=>
    simp only[] at h ⊢
    cases ho:st.heap[m]? with
    |none=>simp[ho] at h
    |some o=>
     have hro:=s.ro m o ho
     cases o with
     |map es c=>
      simp only[ho] at h ⊢
      obtain⟨g1,e⟩:=dQ h
      rw[e]
      have g1:=UJ g1
      obtain⟨b',ms,h1,h2,h3,h4⟩:=hro
      rw[hk] at h1
      injection h1 with h1
      injection h1 with h1
      subst h1
      exact⟨l,m,es,c,k,kt,et,b,ms,rfl,zD hm,aaG hl,rfl,ho,rfl,hk,h2,⟨by simpa using h3,fun i x y a b=>h4 i x y a (by simpa using b)⟩,g1.1,g1.2.1,rk⟩
     |_=>simp[ho] at h
   |_=>exact absurd rfl h
  |_=>exact absurd rfl h
theorem adD {t:TypeId} {z:T} (h:YH E.P t=some z) (s:SI F κ w st.heap):∃ v,(zeroValue t).run E.P w= .ok v w∧Rd F w z v:=by
 unfold YH at h
 rw[Option.bind_eq_some_iff] at h
 obtain⟨p,h1,h2⟩:=h
 obtain⟨i,v,i1,i2,i3⟩:=AA h1
 refine⟨v,by simp[zeroValue,typeInfo,i1,i2],?_⟩
 exact kS (F:=F) (F':=F) (κ:=κ) (w:=w) (H:=[]) ⟨fun l o h=>by simp at h,fun l o b h=>by simp at h,fun l l' o o' b h=>by simp at h,s.fl⟩ (lG i3) (fun _ h=>h) h2 (fun l _ e k xs b h=>by simp at h)
theorem aaj {t kt et:TypeId} {z:T} (h:elT E.P t=some z) (hu:E.P.underlying t=some (.map kt et)) (s:SI F κ w st.heap):∃ v,(zeroValue et).run E.P w= .ok v w∧Rd F w z v:=by
 have:elT E.P t=YH E.P et:=by simp[elT,IV,hu]
 rw[this] at h
 exact adD h s
theorem N7 {t:TypeId} {p ix:PV} {ok:Bool} {v u:Value} {K:PV→ah β} (h:rE E st t p ix ok K≠ .stuck) (s:SI F κ w st.heap) (hp:RP F κ st.heap.length w p v) (hi:RP F κ st.heap.length w ix u):
 ∃ q x,rE E st t p ix ok K=K q∧(Instr.lookup t v u ok).run E.P w= .ok x w∧RP F κ st.heap.length w q x:=by
 unfold rE at h ⊢
 obtain⟨z,hz,e⟩:=aB h
 rw[e] at h ⊢
 obtain⟨l,m,es,c,k,kt,et,b,ms,e,A⟩:=Ef h s hp hi
 rw[e] at h ⊢
 obtain⟨zv,z1,z2⟩:=aaj hz A.un s
 have hck:=qm A.ko A.kt A.kl A.rk
 have fin:∀ {x:T} {y:Value} (f:Bool),Rd F w x y→RP F κ st.heap.length w (adQ ok x f) (if ok=true then .tuple #[y,.bool f] else y):=fun {x y} f hr=>by
  cases ok with
  |false=>exact .t hr
  |true=>
   refine .t (.au (vs:=[y,.bool f]) rfl fun i q r g1 g2=>?_)
   match i with
   |0=>simp at g1 g2; subst g1; subst g2; exact hr
   |1=>simp at g1 g2; subst g1; subst g2; exact .bool
   |i+2=>simp at g1
 rcases zU h with ⟨hf,e⟩|⟨i,x,b',hf,e⟩
 · rw[e]
   obtain⟨q,g1,g2,g3⟩:=sO A.ko A.rk A.en hf
   simp only[] at g3
   subst g3
   refine⟨_,_,rfl,?_,fin false z2⟩
   rw[A.hv]
   simp only[Instr.lookup,Sem.run_bind,run_underlying A.un,Result.andThen_ok,MapKept.run_getObj_map A.hb,Sem.run_pure,hck,g1,z1]
 · rw[e]
   obtain⟨q,g1,g2,g3⟩:=sO A.ko A.rk A.en hf
   obtain⟨mm,g3,rfl⟩:=g3
   obtain⟨_,k',g4,_⟩:=g2
   have hr:=(A.en.2 i _ mm (by simpa using g4) g3).2.1
   refine⟨_,_,rfl,?_,fin true hr⟩
   rw[A.hv]
   simp only[Instr.lookup,Sem.run_bind,run_underlying A.un,Result.andThen_ok,MapKept.run_getObj_map A.hb,Sem.run_pure,hck,g1]
theorem map_set {m b c c':Nat} {es es':List (T×T×Nat)} {ms ms':Array MapEntry} (h0:N0≤st.heap.length) (s:SI F κ w st.heap) (ht:TR F κ w st tm) (ho:st.heap[m]? =some (.map es c)) (hk:κ m= .map (some b)) (hb:w.heap[b]? =some (.map ms c))
 (he:vV F w es' ms'.toList) {p:PV} {u:Value} (hp:RP F κ st.heap.length w p u):
 ∃ w',(setObj b (.map ms' c')).run E.P w= .ok () w'∧Next' N0 F κ w st tm p u F κ w' ⟨st.tmps,st.heap.set m (.map es' c')⟩:=by
 have hlt:b < w.heap.size:=(Array.getElem?_eq_some_iff.1 hb).1
 have hm:m < st.heap.length:=(List.getElem?_eq_some_iff.1 ho).1
 have hbl:∀ es c,blk κ m (.map es c)=some b:=fun es c=>by simp[blk,hk,iY]
 have hnF:=(s.lt m _ b ho (hbl _ _)).2
 have hoth:∀ d,d≠b→(w.heap.setIfInBounds b (.map ms' c'))[d]? =w.heap[d]? :=fun d hd=>Array.getElem?_setIfInBounds_ne (fun h=>hd h.symm)
 have tZ:∀ d,F d→(w.heap.setIfInBounds b (.map ms' c'))[d]? =w.heap[d]? :=fun d hd=>hoth d fun e=>hnF (e ▸ hd)
 refine⟨_,MapKept.run_setObj_map (.map ms' c') hb,s.oQ (w':={w with heap:=w.heap.setIfInBounds b (.map ms' c')}) ho (hbl _ _) (hbl _ _) (by simp) hoth ⟨b,ms',hk,?_,by simpa using he.1,fun i x y a d=>?_⟩,
  Ev.oQ ho (hbl _ _) (hbl _ _) rfl rfl rfl (by simp) hoth h0 (.inr fun e k xs h=>by cases h),?_,rfl,fun i q v g1 g2=>?_⟩
 · show(w.heap.setIfInBounds b (.map ms' c'))[b]? =_
   rw[Array.getElem?_setIfInBounds_self_of_lt hlt]
 · obtain⟨r1,r2,r3⟩:=he.2 i x y a (by simpa using d)
   exact⟨r1.mono (fun _ h=>h) tZ,r2.mono (fun _ h=>h) tZ,r3⟩
 · rw[List.length_set]
   exact hp.mono (fun _ h=>h) tZ fun l hl=>⟨rfl,hp.bound l hl⟩
 · rw[List.length_set]
   exact(ht i q v g1 g2).mono (fun _ h=>h) tZ fun l hl=>⟨rfl,(ht i q v g1 g2).bound l hl⟩
theorem vV.push {es:List (T×T×Nat)} {ms:Array MapEntry} (h:vV F w es ms.toList) {k x:T} {c:Nat} {kv xv:Value} (hk:Rd F w k kv) (hx:Rd F w x xv):vV F w (es++ [(k,x,c)]) (ms.push {key:=kv,val:=xv,born:=c}).toList:=by
 refine⟨by simpa using h.1,fun i y m a b=>?_⟩
 rw[Array.toList_push] at b
 rcases Nat.lt_or_ge i es.length with g|g
 · rw[List.getElem?_append_left g] at a
   rw[List.getElem?_append_left (by rw[h.1]; exact g)] at b
   exact h.2 i y m a b
 · rw[List.getElem?_append_right g] at a
   rw[List.getElem?_append_right (by rw[h.1]; exact g),h.1] at b
   have:i - es.length=0:=by have:=(List.getElem?_eq_some_iff.1 a).1; simp at this; omega
   rw[this] at a b
   simp at a b
   subst a; subst b
   exact⟨hk,hx,rfl⟩
theorem vV.set {es:List (T×T×Nat)} {ms:Array MapEntry} (h:vV F w es ms.toList) {i b:Nat} {k x:T} {f:MapEntry→MapEntry} (hf:∀ m,ms[i]? =some m→Rd F w k (f m).key∧Rd F w x (f m).val∧(f m).born=b):vV F w (es.set i (k,x,b)) (ms.modify i f).toList:=by
 refine⟨by simpa using h.1,fun j y m a d=>?_⟩
 rw[Array.getElem?_toList,Array.getElem?_modify] at d
 rw[List.getElem?_set] at a
 by_cases e:i=j
 · subst e
   simp only[if_true] at a d
   split at a
   · injection a with a; subst a
     rw[Option.map_eq_some_iff] at d
     obtain⟨m0,d,rfl⟩:=d
     exact hf m0 d
   · cases a
 · rw[if_neg e] at a d
   exact h.2 j y m a (by simpa using d)
theorem CV {t:TypeId} {p ix q:PV} {v u x:Value} {K:St→ah β} (h:wQ E st t p ix q K≠ .stuck) (h0:N0≤st.heap.length) (s:SI F κ w st.heap) (ht:TR F κ w st tm) (hp:RP F κ st.heap.length w p v) (hi:RP F κ st.heap.length w ix u) (hq:RP F κ st.heap.length w q x):
 ∃ st' w',wQ E st t p ix q K=K st'∧(Instr.mapUpdate t v u x).run E.P w= .ok () w'∧Next' N0 F κ w st tm dY undef F κ w' st':=by
 unfold wQ at h ⊢
 obtain⟨l,m,es,c,k,kt,et,b,ms,e,A⟩:=Ef h s hp hi
 rw[e] at h ⊢
 obtain⟨y,hy,e⟩:=aB h
 rw[e] at h ⊢
 obtain⟨g0,e⟩:=bD h
 rw[e] at h ⊢
 have hry:Rd F w y x:=kS s hq (fun _ h=>h) hy (fun l hl=>by rw[List.isEmpty_iff.1 g0] at hl; cases hl)
 have hck:=qm A.ko A.kt A.kl A.rk
 rcases zU h with ⟨hf,e⟩|⟨i,z,b',hf,e⟩
 · rw[e]
   obtain⟨r,g1,g2,g3⟩:=sO A.ko A.rk A.en hf
   simp only[] at g3
   subst g3
   obtain⟨w',w1,w2⟩:=map_set (E:=E) (c':=c+1) h0 s ht A.ho A.hk A.hb (A.en.push (c:=c) A.rk hry) (kW (κ:=κ) (N:=st.heap.length))
   refine⟨_,w',rfl,?_,w2⟩
   rw[A.hv]
   simp only[Instr.mapUpdate,Sem.run_bind,run_underlying A.un,Result.andThen_ok,MapKept.run_getObj_map A.hb,hck,g1]
   exact w1
 · rw[e]
   obtain⟨r,g1,g2,g3⟩:=sO A.ko A.rk A.en hf
   obtain⟨mm,g3,rfl⟩:=g3
   obtain⟨_,k',g4,g5⟩:=g2
   have g4':es[i]? =some (k',z,b'):=by simpa using g4
   obtain⟨r1,r2,r3⟩:=A.en.2 i _ mm g4' g3
   have h00:∀ n∈l,n=0:=by cases A.ko with|int _=>simp|struct _ _ _ _ h=>exact h
   obtain⟨s1,s2,s3⟩:=UK h00 A.kt A.kl g5 A.rk r1
   obtain⟨w',w1,w2⟩:=map_set (E:=E) (c':=c) h0 s ht A.ho A.hk A.hb (A.en.set (i:=i) (b:=b') (k:=k) (x:=y) (f:=fun e=>{e with key:=u,val:=x}) (fun m' hm'=>by
    have:m'=mm:=by have:=hm'; rw[←Array.getElem?_toList,g3] at this; injection this with this; exact this.symm
    subst this
    exact⟨A.rk,hry,r3⟩)) (kW (κ:=κ) (N:=st.heap.length))
   refine⟨_,w',rfl,?_,w2⟩
   rw[A.hv]
   have hkey:(((ms[i]?).map (·.key)).getD u)=u:=by rw[←Array.getElem?_toList,g3]; exact s1.symm
   simp only[Instr.mapUpdate,Sem.run_bind,run_underlying A.un,Result.andThen_ok,MapKept.run_getObj_map A.hb,hck,g1,hkey,Fj s3]
   exact w1
theorem Jo {t:TypeId} {p ix:PV} {v u:Value} {K:PV→St→ah β} (h:ny E st t p ix K≠ .stuck) (h0:N0≤st.heap.length) (s:SI F κ w st.heap) (ht:TR F κ w st tm) (hp:RP F κ st.heap.length w p v) (hi:RP F κ st.heap.length w ix u):
 ∃ q x st' w',ny E st t p ix K=K q st'∧(Instr.mapEntry t v u).run E.P w= .ok x w'∧Next' N0 F κ w st tm q x F κ w' st':=by
 unfold ny at h ⊢
 obtain⟨z,hz,e⟩:=aB h
 rw[e] at h ⊢
 obtain⟨l,m,es,c,k,kt,et,b,ms,e,A⟩:=Ef h s hp hi
 rw[e] at h ⊢
 obtain⟨zv,z1,z2⟩:=aaj hz A.un s
 have hck:=qm A.ko A.kt A.kl A.rk
 have au:∀ {x:T} {y:Value} {n:Nat},n≤big→Rd F w x y→RP F κ st.heap.length w (.t (.au [x,.int .i64 (n:Int)])) (.tuple #[y,goInt n]):=fun {x y n} hn hr=>by
  refine .t (.au (vs:=[y,goInt n]) rfl fun i q r g1 g2=>?_)
  match i with
  |0=>simp at g1 g2; subst g1; subst g2; exact hr
  |1=>simp at g1 g2; subst g1; subst g2; exact .int (yY hn)
  |i+2=>simp at g1
 rcases zU h with ⟨hf,e⟩|⟨i,x,b',hf,e⟩
 · rw[e] at h ⊢
   obtain⟨gc,e⟩:=dQ h
   rw[e]
   obtain⟨r,g1,g2,g3⟩:=sO A.ko A.rk A.en hf
   simp only[] at g3
   subst g3
   obtain⟨w',w1,w2⟩:=map_set (E:=E) (c':=c+1) h0 s ht A.ho A.hk A.hb (A.en.push (c:=c) A.rk z2) (au (by simpa using gc) z2)
   refine⟨_,_,_,w',rfl,?_,w2⟩
   rw[A.hv]
   simp only[Instr.mapEntry,Sem.run_bind,run_underlying A.un,Result.andThen_ok,MapKept.run_getObj_map A.hb,hck,g1,z1,w1,Sem.run_pure]
 · rw[e] at h ⊢
   obtain⟨gc,e⟩:=dQ h
   rw[e]
   obtain⟨r,g1,g2,g3⟩:=sO A.ko A.rk A.en hf
   obtain⟨mm,g3,rfl⟩:=g3
   obtain⟨_,k',g4,g5⟩:=g2
   have g4':es[i]? =some (k',x,b'):=by simpa using g4
   obtain⟨r1,r2,r3⟩:=A.en.2 i _ mm g4' g3
   have h00:∀ n∈l,n=0:=by cases A.ko with|int _=>simp|struct _ _ _ _ h=>exact h
   obtain⟨s1,s2,s3⟩:=UK h00 A.kt A.kl g5 A.rk r1
   have g3':ms[i]? =some mm:=by simpa using g3
   have hmod:(ms.modify i fun e=>{e with key:=u})=ms:=by
    apply Array.ext_getElem?
    intro j
    rw[Array.getElem?_modify]
    by_cases e:i=j
    · subst e; rw[if_pos rfl,g3']; simp[s1]
    · rw[if_neg e]
   have hset:w.heap.setIfInBounds b (.map ms c)=w.heap:=by
    apply Array.ext_getElem?
    intro j
    by_cases e:b=j
    · subst e; rw[Array.getElem?_setIfInBounds_self_of_lt (Array.getElem?_eq_some_iff.1 A.hb).1,A.hb]
    · rw[Array.getElem?_setIfInBounds_ne e]
   have hkey:(((ms[i]?).map (·.key)).getD u)=u:=by rw[g3']; exact s1.symm
   refine⟨_,_,_,w,rfl,?_,Next'.same h0 s ht (au (by simpa using gc) r2)⟩
   rw[A.hv]
   simp only[Instr.mapEntry,Sem.run_bind,run_underlying A.un,Result.andThen_ok,MapKept.run_getObj_map A.hb,hck,g1,hkey,Fj s3,hmod,MapKept.run_setObj_map _ A.hb,hset,Sem.run_pure]
   rw[g3']
   simp[r3]
theorem LW {F:Nat→Prop} {w:World} {n:Int}:∀ {es:List (T×T×Nat)} {ms:List MapEntry},vV F w es ms→ms.findIdx? (fun e=>(e.born:Int)==n)=iR es n
 | [],ms,h=>by
  have:ms= []:=List.eq_nil_of_length_eq_zero (by simpa using h.1)
  subst this; rfl
 |e::es,[],h=>by have:=h.1; simp at this
 |e::es,m::ms,h=>by
  have ih:=LW (n:=n) h.tail
  have hb:=(h.2 0 e m rfl rfl).2.2
  unfold iR at ih ⊢
  rw[List.findIdx?_cons,List.findIdx?_cons,ih,hb]
theorem FM {t:TypeId} {p ix q:PV} {v u x:Value} {K:St→ah β} (h:oz st p ix q K≠ .stuck) (h0:N0≤st.heap.length) (s:SI F κ w st.heap) (ht:TR F κ w st tm) (hp:RP F κ st.heap.length w p v) (hi:RP F κ st.heap.length w ix u) (hq:RP F κ st.heap.length w q x):
 ∃ st' w',oz st p ix q K=K st'∧(Instr.entryStore t v u x).run E.P w= .ok () w'∧Next' N0 F κ w st tm dY undef F κ w' st':=by
 unfold oz at h ⊢
 cases hp with
 | @mp m b hN hk=>
  cases hi with
  | @t n _ rn=>
   simp only[] at h ⊢
   obtain⟨n,rfl,e⟩:=sQ h
   rw[e] at h ⊢
   cases ho:st.heap[m]? with
   |none=>simp[ho] at h
   |some o=>
    have hro:=s.ro m o ho
    cases o with
    |map es c=>
     simp only[ho] at h ⊢
     obtain⟨y,hy,e⟩:=aB h
     rw[e] at h ⊢
     obtain⟨g0,e⟩:=bD h
     rw[e] at h ⊢
     obtain⟨i,hs,e⟩:=aB h
     rw[e] at h ⊢
     have hry:Rd F w y x:=kS s hq (fun _ h=>h) hy (fun l hl=>by rw[List.isEmpty_iff.1 g0] at hl; cases hl)
     obtain⟨b',ms,h1,h2,h3,h4⟩:=hro
     rw[hk] at h1
     injection h1 with h1
     injection h1 with h1
     subst h1
     have en:vV F w es ms.toList:=⟨by simpa using h3,fun i x y a b=>h4 i x y a (by simpa using b)⟩
     cases hei:es[i]? with
     |none=>simp[hei] at h
     |some kvb=>
      obtain⟨k,z,sb⟩:=kvb
      simp only[hei]
      have hi:i < es.length:=(List.getElem?_eq_some_iff.1 hei).1
      have hmi:ms[i]? =some ms[i]:=Array.getElem?_eq_getElem (by omega)
      obtain⟨r1,r2,r3⟩:=en.2 i _ ms[i] hei (by simp)
      obtain⟨w',w1,w2⟩:=map_set (E:=E) (c':=c) h0 s ht ho hk h2 (en.set (i:=i) (b:=sb) (k:=k) (x:=y) (f:=fun e=>{e with val:=x}) (fun m' hm'=>by
       rw[hmi] at hm'; injection hm' with hm'; subst hm'; exact⟨r1,hry,r3⟩)) (kW (κ:=κ) (N:=st.heap.length))
      refine⟨_,w',rfl,?_,w2⟩
      have hfi:ms.findIdx? (fun e=>(e.born:Int)==n)=some i:=by
       rw[←hs,←LW en,←List.findIdx?_toArray]
      rw[rn.wL]
      simp only[Instr.entryStore,Sem.run_bind,MapKept.run_getObj_map h2,Result.andThen_ok,asInt,asIntOf,Sem.run_pure,hfi]
      exact w1
    |_=>simp[ho] at h
  |_=>exact absurd rfl h
 |_=>exact absurd rfl h
theorem vV.erase {es:List (T×T×Nat)} {ms:Array MapEntry} (h:vV F w es ms.toList) (i:Nat):vV F w (es.eraseIdx i) (ms.eraseIdxIfInBounds i).toList:=by
 have e1:(ms.eraseIdxIfInBounds i).toList=ms.toList.eraseIdx i:=by
  unfold Array.eraseIdxIfInBounds
  split
  · simp
  · rename_i hi; rw[List.eraseIdx_of_length_le (by simpa using hi)]
 rw[e1]
 refine⟨by rw[List.length_eraseIdx,List.length_eraseIdx,h.1],fun j x m a b=>?_⟩
 rw[List.getElem?_eraseIdx] at a b
 split at a
 · rename_i hj; rw[if_pos hj] at b; exact h.2 j x m a b
 · rename_i hj; rw[if_neg hj] at b; exact h.2 _ x m a b
theorem NU {t ty kk:TypeId} {p ix:PV} {v u:Value} {K:St→ah β} (h:yH E st t p ix K≠ .stuck) (h0:N0≤st.heap.length) (s:SI F κ w st.heap) (ht:TR F κ w st tm) (hp:RP F κ st.heap.length w p v) (hi:RP F κ st.heap.length w ix u):
 ∃ st' w',yH E st t p ix K=K st'∧(Builtin.delete_ #[t,kk] ty #[v,u]).run E.P w= .ok undef w'∧Next' N0 F κ w st tm dY undef F κ w' st':=by
 unfold yH at h ⊢
 obtain⟨l,m,es,c,k,kt,et,b,ms,e,A⟩:=Ef h s hp hi
 rw[e] at h ⊢
 have hck:=qm A.ko A.kt A.kl A.rk
 rcases zU h with ⟨hf,e⟩|⟨i,x,b',hf,e⟩
 · rw[e]
   obtain⟨r,g1,g2,g3⟩:=sO A.ko A.rk A.en hf
   simp only[] at g3
   subst g3
   have hset:w.heap.setIfInBounds b (.map ms c)=w.heap:=by
    apply Array.ext_getElem?
    intro j
    by_cases e:b=j
    · subst e; rw[Array.getElem?_setIfInBounds_self_of_lt (Array.getElem?_eq_some_iff.1 A.hb).1,A.hb]
    · rw[Array.getElem?_setIfInBounds_ne e]
   refine⟨_,w,rfl,?_,Next'.same h0 s ht kW⟩
   rw[A.hv]
   simp[Builtin.delete_,Sem.run_bind,run_underlying A.un,Result.andThen_ok,MapKept.run_getObj_map A.hb,hck,g1,MapKept.run_setObj_map _ A.hb,hset]
   rfl
 · rw[e]
   obtain⟨r,g1,g2,g3⟩:=sO A.ko A.rk A.en hf
   obtain⟨mm,g3,rfl⟩:=g3
   obtain⟨w',w1,w2⟩:=map_set (E:=E) (c':=c) h0 s ht A.ho A.hk A.hb (A.en.erase i) (kW (κ:=κ) (N:=st.heap.length))
   refine⟨_,w',rfl,?_,w2⟩
   rw[A.hv]
   simp[Builtin.delete_,Sem.run_bind,run_underlying A.un,Result.andThen_ok,MapKept.run_getObj_map A.hb,hck,g1,w1]
   rfl
theorem N8 {t:TypeId} (h0:N0≤st.heap.length) (s:SI F κ w st.heap) (ht:TR F κ w st tm):
 ∃ u κ' w',(Instr.makeMap t none).run E.P w= .ok u w'∧Next' N0 F κ w st tm (.mp st.heap.length) u F κ' w' ⟨st.tmps,st.heap++ [.map [] 0]⟩:=by
 refine⟨.map (some w.heap.size),upd κ st.heap.length (.map (some w.heap.size)),w.alloc (.map #[] 0),by simp[Instr.makeMap],?_⟩
 refine Next'.push h0 s ht rfl rfl rfl (by simp) (fun b hb=>Below.heap_alloc w _ b hb) (fun _ h=>h) (fun _ h=> .inl h) (fun b hb=>Nat.lt_of_lt_of_le (s.fl b hb) (by simp)) ?_ ?_ ?_
 · exact⟨w.heap.size,#[],upd_same _ _ _,heap_alloc_new' w _,rfl,fun i x m a b=>by simp at a⟩
 · intro b hb
   simp only[blk,upd_same,iY,Option.some.injEq] at hb
   subst hb
   exact⟨Nat.le_refl _,by simp,fun hf=>by have:=s.fl _ hf; omega⟩
 · exact .mp (Nat.lt_succ_self _) (upd_same _ _ _)
end
end
section
open Go.RowKit
section
variable {P:Program} {o:Oper} {a:Act} {w w':World} {next:Act→World→Prop} {Q:Exit→Act→World→Prop}
theorem dK {u:Value} (h:(execOp a.eval o).run P w= .ok (.value u) w') (hn:w.drawn≤w'.drawn→next (a.put o.dst u) w'):o.wp P a w next Q:=by
 have hd:=fK P _ _ h
 unfold Oper.wp; rw[h]; exact hn hd
theorem wp_skip {h:(execOp a.eval o).run P w= .ok .skip w'} (hn:next (a.put o.dst undef) w'):o.wp P a w next Q:=by
 unfold Oper.wp; rw[h]; exact hn
end
section
variable {β:Type} {E:Env} {rc:Caller} {st:St} {F:Nat→Prop} {κ:Nat→Value} {w:World} {N0:Nat} {a:Act}
theorem aqw {α γ:Type} {f:α→γ} (xs:Array α):(xs.toList.map f).toArray=xs.map f:=by apply Array.ext'; simp
theorem Rd.ajn {x:T} {v:Value} (h:Rd F w (.ref x) v):∃ b o,v= .pointer (some ⟨b,o,none⟩):=by
 cases h with
 |ref val=>exact⟨_,_,rfl⟩
theorem yV (mx:Bool) (P:Program) (k:IntKind):∀ (ns:List Int) (m:Int) (vs:List Value),vs=ns.map (Value.int k)→
 ((vs.foldlM (if mx then Builtin.max2 else Builtin.min2) (.int k m)).run P w)= .ok (.int k (dh mx ns m)) w
 | [],m,vs,h=>by subst h; simp[dh]
 |x::ns,m,vs,h=>by
  subst h
  cases mx with
  |true=>
   have:=yV true P k ns (if x > m then x else m) (ns.map (Value.int k)) rfl
   simp only[if_true] at this
   simp[dh,Builtin.max2,this]
  |false=>
   have:=yV false P k ns (if x < m then x else m) (ns.map (Value.int k)) rfl
   simp only[Bool.false_eq_true,if_false] at this
   simp[dh,Builtin.min2,this]
theorem AB {k:IntKind} {N:Nat}:∀ {ps:List PV} {vs:List Value} {K:List Int→ah β},Cb k ps K≠ .stuck→vs.length=ps.length→(∀ (i:Nat) (p:PV) (v:Value),ps[i]? =some p→vs[i]? =some v→RP F κ N w p v)→
 ∃ ns,Cb k ps K=K ns∧vs=ns.map (Value.int k)∧∀ n∈ns,kindOk k n=true
 | [],[],K,h,hl,hp=>⟨[],rfl,rfl,by simp⟩
 | [],_::_,K,h,hl,hp=>by simp at hl
 |p::ps,[],K,h,hl,hp=>by simp at hl
 |p::ps,v::vs,K,h,hl,hp=>by
  have hv:=hp 0 p v rfl rfl
  cases hv with
  | @t x _ hx=>
   simp only[Cb] at h ⊢
   obtain⟨n,rfl,e⟩:=sQ h
   rw[e] at h ⊢
   cases hx with
   |int hok=>
   obtain⟨ns,e1,e2,e3⟩:=AB h (by simpa using hl) (fun i q u g1 g2=>hp (i+1) q u (by simpa using g1) (by simpa using g2))
   exact⟨n::ns,e1,by simp[e2],fun m hm=>(List.mem_cons.1 hm).elim (fun e=>e ▸ hok) (e3 m)⟩
  |_=>exact absurd rfl h
theorem Gl {k:IntKind} (mx:Bool):∀ (ns:List Int) (m:Int),kindOk k m=true→(∀ n∈ns,kindOk k n=true)→kindOk k (dh mx ns m)=true
 | [],m,h,_=>h
 |x::ns,m,h,h2=>by
  simp only[dh]
  refine Gl mx ns _ ?_ (fun n hn=>h2 n (List.mem_cons_of_mem _ hn))
  have hx:=h2 x List.mem_cons_self
  cases mx<;>simp only[cond_true,cond_false]<;>split<;>assumption
theorem MC {b:Builtin} {ty:TypeId} {consts:Array Bool} {tys:List TypeId} {args:List PV} {vals:List Value} {K:PV→St→ah β} {tm:Array Value} (h:lH E b tys args st K≠ .stuck) (h0:N0≤st.heap.length) (s:SI F κ w st.heap) (ht:TR F κ w st tm)
 (hl:vals.length=args.length) (ha:∀ (i:Nat) (p:PV) (v:Value),args[i]? =some p→vals[i]? =some v→RP F κ st.heap.length w p v):
 ∃ p u st' F' κ' w',lH E b tys args st K=K p st'∧(builtin b tys.toArray ty consts vals.toArray).run E.P w= .ok (.value u) w'∧Next' N0 F κ w st tm p u F' κ' w' st':=by
 unfold lH at h ⊢
 revert h
 split
 · rename_i t p
   intro h
   match vals,hl with
   | [v],_=>
    have hp:=ha 0 p v rfl rfl
    simp only[] at h
    have int:∀ n:Nat,n≤big→RP F κ st.heap.length w (.t (.int .i64 n)) (goInt n):=fun n hn=> .t (.int (yY hn))
    cases hu:E.P.underlying t with
    |none=>simp[hu] at h
    |some d=>
     cases d with
     |slice e=>
      simp only[hu] at h ⊢
      have hrun:∀ (A:Option Addr) (n c:Nat),(builtin .len #[t] ty consts #[.slice A n c]).run E.P w= .ok (.value (goInt n)) w:=fun A n c=>by simp[builtin,Builtin.len_,run_underlying hu]
      cases hp with
      |nil=>exact⟨_,_,_,F,κ,w,rfl,hrun _ _ _,Next'.same h0 s ht (by simpa using int 0 (by simp))⟩
      | @own l A n c hN hk=>
       simp only[] at h ⊢
       cases ho:st.heap[l]? with
       |none=>simp[ho] at h
       |some q=>
        have hro:=s.ro l q ho
        cases q with
        |row e k xs=>
         obtain⟨A',c',h1,h2⟩:=uz hro
         rw[hk] at h1
         injection h1 with _ h1
         subst h1
         exact⟨_,_,_,F,κ,w,rfl,hrun _ _ _,Next'.same h0 s ht (int _ h2)⟩
        |jT e k xs=>
         have h1:=hro.1
         rw[hk] at h1
         obtain⟨h1,h2,h3⟩:=JB h1
         subst h1
         exact⟨_,_,_,F,κ,w,rfl,hrun _ _ _,Next'.same h0 s ht (int _ h3)⟩
        |vec e k n xs=>
         simp only[ho] at h ⊢
         obtain⟨A',c',h1,h2⟩:=vec_len hro
         rw[hk] at h1
         injection h1 with _ h1
         subst h1
         exact⟨_,_,_,F,κ,w,rfl,hrun _ _ _,Next'.same h0 s ht (int _ h2)⟩
        |_=>simp[ho] at h
      | @view l k lo hi A n c hN hv=>
       obtain⟨B,n',c',A',⟨v1,vb⟩,v2,v3,v4,v5⟩:=hv
       injection v2 with v2 v6 v7
       subst v6
       exact⟨_,_,_,F,κ,w,rfl,hrun _ _ _,Next'.same h0 s ht (int _ (by omega))⟩
      | @full k xs A hx=>
       have:=JB hx
       exact⟨_,_,_,F,κ,w,rfl,hrun _ _ _,Next'.same h0 s ht (int _ this.2.2)⟩
      | @t x _ hx=>
       simp only[] at h ⊢
       obtain⟨k,xs,rfl,e⟩:=agx h
       rw[e]
       cases hx with
       |sl b o val hn hb=>exact⟨_,_,_,F,κ,w,rfl,hrun _ _ _,Next'.same h0 s ht (int _ hb)⟩
      |_=>exact absurd rfl h
     |string=>
      simp only[hu] at h ⊢
      cases hp with
      | @t x _ hx=>
       simp only[] at h ⊢
       obtain⟨sb,rfl,e⟩:=Kq h
       rw[e]
       cases hx with
       |str hb=>exact⟨_,_,_,F,κ,w,rfl,by simp[builtin,Builtin.len_,run_underlying hu],Next'.same h0 s ht (int _ hb)⟩
      |_=>exact absurd rfl h
     |map kt et=>
      simp only[hu] at h ⊢
      cases hp with
      | @mp l b hN hk=>
       simp only[] at h ⊢
       cases ho:st.heap[l]? with
       |none=>simp[ho] at h
       |some q=>
        have hro:=s.ro l q ho
        cases q with
        |map es c=>
         simp only[ho] at h ⊢
         obtain⟨h4,h5⟩:=dQ h
         rw[h5]
         obtain⟨b',ms,h1,h2,h3,_⟩:=hro
         rw[hk] at h1
         injection h1 with h1
         injection h1 with h1
         subst h1
         exact⟨_,_,_,F,κ,w,rfl,by simp[builtin,Builtin.len_,run_underlying hu,MapKept.run_getObj_map h2,h3],Next'.same h0 s ht (int _ (by simpa using h4))⟩
        |_=>simp[ho] at h
      |_=>exact absurd rfl h
     |_=>simp[hu] at h
 · rename_i t t' p q
   intro h
   match vals,hl with
   | [v,u],_=>
    obtain⟨r,x,st',F',κ',w',e1,e2,e3⟩:=NM (ty:=ty) (tm:=tm) (N0:=N0) h h0 s ht (ha 0 p v rfl rfl) (ha 1 q u rfl rfl)
    exact⟨r,x,st',F',κ',w',e1,by simp[builtin,e2],e3⟩
 · rename_i t t' p q
   intro h
   match vals,hl with
   | [v,u],_=>
    obtain⟨st',w',e1,e2,e3⟩:=NU (ty:=ty) (kk:=t') (tm:=tm) (N0:=N0) h h0 s ht (ha 0 p v rfl rfl) (ha 1 q u rfl rfl)
    exact⟨_,_,st',F,κ,w',e1,by simp[builtin,e2],e3⟩
 · rename_i t p
   intro h
   match vals,hl with
   | [v],_=>
    obtain⟨st',w',e1,e2,e3⟩:=Q8 (ty:=ty) (tm:=tm) (N0:=N0) h h0 s ht (ha 0 p v rfl rfl)
    exact⟨_,_,st',F,κ,w',e1,by simp[builtin,e2],e3⟩
 · rename_i t t' p q
   intro h
   match vals,hl with
   | [v,u],_=>
    obtain⟨r,x,st',w',e1,e2,e3⟩:=VJ (ty:=ty) (tm:=tm) (N0:=N0) h h0 s ht (ha 0 p v rfl rfl) (ha 1 q u rfl rfl)
    exact⟨r,x,st',F,κ,w',e1,by simp[builtin,e2],e3⟩
 · rename_i t ts x r
   intro h
   match vals,hl with
   |v::vs,hl=>
    obtain⟨k,hk,e⟩:=aB h
    rw[e] at h ⊢
    obtain⟨n,rfl,e⟩:=sQ h
    rw[e] at h ⊢
    have hv:=ha 0 _ v rfl rfl
    cases hv with
    |t hv=>
    cases hv with
    |int hok=>
    obtain⟨ns,e1,e2,e3⟩:=AB (κ:=κ) (w:=w) (F:=F) (N:=st.heap.length) (vs:=vs) h (by simpa using hl) (fun i q u g1 g2=>ha (i+1) q u (by simpa using g1) (by simpa using g2))
    rw[e1]
    have:=yV (w:=w) true E.P k ns n vs e2
    simp only[if_true,Bool.false_eq_true,if_false] at this
    exact⟨_,_,_,F,κ,w,rfl,by simp[builtin,Builtin.max_,Builtin.min_,this],Next'.same h0 s ht (.t (.int (Gl _ ns n hok e3)))⟩
 · rename_i t ts x r
   intro h
   match vals,hl with
   |v::vs,hl=>
    obtain⟨k,hk,e⟩:=aB h
    rw[e] at h ⊢
    obtain⟨n,rfl,e⟩:=sQ h
    rw[e] at h ⊢
    have hv:=ha 0 _ v rfl rfl
    cases hv with
    |t hv=>
    cases hv with
    |int hok=>
    obtain⟨ns,e1,e2,e3⟩:=AB (κ:=κ) (w:=w) (F:=F) (N:=st.heap.length) (vs:=vs) h (by simpa using hl) (fun i q u g1 g2=>ha (i+1) q u (by simpa using g1) (by simpa using g2))
    rw[e1]
    have:=yV (w:=w) false E.P k ns n vs e2
    simp only[if_true,Bool.false_eq_true,if_false] at this
    exact⟨_,_,_,F,κ,w,rfl,by simp[builtin,Builtin.max_,Builtin.min_,this],Next'.same h0 s ht (.t (.int (Gl _ ns n hok e3)))⟩
 · intro h; exact absurd rfl h
theorem abf (hc:fG E rc) {x:T} {v:Value} {ts:List T} {vals:List Value} {K:T→ah β} (h:oJ E rc x ts K≠ .stuck) (s:SI F κ w st.heap) (hx:Rd F w x v)
 (hl:vals.length=ts.length) (ha:∀ (i:Nat) (x:T) (v:Value),ts[i]? =some x→vals[i]? =some v→Rd F w x v):
 ∃ g vf vc,v= .func (.func g) vf vc∧Invokes E.P g (vf++vals.toArray++vc) w fun u w'=>∃ r F',oJ E rc x ts K=K r∧Rd F' w' r u∧Grown F w F' w':=by
 unfold oJ at h ⊢
 cases hx with
 | @fn g fs cs vf vc hlf hlc hrf hrc=>
  simp only[] at h ⊢
  obtain⟨hm,e⟩:=bD h
  rw[e] at h ⊢
  refine⟨g,_,_,rfl,?_⟩
  have hall:∀ (i:Nat) (x:T) (v:Value),(fs++ts++cs)[i]? =some x→(vf++vals++vc)[i]? =some v→Rd F w x v:=by
   intro i x v g1 g2
   rcases Nat.lt_or_ge i fs.length with h1|h1
   · rw[List.append_assoc,List.getElem?_append_left h1] at g1
     rw[List.append_assoc,List.getElem?_append_left (by omega)] at g2
     exact hrf i x v g1 g2
   · rw[List.append_assoc,List.getElem?_append_right h1] at g1
     rw[List.append_assoc,List.getElem?_append_right (by omega),hlf] at g2
     rcases Nat.lt_or_ge (i - fs.length) ts.length with h2|h2
     · rw[List.getElem?_append_left h2] at g1
       rw[List.getElem?_append_left (by omega)] at g2
       exact ha _ x v g1 g2
     · rw[List.getElem?_append_right h2] at g1
       rw[List.getElem?_append_right (by omega),hl] at g2
       exact hrc _ x v g1 g2
  have:=hc.pure g (fs++ts++cs) (vw h) F w (vf++vals++vc) (by simp; omega) hall s.fl
  rw[show(vf++vals++vc).toArray=vf.toArray++vals.toArray++vc.toArray by simp] at this
  refine this.mono fun u w'=>?_
  rintro⟨r,F',e1,ho,hg⟩
  rw[e1]
  refine⟨r,F',rfl,?_,hg⟩
  have hm0:E.mode g=0:=by simpa using hm
  cases ho with
  |frozen _ h=>exact h
  |row h=>omega
  |au h=>omega
 |_=>exact absurd rfl h
theorem Bl (hc:fG E rc) {dr:Bool} {o:Oper} {K:PV→St→ah β} (h:kY E rc dr o st K≠ .stuck) (h0:N0≤st.heap.length) (rel:Rel F κ st a w) {next:Act→World→Prop} {Q:Exit→Act→World→Prop}
 (hn:∀ p u st' F' κ' w',kY E rc dr o st K=K p st'→Next' N0 F κ w st a.tmps p u F' κ' w' st'→w.drawn≤w'.drawn→next (a.put o.dst u) w'):o.wp E.P a w next Q:=by
 have ht:TR F κ w st a.tmps:=rel.tr
 have s:=rel.si
 have ev:∀ {t:TypeId} {x:Operand} {p:PV},bV E.P st.tmps t x=some p→RP F κ st.heap.length w p (a.eval x):=fun h=>iP rel.tl ht h
 have evs:∀ {ty:Nat→TypeId} {os:Array Operand} {j:Nat} {ps:List PV},jF E.P st.tmps ty j os.toList=some ps→(os.map a.eval).toList.length=ps.length∧∀ (i:Nat) (p:PV) (v:Value),ps[i]? =some p→(os.map a.eval).toList[i]? =some v→RP F κ st.heap.length w p v:=fun h=>by
  obtain⟨a1,a2⟩:=zk rel.tl ht h
  rw[Array.toList_map]
  exact⟨by simp[a1],a2⟩
 have same:∀ {p:PV} {u:Value},RP F κ st.heap.length w p u→Next' N0 F κ w st a.tmps p u F κ w st:=fun h=>Next'.same h0 s ht h
 obtain⟨dst,op,type,pos,after,guard⟩:=o
 unfold kY at h hn
 cases op
 case move x=>
  simp only[] at h hn
  obtain⟨p,e1,e2⟩:=aB h
  exact dK (by simp[execOp]) (hn _ _ _ _ _ _ e2 (same (ev e1)))
 case assign x=>
  simp only[] at h hn
  obtain⟨p,e1,e2⟩:=aB h
  exact dK (by simp[execOp]) (hn _ _ _ _ _ _ e2 (same (ev e1)))
 case pick c x y=>
  simp only[] at h hn
  obtain⟨p,e1,e2⟩:=aB h
  rw[e2] at h hn
  have hc:=ev e1
  cases p with
  |t z=>
   simp only[] at h hn
   obtain⟨b,rfl,e3⟩:=Xv h
   rw[e3] at h hn
   generalize hv:a.eval c=v at hc
   cases hc with
   |t hc=>
   cases hc with
   |bool=>
   cases b with
   |true=>
    simp only[cond_true] at h hn
    obtain⟨p,e4,e5⟩:=aB h
    exact dK (by simp[execOp,hv,asBool]) (hn _ _ _ _ _ _ e5 (same (ev e4)))
   |false=>
    simp only[cond_false] at h hn
    obtain⟨p,e4,e5⟩:=aB h
    exact dK (by simp[execOp,hv,asBool]) (hn _ _ _ _ _ _ e5 (same (ev e4)))
  |_=>exact absurd rfl h
 case alloc e=>
  simp only[] at h hn
  obtain⟨n,e1,e2⟩:=aB h
  rw[e2] at h hn
  obtain⟨z,e3,e4⟩:=aB h
  rw[e4] at h hn
  obtain⟨g1,e5⟩:=dQ h
  simp only[Bool.and_eq_true] at g1
  obtain⟨i,zv,i1,i2,i3⟩:=AA e3
  obtain⟨w',κ',r1,r2⟩:=EP (E:=E) (e:=e) h0 s ht (lG i3) g1.2
  exact dK (by simp[execOp,Instr.alloc,zeroValue,typeInfo,i1,i2,r1]) (hn _ _ _ _ _ _ e5 r2)
 case box e x=>
  simp only[] at h hn
  obtain⟨n,e1,e2⟩:=aB h
  rw[e2] at h hn
  obtain⟨p,e3,e4⟩:=aB h
  rw[e4] at h hn
  obtain⟨g1,e5⟩:=dQ h
  obtain⟨w',κ',r1,r2⟩:=EP (E:=E) (e:=e) h0 s ht (ev e3) g1
  exact dK (by simp[execOp,Instr.box,r1]) (hn _ _ _ _ _ _ e5 r2)
 case build t parts=>
  simp only[] at h hn
  obtain⟨ps,e1,e2⟩:=aB h
  rw[e2] at h hn
  obtain⟨a1,a2⟩:=xH rel.tl ht e1
  obtain⟨q,u,e3,e4,e5⟩:=QZ (vs:=parts.map fun(i,x)=>(i,a.eval x)) (F:=F) (κ:=κ) (N:=st.heap.length) (w:=w) h (by simp[a1]) (by simpa using a2)
  exact dK (by simp only[execOp,Sem.run_bind,e4,Result.andThen_ok,Sem.run_pure]) (hn _ _ _ _ _ _ e3 (same e5))
 case buildSlice t n parts=>
  simp only[] at h hn
  obtain⟨ps,e1,e2⟩:=aB h
  rw[e2] at h hn
  obtain⟨a1,a2⟩:=xH rel.tl ht e1
  obtain⟨q,u,st',F',κ',w',e3,e4,e5,_⟩:=FI (N0:=N0) (tm:=a.tmps) (vs:=parts.map fun(i,x)=>(i,a.eval x)) h h0 s ht (by simp[a1]) (by simpa using a2)
  exact dK (by simp only[execOp,Sem.run_bind,e4,Result.andThen_ok,Sem.run_pure]) (hn _ _ _ _ _ _ e3 e5)
 case load t x=>
  simp only[] at h hn
  obtain⟨p,e1,e2⟩:=aB h
  rw[e2] at h hn
  obtain⟨q,u,e3,e4,e5⟩:=Hg h s (ev e1)
  exact dK (by simp only[execOp,Sem.run_bind,e4,Result.andThen_ok,Sem.run_pure]) (hn _ _ _ _ _ _ e3 (same e5))
 case store t x y=>
  simp only[] at h hn
  obtain⟨p,e1,e2⟩:=aB h
  rw[e2] at h hn
  obtain⟨q,e3,e4⟩:=aB h
  rw[e4] at h hn
  obtain⟨st',F',w',e5,e6,e7⟩:=RY (N0:=N0) (tm:=a.tmps) h h0 s ht (ev e1) (ev e3)
  have hd:=fK E.P _ _ e6
  unfold Oper.wp
  simp only[execOp,Sem.run_bind,e6,Result.andThen_ok,Sem.run_pure]
  exact hn _ _ _ _ _ _ e5 e7 hd
 case makeMap t r=>
  simp only[] at h hn
  obtain⟨g1,e2⟩:=bD h
  rw[e2] at h hn
  cases r with
  |some _=>cases g1
  |none=>
   obtain⟨u,κ',w',e6,e7⟩:=N8 (E:=E) (N0:=N0) (tm:=a.tmps) (t:=t) h0 s ht
   exact dK (by simp only[execOp,Option.map_none,Sem.run_bind,e6,Result.andThen_ok,Sem.run_pure]) (hn _ _ _ _ _ _ rfl e7)
 case lookup t x ix ok=>
  simp only[] at h hn
  obtain⟨p,e1,e2⟩:=aB h
  rw[e2] at h hn
  obtain⟨q,e3,e4⟩:=aB h
  rw[e4] at h hn
  obtain⟨r,u,e5,e6,e7⟩:=N7 h s (ev e1) (ev e3)
  exact dK (by simp only[execOp,Sem.run_bind,e6,Result.andThen_ok,Sem.run_pure]) (hn _ _ _ _ _ _ e5 (same e7))
 case mapUpdate t m k x=>
  simp only[] at h hn
  obtain⟨p,e1,e2⟩:=aB h
  rw[e2] at h hn
  obtain⟨q,e3,e4⟩:=aB h
  rw[e4] at h hn
  obtain⟨r,e5,e6⟩:=aB h
  rw[e6] at h hn
  obtain⟨st',w',e7,e8,e9⟩:=CV (N0:=N0) (tm:=a.tmps) h h0 s ht (ev e1) (ev e3) (ev e5)
  have hd:=fK E.P _ _ e8
  unfold Oper.wp
  simp only[execOp,Sem.run_bind,e8,Result.andThen_ok,Sem.run_pure]
  exact hn _ _ _ _ _ _ e7 e9 hd
 case insert t m k x=>
  simp only[] at h hn
  obtain⟨p,e1,e2⟩:=aB h
  rw[e2] at h hn
  obtain⟨q,e3,e4⟩:=aB h
  rw[e4] at h hn
  obtain⟨r,e5,e6⟩:=aB h
  rw[e6] at h hn
  obtain⟨st',w',e7,e8,e9⟩:=CV (N0:=N0) (tm:=a.tmps) h h0 s ht (ev e1) (ev e3) (ev e5)
  have hd:=fK E.P _ _ e8
  unfold Oper.wp
  simp only[execOp,Sem.run_bind,e8,Result.andThen_ok,Sem.run_pure]
  exact hn _ _ _ _ _ _ e7 e9 hd
 case mapEntry t m k=>
  simp only[] at h hn
  obtain⟨p,e1,e2⟩:=aB h
  rw[e2] at h hn
  obtain⟨q,e3,e4⟩:=aB h
  rw[e4] at h hn
  obtain⟨r,u,st',w',e7,e8,e9⟩:=Jo (N0:=N0) (tm:=a.tmps) h h0 s ht (ev e1) (ev e3)
  exact dK (by simp only[execOp,Sem.run_bind,e8,Result.andThen_ok,Sem.run_pure]) (hn _ _ _ _ _ _ e7 e9)
 case entryStore t m sp x=>
  simp only[] at h hn
  obtain⟨p,e1,e2⟩:=aB h
  rw[e2] at h hn
  obtain⟨q,e3,e4⟩:=aB h
  rw[e4] at h hn
  obtain⟨r,e5,e6⟩:=aB h
  rw[e6] at h hn
  obtain⟨st',w',e7,e8,e9⟩:=FM (t:=t) (N0:=N0) (tm:=a.tmps) h h0 s ht (ev e1) (ev e3) (ev e5)
  have hx:(execOp a.eval ⟨dst,.entryStore t m sp x,type,pos,after,guard⟩).run E.P w= .ok .skip w':=by
   simp only[execOp,Sem.run_bind]
   rw[e8]; rfl
  have hd:=fK E.P _ _ hx
  unfold Oper.wp
  rw[hx]
  exact hn _ _ _ _ _ _ e7 e9 hd
 case nilCheck x=>
  simp only[] at h hn
  obtain⟨p,e1,e2⟩:=aB h
  rw[e2] at h hn
  have hp:=ev e1
  have fin:∀ (A:Addr),a.eval x= .pointer (some A)→(execOp a.eval ⟨dst,.nilCheck x,type,pos,after,guard⟩).run E.P w= .ok (.value (a.eval x)) w:=fun A hA=>by simp[execOp,hA]
  cases p with
  |ptr l o=>generalize hv:a.eval x=v at hp fin; cases hp; exact dK (fin _ rfl) (hn _ _ _ _ _ _ rfl (same (hv ▸ ev e1)))
  |iC l k i o=>generalize hv:a.eval x=v at hp fin; cases hp; exact dK (fin _ rfl) (hn _ _ _ _ _ _ rfl (same (hv ▸ ev e1)))
  |rp k y o=>generalize hv:a.eval x=v at hp fin; cases hp; exact dK (fin _ rfl) (hn _ _ _ _ _ _ rfl (same (hv ▸ ev e1)))
  |t y=>
   simp only[] at h hn
   obtain⟨z,rfl,e3⟩:=J4 h
   rw[e3] at hn
   generalize hv:a.eval x=v at hp fin
   cases hp with
   |t hp=>
   obtain⟨b,o,rfl⟩:=hp.ajn
   exact dK (fin _ rfl) (hn _ _ _ _ _ _ rfl (same (hv ▸ ev e1)))
  |_=>exact absurd rfl h
 case binOp op t x y t'=>
  simp only[] at h hn
  obtain⟨p,e1,e2⟩:=aB h
  rw[e2] at h hn
  obtain⟨q,e3,e4⟩:=aB h
  rw[e4] at h hn
  obtain⟨r,u,e5,e6,e7⟩:=YN h (ev e1) (ev e3) Ut Ut
  refine dK (u:=u) (w':=w) ?_ (hn _ _ _ _ _ _ e5 (same e7))
  show(do pure (Next.value (←(do eqGuard op t x y (a.eval x) (a.eval y); binOp op t (a.eval x) (a.eval y):Sem Value))):Sem Next).run E.P w=_
  rw[Sem.run_bind,e6]
  rfl
 case unOp op t x=>
  simp only[] at h hn
  obtain⟨p,e1,e2⟩:=aB h
  rw[e2] at h hn
  obtain⟨r,u,e5,e6,e7⟩:=adt h (ev e1)
  exact dK (by simp only[execOp,Sem.run_bind,e6,Result.andThen_ok,Sem.run_pure]) (hn _ _ _ _ _ _ e5 (same e7))
 case convert t t' x=>
  simp only[] at h hn
  obtain⟨p,e1,e2⟩:=aB h
  rw[e2] at h hn
  obtain⟨r,u,e5,e6,e7⟩:=VI h (ev e1)
  exact dK (by simp only[execOp,Sem.run_bind,e6,Result.andThen_ok,Sem.run_pure]) (hn _ _ _ _ _ _ e5 (same e7))
 case makeInterface t x=>
  simp only[] at h hn
  obtain⟨g1,e0⟩:=jq h
  rw[e0] at h hn
  obtain⟨p,e1,e2⟩:=aB h
  rw[e2] at h hn
  obtain⟨y,e3,e4⟩:=aB h
  rw[e4] at h hn
  obtain⟨F1,f1,f2,f3⟩:=zO.rows s p.rows
  have hx:Rd F1 w y (a.eval x):=kS s (ev e1) f1.fm e3 f2
  have hrun:(execOp a.eval ⟨dst,.makeInterface t x,type,pos,after,guard⟩).run E.P w= .ok (.value (.iface t (a.eval x))) w:=by
   unfold aj2 at g1
   cases hu:E.P.underlying t with
   |none=>simp[hu] at g1
   |some d=>cases d<;>simp[hu] at g1<;>simp[execOp,Instr.makeInterface,run_underlying hu]
  cases hr:p.rows.isEmpty with
  |true=>
   rw[hr] at h hn
   have:p.rows= []:=by simpa using hr
   refine dK hrun (hn _ _ _ F κ _ rfl (same (.t (.iface ?_))))
   exact kS s (ev e1) (fun _ h=>h) e3 (by rw[this]; simp)
  |false=>
   rw[hr] at h hn
   simp only[cond_false] at h hn
   obtain⟨g2,e5⟩:=jq h
   rw[e5] at hn
   exact dK hrun (hn _ _ _ F1 κ _ rfl (f1.next (β:=β) h0 ht (.t (.iface hx))))
 case makeFunc fn first captured=>
  simp only[] at h hn
  obtain⟨f,e1,e2⟩:=aB h
  rw[e2] at h hn
  obtain⟨fs,e3,e4⟩:=aB h
  rw[e4] at h hn
  obtain⟨cs,e5,e6⟩:=aB h
  rw[e6] at h hn
  obtain⟨a1,a2⟩:=evs e3
  obtain⟨b1,b2⟩:=evs e5
  have hfn:fn= .func f:=by cases fn<;>simp[funcOf] at e1; rw[e1]
  subst hfn
  have hrun:(execOp a.eval ⟨dst,.makeFunc (.func f) first captured,type,pos,after,guard⟩).run E.P w= .ok (.value (.func (.func f) (first.map a.eval).toList.toArray (captured.map a.eval).toList.toArray)) w:=by simp only[execOp,Instr.makeFunc,Array.toArray_toList,Sem.run_bind,Sem.run_pure,Result.andThen_ok]
  cases hm:E.agH f with
  |true=>
   rw[hm] at h hn
   exact dK hrun (hn _ _ _ _ _ _ rfl (same (.fn a1 b1 a2 b2)))
  |false=>
   rw[hm] at h hn
   simp only[cond_false] at h hn
   obtain⟨⟨xs,H1⟩,e7,e8⟩:=aB h
   rw[e8] at h hn
   simp only[] at h hn
   obtain⟨⟨ys,H2⟩,e9,e10⟩:=aB h
   rw[e10] at h hn
   obtain⟨Fa,fa,x1,x2⟩:=vW s a1 a2 e7
   obtain⟨Fb,fb,y1,y2⟩:=vW (vs:=(captured.map a.eval).toList) fa.si b1 (fun i p v g1 g2=>by rw[fa.len]; exact(b2 i p v g1 g2).freeze fa.fm) e9
   exact dK hrun (hn _ _ _ Fb κ _ rfl ((fa.trans fb).next (β:=β) h0 ht (.t (.fn (show _=xs.length by rw[x1]; exact a1) (show _=ys.length by rw[y1]; exact b1) (fun i x v g1 g2=>(x2 i x v g1 g2).mono fb.fm (fun _ _=>rfl)) y2))))
 case makeSlice t x y=>
  simp only[] at h hn
  obtain⟨p,e1,e2⟩:=aB h
  rw[e2] at h hn
  obtain⟨q,e3,e4⟩:=aB h
  rw[e4] at h hn
  obtain⟨r,u,st',F',κ',w',e5,e6,e7⟩:=GK (N0:=N0) (tm:=a.tmps) h h0 s ht (ev e1) (ev e3)
  exact dK (by simp only[execOp,Sem.run_bind,e6,Result.andThen_ok,Sem.run_pure]) (hn _ _ _ _ _ _ e5 e7)
 case slice t x lo hi mx=>
  simp only[] at h hn
  obtain⟨p,e1,e2⟩:=aB h
  rw[e2] at h hn
  obtain⟨q1,e3,e4⟩:=aB h
  rw[e4] at h hn
  obtain⟨q2,e5,e6⟩:=aB h
  rw[e6] at h hn
  obtain⟨q3,e7,e8⟩:=aB h
  rw[e8] at h hn
  obtain⟨r,u,st',F',e10,e11,e12⟩:=RU (N0:=N0) (tm:=a.tmps) h h0 s ht (ev e1) (Dv rel.tl ht e3) (Dv rel.tl ht e5) (Dv rel.tl ht e7)
  exact dK (by simp only[execOp,Sem.run_bind,e11,Result.andThen_ok,Sem.run_pure]) (hn _ _ _ _ _ _ e10 e12)
 case fieldAddr t x f=>
  simp only[] at h hn
  obtain⟨p,e1,e2⟩:=aB h
  rw[e2] at h hn
  obtain⟨r,u,e5,e6,e7⟩:=GI h (ev e1)
  exact dK (by simp only[execOp,Sem.run_bind,e6,Result.andThen_ok,Sem.run_pure]) (hn _ _ _ _ _ _ e5 (same e7))
 case indexAddr t x y=>
  simp only[] at h hn
  obtain⟨p,e1,e2⟩:=aB h
  rw[e2] at h hn
  obtain⟨q,e3,e4⟩:=aB h
  rw[e4] at h hn
  obtain⟨r,u,e5,e6,e7⟩:=Rj h s (ev e1) (ev e3)
  exact dK (by simp only[execOp,Sem.run_bind,e6,Result.andThen_ok,Sem.run_pure]) (hn _ _ _ _ _ _ e5 (same e7))
 case index t x y=>
  simp only[] at h hn
  obtain⟨p,e1,e2⟩:=aB h
  rw[e2] at h hn
  obtain⟨q,e3,e4⟩:=aB h
  rw[e4] at h hn
  obtain⟨r,u,e5,e6,e7⟩:=YL h (ev e1) (ev e3)
  exact dK (by simp only[execOp,Sem.run_bind,e6,Result.andThen_ok,Sem.run_pure]) (hn _ _ _ _ _ _ e5 (same e7))
 case field t x f=>
  simp only[] at h hn
  obtain⟨p,e1,e2⟩:=aB h
  rw[e2] at h hn
  obtain⟨r,u,e5,e6,e7⟩:=YU h (ev e1)
  exact dK (by simp only[execOp,Sem.run_bind,e6,Result.andThen_ok,Sem.run_pure]) (hn _ _ _ _ _ _ e5 (same e7))
 case extract x i=>
  simp only[] at h hn
  obtain⟨p,e1,e2⟩:=aB h
  rw[e2] at h hn
  have hp:=ev e1
  generalize hv:a.eval x=v at hp
  cases p with
  |au ps=>
   simp only[] at h hn
   obtain⟨q,e3,e4⟩:=aB h
   cases hp with
   | @au _ vs hl hr=>
    have hi:i < vs.length:=by have:=(List.getElem?_eq_some_iff.1 e3).1; omega
    exact dK (by simp[execOp,hv,Instr.extract,hi]) (hn _ _ _ _ _ _ e4 (same (hr i q _ e3 (List.getElem?_eq_getElem hi))))
  |t y=>
   simp only[] at h hn
   obtain⟨l,z,rfl,e3,e4⟩:=abo h
   cases hp with
   |t hp=>
   cases hp with
   | @au _ vs hl hr=>
    have hi:i < vs.length:=by have:=(List.getElem?_eq_some_iff.1 e3).1; omega
    exact dK (by simp[execOp,hv,Instr.extract,hi]) (hn _ _ _ _ _ _ e4 (same (.t (hr i z _ e3 (List.getElem?_eq_getElem hi)))))
  |_=>exact absurd rfl h
 case call c=>
  obtain⟨callee,uM,argTypes⟩:=c
  simp only[] at h hn
  have direct:∀ (f:FuncId) (args:List PV) (vals:List Value),mD E rc dr f args st K≠ .stuck→(∀ p u st' F' κ' w',mD E rc dr f args st K=K p st'→Next' N0 F κ w st a.tmps p u F' κ' w' st'→w.drawn≤w'.drawn→next (a.put dst u) w')→
   vals.length=args.length→(∀ (i:Nat) (p:PV) (v:Value),args[i]? =some p→vals[i]? =some v→RP F κ st.heap.length w p v)→
   (execOp a.eval ⟨dst,.call ⟨callee,uM,argTypes⟩,type,pos,after,guard⟩)=callFunc f vals.toArray→(⟨dst,.call ⟨callee,uM,argTypes⟩,type,pos,after,guard⟩:Oper).wp E.P a w next Q:=by
   intro f args vals h1 h2 h3 h4 h5
   unfold Oper.wp
   rw[h5]
   exact(VF (N0:=N0) (tm:=a.tmps) hc h1 h0 s ht h3 h4).upon fun v w' ⟨p,st',F',κ',g1,g2⟩ hd=>h2 p v st' F' κ' w' g1 g2 hd
  cases callee with
  |builtin b=>
   simp only[] at h hn
   obtain⟨args,e1,e2⟩:=aB h
   rw[e2] at h hn
   obtain⟨a1,a2⟩:=evs e1
   obtain⟨p,u,st',F',κ',w',e3,e4,e5⟩:=MC (ty:=type) (consts:=uM.map fun| .const _=>true|_=>false) (N0:=N0) (tm:=a.tmps) h h0 s ht a1 a2
   simp only[Array.toArray_toList] at e4
   refine dK (u:=u) (w':=w') ?_ (hn _ _ _ _ _ _ e3 e5)
   simp only[execOp,resolve,invoke,Sem.run_bind,Sem.run_pure,Result.andThen_ok]
   exact e4
  |value fo=>
   have val:∀ (h:(aS (bV E.P st.tmps 0 fo) fun p=>aS (jF E.P st.tmps (fun i=>argTypes.getD i 0) 0 uM.toList) fun args=>match p with
    | .t x=>aS (PV.lF st.heap args) fun ts=>bif (PV.dU args).isEmpty then oJ E rc x ts fun r=>K (.t r) st else .stuck
    | .fn f fs cs=>mD E rc dr f (fs++args++cs) st K
    |_=> .stuck)≠ .stuck) (hn:∀ p u st' F' κ' w',(aS (bV E.P st.tmps 0 fo) fun p=>aS (jF E.P st.tmps (fun i=>argTypes.getD i 0) 0 uM.toList) fun args=>match p with
    | .t x=>aS (PV.lF st.heap args) fun ts=>bif (PV.dU args).isEmpty then oJ E rc x ts fun r=>K (.t r) st else .stuck
    | .fn f fs cs=>mD E rc dr f (fs++args++cs) st K
    |_=> .stuck)=K p st'→Next' N0 F κ w st a.tmps p u F' κ' w' st'→w.drawn≤w'.drawn→next (a.put dst u) w'),(⟨dst,.call ⟨.value fo,uM,argTypes⟩,type,pos,after,guard⟩:Oper).wp E.P a w next Q:=by
    intro h hn
    obtain⟨p,e1,e2⟩:=aB h
    rw[e2] at h hn
    obtain⟨args,e3,e4⟩:=aB h
    rw[e4] at h hn
    obtain⟨a1,a2⟩:=evs e3
    have hp:=ev e1
    generalize hv:a.eval fo=v at hp
    cases hp with
    | @t x _ hx=>
     simp only[] at h hn
     obtain⟨ts,e5,e6⟩:=aB h
     rw[e6] at h hn
     obtain⟨g1,e7⟩:=bD h
     rw[e7] at h hn
     have hnr:PV.dU args= []:=by simpa using g1
     obtain⟨t1,t2⟩:=rY s a2 e5 (fun _ h=>h) (by rw[hnr]; simp)
     obtain⟨g,vf,vc,rfl,hi⟩:=abf hc h s hx (vals:=(uM.map a.eval).toList) (by omega) t2
     unfold Oper.wp
     have:execOp a.eval ⟨dst,.call ⟨.value fo,uM,argTypes⟩,type,pos,after,guard⟩=callFunc g (vf++(uM.map a.eval)++vc):=by simp[execOp,resolve,hv,Deferred.ofValue,invoke]
     rw[this]
     rw[Array.toArray_toList] at hi
     exact hi.upon fun u w' ⟨r,F',g1,g2,g3⟩ hd=>hn _ _ _ F' κ w' g1 (g3.next h0 s ht (.t g2)) hd
    | @fn f fs cs vf vc hlf hlc hrf hrc=>
     refine direct f (fs++args++cs) (vf++(uM.map a.eval).toList++vc) h hn (by simp at a1 ⊢; omega) (fun i p v g1 g2=>?_) ?_
     · rcases Nat.lt_or_ge i fs.length with h1|h1
       · rw[List.append_assoc,List.getElem?_append_left h1] at g1
         rw[List.append_assoc,List.getElem?_append_left (by omega)] at g2
         exact hrf i p v g1 g2
       · rw[List.append_assoc,List.getElem?_append_right h1] at g1
         rw[List.append_assoc,List.getElem?_append_right (by omega),hlf] at g2
         rcases Nat.lt_or_ge (i - fs.length) args.length with h2|h2
         · rw[List.getElem?_append_left h2] at g1
           rw[List.getElem?_append_left (by omega)] at g2
           exact a2 _ p v g1 g2
         · rw[List.getElem?_append_right h2] at g1
           rw[List.getElem?_append_right (by omega),a1] at g2
           exact hrc _ p v g1 g2
     · rw[show vf++(uM.map a.eval).toList++vc=vf++uM.toList.map a.eval++vc by rw[Array.toList_map],show(vf++uM.toList.map a.eval++vc).toArray=vf.toArray++(uM.toList.map a.eval).toArray++vc.toArray by simp,aqw]
       simp[execOp,resolve,hv,Deferred.ofValue,invoke]
    |_=>exact absurd rfl h
   cases fo with
   |func f=>
    simp only[] at h hn
    obtain⟨args,e1,e2⟩:=aB h
    rw[e2] at h hn
    obtain⟨a1,a2⟩:=evs e1
    exact direct f args _ h hn a1 a2 (by rw[Array.toArray_toList]; simp[execOp,resolve,Act.eval,Deferred.ofValue,invoke])
   |_=>exact val h hn
  |_=>exact absurd rfl h
 all_goals exact absurd rfl h
end
end
section
open Go.RowKit
section
variable {β:Type} {E:Env} {rc:Caller} {st:St} {F:Nat→Prop} {κ:Nat→Value} {w:World} {N0:Nat} {a:Act} {ops:Array Oper}
theorem Et (tm:List PV) (d:Option Tmp) (p:PV):(dL tm d p).length=tm.length:=by cases d<;>simp[dL]
theorem Ep (a:Act) (d:Option Tmp) (v:Value):(a.put d v).tmps.size=a.tmps.size:=by cases d<;>simp[Act.put]
theorem put_defers (a:Act) (d:Option Tmp) (v:Value):(a.put d v).defers=a.defers:=by cases d<;>rfl
theorem Jc {F:Nat→Prop} {κ:Nat→Value} {N:Nat} {w:World} {tm:List PV} {a:Act} (hl:a.tmps.size=tm.length) (ht:∀ (i:Nat) (q:PV) (v:Value),tm[i]? =some q→a.tmps[i]? =some v→RP F κ N w q v) {p:PV} {u:Value} (hp:RP F κ N w p u) (d:Option Tmp):
 ∀ (i:Nat) (q:PV) (v:Value),(dL tm d p)[i]? =some q→(a.put d u).tmps[i]? =some v→RP F κ N w q v:=by
 cases d with
 |none=>exact ht
 |some d=>
  intro i q v h1 h2
  simp only[dL] at h1
  simp only[Act.put] at h2
  by_cases e:i=d
  · subst e
    have hi:i < tm.length:=by have:=(List.getElem?_eq_some_iff.1 h1).1; simpa using this
    rw[List.getElem?_set_self hi] at h1
    rw[Array.getElem?_setIfInBounds_self_of_lt (by rw[hl]; exact hi)] at h2
    injection h1 with h1
    injection h2 with h2
    subst h1
    subst h2
    exact hp
  · rw[List.getElem?_set_ne (fun h=>e h.symm)] at h1
    rw[Array.getElem?_setIfInBounds_ne (fun h=>e h.symm)] at h2
    exact ht i q v h1 h2
theorem Next'.rel {F':Nat→Prop} {κ':Nat→Value} {w':World} {st':St} {p:PV} {u:Value} (rel:Rel F κ st a w) (h:Next' N0 F κ w st a.tmps p u F' κ' w' st') (d:Option Tmp):Rel F' κ' ⟨dL st'.tmps d p,st'.heap⟩ (a.put d u) w':=
 ⟨by rw[Ep,Et,rel.tl,h.tl],Jc (by rw[h.tl]; exact rel.tl) h.tr h.rp d,by rw[put_defers]; exact rel.dn,h.si⟩
theorem Rel.skip (rel:Rel F κ st a w) (d:Option Tmp):Rel F κ ⟨dL st.tmps d dY,st.heap⟩ (a.put d undef) w:=
 ⟨by rw[Ep,Et,rel.tl],Jc rel.tl rel.tr kW d,by rw[put_defers]; exact rel.dn,rel.si⟩
theorem Vl {tm:List PV} {d:Nat} {p:PV} (h:tm.getD d .junk=p) (hp:p≠ .junk):tm.set d p=tm∧tm[d]? =some p:=by
 rw[List.getD_eq_getElem?_getD] at h
 cases hd:tm[d]? with
 |none=>rw[hd] at h; exact absurd h.symm hp
 |some q=>
  rw[hd] at h
  simp only[Option.getD_some] at h
  subst h
  refine⟨?_,rfl⟩
  apply List.ext_getElem?
  intro i
  by_cases e:i=d
  · subst e; rw[List.getElem?_set_self (List.getElem?_eq_some_iff.1 hd).1,hd]
  · rw[List.getElem?_set_ne (fun h=>e h.symm)]
def guardOf (ops:Array Oper) (tm:List PV) (o:Oper):Option Bool:=match o.guard with
 |none=>some true
 |some (j,want)=>match (ops[j]?).bind (·.dst) with
  |none=>some false
  |some d=>match tm.getD d .junk with
   | .au []=>some false
   | .t (.bool b)=>some (b==want)
   |_=>none
theorem dN (o:Oper) (dr:Bool) (r:List (Oper×Bool)) (K:St→ah β):bn E rc ops ((o,dr)::r) st K=match guardOf ops st.tmps o with
 |some true=>kY E rc dr o st fun p st'=>bn E rc ops r ⟨dL st'.tmps o.dst p,st'.heap⟩ K
 |some false=>bn E rc ops r ⟨dL st.tmps o.dst dY,st.heap⟩ K
 |none=> .stuck:=by
 simp only[bn,guardOf]
 cases hg:o.guard with
 |none=>rfl
 |some jw=>
  obtain⟨j,want⟩:=jw
  simp only[]
  cases hd:(ops[j]?).bind (·.dst) with
  |none=>rfl
  |some d=>
   simp only[]
   cases hp:st.tmps.getD d .junk with
   |au l=>cases l<;>rfl
   |t x=>
    cases x with
    |bool b=>
     have:=(Vl hp (by simp)).1
     cases b<;>cases want<;>simp only[bT,cond_true,cond_false,this]<;>rfl
    |_=>rfl
   |_=>rfl
theorem uO (rel:Rel F κ st a w) {o:Oper} {b:Bool} (h:guardOf ops st.tmps o=some b):Region.wanted o (yielded ops a.tmps)=b:=by
 unfold guardOf at h
 unfold Region.wanted
 cases hg:o.guard with
 |none=>rw[hg] at h; injection h
 |some jw=>
  obtain⟨j,want⟩:=jw
  rw[hg] at h
  simp only[] at h ⊢
  unfold yielded
  cases hd:(ops[j]?).bind (·.dst) with
  |none=>rw[hd] at h; simp only[Option.some.injEq] at h; subst h; rfl
  |some d=>
   rw[hd] at h
   simp only[Option.bind_some] at h ⊢
   have key:∀ (p:PV),st.tmps.getD d .junk=p→p≠ .junk→∃ v,a.tmps[d]? =some v∧RP F κ st.heap.length w p v:=by
    intro p hp hne
    have h1:=(Vl hp hne).2
    have h2:d < a.tmps.size:=by rw[rel.tl]; exact(List.getElem?_eq_some_iff.1 h1).1
    exact⟨a.tmps[d],Array.getElem?_eq_getElem h2,rel.tr d p _ h1 (Array.getElem?_eq_getElem h2)⟩
   cases hp:st.tmps.getD d .junk with
   |au l=>
    cases l with
    |nil=>
     rw[hp] at h
     obtain⟨v,h1,h2⟩:=key _ hp (by simp)
     simp only[Option.some.injEq] at h
     subst h
     rw[h1]
     cases h2 with
     |au hl hr=>rfl
    |cons=>rw[hp] at h; cases h
   |t x=>
    cases x with
    |bool b'=>
     rw[hp] at h
     obtain⟨v,h1,h2⟩:=key _ hp (by simp)
     simp only[Option.some.injEq] at h
     rw[h1]
     cases h2 with
     |t h2=>
     cases h2 with
     |bool=>
     subst h
     cases b'<;>cases want<;>rfl
    |_=>rw[hp] at h; cases h
   |_=>rw[hp] at h; cases h
theorem Du (hc:fG E rc) {Q:Exit→Act→World→Prop} {K:St→ah β}:∀ {l:List (Oper×Bool)} {st:St} {F:Nat→Prop} {κ:Nat→Value} {a:Act} {w:World},bn E rc ops l st K≠ .stuck→N0≤st.heap.length→Rel F κ st a w→
 (∀ st' F' κ' a' w',bn E rc ops l st K=K st'→Rel F' κ' st' a' w'→mX N0 F κ w st.heap F' κ' w' st'.heap→Q .normal a' w')→wpList E.P ops Q (l.map (·.1)) a w
 | [],st,F,κ,a,w,h,h0,rel,hq=>hq st F κ a w rfl rel (mX.refl h0)
 |(o,dr)::r,st,F,κ,a,w,h,h0,rel,hq=>by
  rw[dN] at h hq
  simp only[List.map_cons,wpList]
  cases hg:guardOf ops st.tmps o with
  |none=>rw[hg] at h; exact absurd rfl h
  |some b=>
   rw[hg] at h hq
   rw[uO rel hg]
   cases b with
   |true=>
    simp only[if_true] at h hq ⊢
    refine .inl (Bl (N0:=N0) hc h h0 rel fun p u st' F' κ' w' e hn hd=>?_)
    rw[e] at h hq
    refine Du hc h hn.ev.hl (hn.rel rel o.dst) fun st2 F2 κ2 a2 w2 e2 r2 zB=>hq st2 F2 κ2 a2 w2 e2 r2 (mX.trans ⟨hn.ev,hd⟩ zB)
   |false=>
    simp only[Bool.false_eq_true,if_false] at h hq ⊢
    exact Du hc h h0 (rel.skip o.dst) hq
theorem E8 (hc:fG E rc) {id:Nat} {Q:Exit→Act→World→Prop} {K:St→ah β} {l:List (Oper×Bool)} (hl:l.map (·.1)=ops.toList) (h:bn E rc ops l st K≠ .stuck) (h0:N0≤st.heap.length) (rel:Rel F κ st a w)
 (hq:∀ st' F' κ' a' w',bn E rc ops l st K=K st'→Rel F' κ' st' a' w'→mX N0 F κ w st.heap F' κ' w' st'.heap→Q .normal a' w'):(Code.region id ops false).wp E.P Q a w:=
 wp_region_list (by rw[←hl]; exact Du hc h h0 rel hq)
end
end
end Go.aT
