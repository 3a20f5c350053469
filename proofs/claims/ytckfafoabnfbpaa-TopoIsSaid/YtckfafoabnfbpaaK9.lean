/- The texts of a proof, one behind the other: an interpreter and its soundness, what the functions of the program answer, and plain laws on that. -/
import Derived.Test.YtckfafoabnfbpaaK8
set_option linter.unusedVariables false
set_option linter.unusedSimpArgs false
set_option linter.unnecessarySimpa false
set_option linter.unusedSectionVars false
set_option maxRecDepth 100000
namespace Go.aO
section
open Go.RowKit
def Le {β:Type} (a b:aj β):Prop:=a≠ .stuck→b=a
theorem Le.refl {β:Type} (a:aj β):Le a a:=fun _=>rfl
theorem Le.trans {β:Type} {a b c:aj β} (h:Le a b) (h':Le b c):Le a c:=fun ha=>by
 have e:=h ha
 rw[←e]; exact h' (by rw[e]; exact ha)
theorem Le.bind {α β:Type} {r:aj α} {K K':α→aj β} (h:∀ x,Le (K x) (K' x)):Le (r.bind K) (r.bind K'):=by
 cases r with
 |ok a=>exact h a
 |_=>exact Le.refl _
theorem Le.aaV {α β:Type} {r r':aj α} {K K':α→aj β} (h0:Le r r') (h:∀ x,Le (K x) (K' x)):Le (r.bind K) (r'.bind K'):=by
 cases r with
 |stuck=>intro hh; exact absurd rfl hh
 |ok a=>rw[h0 (by simp)]; exact h a
 |absurd=>rw[h0 (by simp)]; exact Le.refl _
section
variable {E:Env} {p:FuncId→List T→aj T} {g g':(β:Type)→FuncId→List PV→List au→(PV→List au→aj β)→aj β}
variable (hg:∀ β f args H K,Le (g β f args H K) (g' β f args H K)) (hn:(⟨p,g'⟩:Caller).Nat)
include hg hn
theorem JV {β:Type} (dr:Bool) (f:FuncId) (args:List PV) (st:St) (K:PV→St→aj β):Le (kX E ⟨p,g⟩ dr f args st K) (kX E ⟨p,g'⟩ dr f args st K):=by
 unfold kX
 split
 · exact Le.refl _
 · split
   · exact Le.refl _
   · cases (dr||(E.ext f).isSome) with
     |true=>exact Le.refl _
     |false=>exact hg _ _ _ _ _
theorem ac4 {β:Type} (dr:Bool) (o:Oper) (st:St) {K K':PV→St→aj β} (hK:∀ q s,Le (K q s) (K' q s)):Le (kC E ⟨p,g⟩ dr o st K) (kC E ⟨p,g'⟩ dr o st K'):=by
 have h2:Le (kC E ⟨p,g'⟩ dr o st K) (kC E ⟨p,g'⟩ dr o st K'):=by
  have e:∀ K:PV→St→aj β,kC E ⟨p,g'⟩ dr o st K=(kC E ⟨p,g'⟩ dr o st fun q s=>(.ok (q,s):aj (PV×St))).bind fun x=>K x.1 x.2:=fun K=>by
   rw[CX (E:=E) (Strict.bind (β:=PV×St) fun x=>K x.1 x.2) hn dr o fun q s=> .ok (q,s)]
   rfl
  rw[e K,e K']
  exact Le.bind fun x=>hK _ _
 refine Le.trans ?_ h2
 obtain⟨dst,op,type,pos,after,guard⟩:=o
 cases op<;>try exact Le.refl _
 case call c=>
  simp only[kC]
  split
  · exact Le.refl _
  · rename_i f _
    cases iQ E.P st.tmps (fun i=>c.argTypes.getD i 0) 0 c.args.toList with
    |none=>exact Le.refl _
    |some args=>exact JV hg hn _ _ _ _ _
  · rename_i fo _ _
    cases bf E.P st.tmps 0 fo with
    |none=>exact Le.refl _
    |some q=>
     cases iQ E.P st.tmps (fun i=>c.argTypes.getD i 0) 0 c.args.toList with
     |none=>exact Le.refl _
     |some args=>
      simp only[aK]
      cases q<;>first|exact Le.refl _|exact JV hg hn _ _ _ _ _
  · exact Le.refl _
theorem CZ {β:Type} (ops:Array Oper):∀ (l:List (Oper×Bool)) (st:St) {K K':St→aj β},(∀ s,Le (K s) (K' s))→Le (aQ E ⟨p,g⟩ ops l st K) (aQ E ⟨p,g'⟩ ops l st K')
 | [],st,K,K',hK=>hK st
 |(o,dr)::r,st,K,K',hK=>by
  rw[cu,cu]
  cases guardOf ops st.tmps o with
  |none=>exact Le.refl _
  |some b=>
   cases b with
   |true=>exact ac4 hg hn dr o st fun q s=>CZ ops r _ hK
   |false=>exact CZ ops r _ hK
omit hg hn in
theorem J9 {B B':St→aj (Ex×St)} (h:∀ s,Le (B s) (B' s)):∀ (n:Nat) (s:St),Le (eF B n s) (eF B' n s)
 |0,s=>Le.refl _
 |n+1,s=>by
  simp only[eF]
  refine Le.aaV (h s) fun x=>?_
  obtain⟨e,s'⟩:=x
  cases e with
  |norm=>exact J9 h n s'
  |_=>exact Le.refl _
variable (f:FuncId) (fn:Func) (n base:Nat)
theorem lK:∀ (c:Code) {β:Type} (st:St) {K K':Ex→St→aj β},(∀ e s,Le (K e s) (K' e s))→Le (bQ E ⟨p,g⟩ f fn n base c st K) (bQ E ⟨p,g'⟩ f fn n base c st K')
 | .skip,β,st,K,K',hK=>hK _ _
 | .region id ops dr,β,st,K,K',hK=>by
  simp only[bQ]
  cases dr with
  |true=>
   cases pz ops with
   |true=>exact CZ hg hn ops _ st fun s=>hK _ _
   |false=>exact Le.refl _
  |false=>exact CZ hg hn ops _ st fun s=>hK _ _
 | .seq a b,β,st,K,K',hK=>by
  simp only[bQ]
  refine lK a st fun e s=>?_
  cases e with
  |norm=>exact lK b s hK
  |_=>exact hK _ _
 | .cond c a b,β,st,K,K',hK=>by
  simp only[bQ]
  cases bf E.P st.tmps 0 c with
  |none=>exact Le.refl _
  |some q=>
   simp only[aK]
   cases q with
   |t x=>
    cases x with
    |bool v=>cases v with
     |true=>exact lK a st hK
     |false=>exact lK b st hK
    |_=>exact Le.refl _
   |_=>exact Le.refl _
 | .block id c,β,st,K,K',hK=>by
  simp only[bQ]
  refine lK c st fun e s=>?_
  cases e with
  |exit i=>
   simp only[Ex.k]
   split
   · exact hK _ _
   · exact hK _ _
  |_=>exact hK _ _
 | .loop c,β,st,K,K',hK=>by
  simp only[bQ]
  refine Le.aaV (J9 (fun s=>lK c s fun e s=>Le.refl _) n _) fun x=>hK _ _
 | .exit id,β,st,K,K',hK=>hK _ _
 | .scope c,β,st,K,K',hK=>lK c st hK
 | .label _,β,st,K,K',hK=>hK _ _
 | .ret,β,st,K,K',hK=>hK _ _
 | .rangeFunc ..,β,st,K,K',hK=>Le.refl _
 | .goto ..,β,st,K,K',hK=>Le.refl _
 | .refuse ..,β,st,K,K',hK=>Le.refl _
theorem PY {β:Type} (args:List PV) (H:List au) (K:PV→List au→aj β):Le (kL E ⟨p,g⟩ n f args H K) (kL E ⟨p,g'⟩ n f args H K):=by
 unfold kL
 split
 · exact Le.refl _
 · split
   · exact Le.refl _
   · exact lK hg hn f _ n _ _ _ fun e s=>Le.refl _
end
structure Pin where
 f:FuncId
 args:List PV
 H:List au
 r:PV
 H':List au
open Classical in
noncomputable def tC {β:Type} (p:Prop) (r:aj β):aj β:=if p then r else .stuck
theorem qO {β:Type} {p:Prop} {r:aj β} (h:p):tC p r=r:=if_pos h
theorem GY {β:Type} {a:List PV} {b:List au} {r:aj β}:tC (a=a∧b=b) r=r:=if_pos ⟨rfl,rfl⟩
noncomputable def goP:List Pin→(β:Type)→FuncId→List PV→List au→(PV→List au→aj β)→aj β
 | [],_,_,_,_,_=> .stuck
 |p::ps,β,f,args,H,K=>bif Nat.beq p.f f then tC (args=p.args∧H=p.H) (K p.r p.H') else goP ps β f args H K
def zB (E:Env) (N:Nat) (p:Pin):Prop:=∀ (β:Type) (K:PV→List au→aj β),runK E N β p.f p.args p.H K=K p.r p.H'
def Nl (E:Env) (N:Nat):List Pin→Prop
 | []=>True
 |p::ps=>zB E N p∧Nl E N ps
theorem Dq {E:Env} {N:Nat}:∀ {ps:List Pin},Nl E N ps→∀ (β:Type) (f:FuncId) (args:List PV) (H:List au) (K:PV→List au→aj β),Le (goP ps β f args H K) (runK E N β f args H K)
 | [],_,β,f,args,H,K=>fun h=>absurd rfl h
 |p::ps,h,β,f,args,H,K=>by
  unfold goP
  cases hf:Nat.beq p.f f with
  |false=>exact Dq h.2 β f args H K
  |true=>
   obtain rfl:=Nat.eq_of_beq_eq_true hf
   simp only[cond_true]
   intro hne
   unfold tC at hne ⊢
   split
   · rename_i hp
     rw[hp.1,hp.2]; exact h.1 β K
   · rename_i hp; rw[if_neg hp] at hne; exact absurd rfl hne
noncomputable def qG (E:Env) (N:Nat) (ps:List Pin):Caller:=⟨aB E N,goP ps⟩
theorem dY (E:Env):∀ n,(aJ E n).Nat
 |0=>fun β γ g hg f args H K=>hg.stuck
 |n+1=>fun β γ g hg f args H K=>DZ (dY E n) hg args H K
def Ah {β:Type} (E:Env) (rc:Caller) (n:Nat) (f:FuncId) (base r:Nat) (K:PV→List au→aj β):Ex→St→aj β:=match E.P.funcs[f]? with
 |some fn=>(match fn.body with
  |some c=>(match kG r c with
   |some (_,fs)=>mZ E rc f fn n base fs (Aa E fn K)
   |none=>fun _ _=> .stuck)
  |none=>fun _ _=> .stuck)
 |none=>fun _ _=> .stuck
def pq (E:Env) (rc:Caller) (n:Nat) (f:FuncId) (base r:Nat):St→aj (Ex×St):=match E.P.funcs[f]? with
 |some fn=>(match fn.body with
  |some c=>(match kG r c with
   |some (c',_)=>uD E rc f fn n base c'
   |none=>fun _=> .stuck)
  |none=>fun _=> .stuck)
 |none=>fun _=> .stuck
section
variable {E:Env} {N:Nat} {ps:List Pin} (hs:Nl E N ps)
include hs
theorem su {f:FuncId} {ts:List T} {x:T} (hw:T.wfs ts=true) (hx:E.ext f=none) (h:kL E (qG E N ps) N f (ts.map .t) [] (bU E f)= .ok x):aB E (N+1) f ts= .ok x:=by
 have:=PY (E:=E) (p:=aB E N) (Dq hs) (dY E N) f N (ts.map .t) [] (bU E f) (by
  show kL E (qG E N ps) N f (ts.map .t) [] (bU E f)≠ .stuck
  rw[h]; simp)
 unfold aB ny
 rw[hw,hx]
 simp only[cond_true]
 exact this.trans h
omit hs in
theorem qm {p:FuncId→List T→aj T} {g g':(β:Type)→FuncId→List PV→List au→(PV→List au→aj β)→aj β}
 (hg:∀ β f args H K,Le (g β f args H K) (g' β f args H K)) (hn:(⟨p,g'⟩:Caller).Nat) (f:FuncId) (fn:Func) (n base:Nat) {β:Type} (K:Ex→St→aj β):
 ∀ (fs:List Frm) (e:Ex) (s:St),Le (mZ E ⟨p,g⟩ f fn n base fs K e s) (mZ E ⟨p,g'⟩ f fn n base fs K e s)
 | [],e,s=>Le.refl _
 | .seq b::r,e,s=>by
  simp only[mZ]
  cases e with
  |norm=>exact lK hg hn f fn n base b s fun e s=>qm hg hn f fn n base K r e s
  |exit i=>exact qm hg hn f fn n base K r _ s
  |ret=>exact qm hg hn f fn n base K r _ s
 | .block id::r,e,s=>by
  simp only[mZ]
  cases e with
  |exit i=>
   simp only[Ex.k]
   split
   · exact qm hg hn f fn n base K r _ s
   · exact qm hg hn f fn n base K r _ s
  |_=>exact qm hg hn f fn n base K r _ s
theorem SV {f:FuncId} {r:Nat} {e:Ex} {s:St} {x:T} (h:Ah E (qG E N ps) N f 0 r (bU E f) e s= .ok x):bK E N f 0 r (bU E f) e s= .ok x:=by
 cases hf:E.P.funcs[f]? with
 |none=>simp[Ah,hf] at h
 |some fn=>
  cases hb:fn.body with
  |none=>simp[Ah,hf,hb] at h
  |some c=>
   cases hl:kG r c with
   |none=>simp[Ah,hf,hb,hl] at h
   |some y=>
    simp only[Ah,hf,hb,hl] at h
    simp only[bK,hf,hb,hl]
    exact(qm (E:=E) (p:=aB E N) (Dq hs) (dY E N) f _ N 0 _ _ e s (by
     show mZ E (qG E N ps) f _ N 0 _ _ e s≠ .stuck
     rw[h]; simp)).trans h
theorem lY {f:FuncId} {r:Nat} {s:St} {x:Ex×St} (h:pq E (qG E N ps) N f 0 r s= .ok x):aT E N f 0 r s= .ok x:=by
 cases hf:E.P.funcs[f]? with
 |none=>simp[pq,hf] at h
 |some fn=>
  cases hb:fn.body with
  |none=>simp[pq,hf,hb] at h
  |some c=>
   cases hl:kG r c with
   |none=>simp[pq,hf,hb,hl] at h
   |some y=>
    simp only[pq,hf,hb,hl] at h
    simp only[aT,hf,hb,hl]
    exact(lK (E:=E) (p:=aB E N) (Dq hs) (dY E N) f _ N 0 _ s (fun e s=>Le.refl _) (by
     show uD E (qG E N ps) f _ N 0 _ s≠ .stuck
     rw[h]; simp)).trans h
end
section
variable {β:Type} (E:Env) (rc:Caller) (n:Nat) (f:FuncId) (base:Nat)
def um (r:Nat):St→aj (Ex×St):=match E.P.funcs[f]? with
 |some fn=>(match fn.body with
  |some c=>(match kG r c with
   |some (c',_)=>uD E rc f fn n base c'
   |none=>fun _=> .stuck)
  |none=>fun _=> .stuck)
 |none=>fun _=> .stuck
def Jw (r:Nat) (K:PV→List au→aj β):Ex→St→aj β:=match E.P.funcs[f]? with
 |some fn=>(match fn.body with
  |some c=>(match kG r c with
   |some (_,fs)=>mZ E rc f fn n base fs (Aa E fn K)
   |none=>fun _ _=> .stuck)
  |none=>fun _ _=> .stuck)
 |none=>fun _ _=> .stuck
def abU (r q:Nat):St→aj (Ex×St):=match E.P.funcs[f]? with
 |some fn=>(match fn.body with
  |some c=>(match kG r c with
   |some (c1,_)=>(match kG q c1 with
    |some (c2,_)=>uD E rc f fn n base c2
    |none=>fun _=> .stuck)
   |none=>fun _=> .stuck)
  |none=>fun _=> .stuck)
 |none=>fun _=> .stuck
def adl (r q:Nat):Ex→St→aj (Ex×St):=match E.P.funcs[f]? with
 |some fn=>(match fn.body with
  |some c=>(match kG r c with
   |some (c1,_)=>(match kG q c1 with
    |some (_,fs)=>mZ E rc f fn n base fs fun e st=>e.k (.ok (.norm,canon base (E.hint f (aW c1)).1 st))
     (fun i=> .ok (.exit i,canon base (E.hint f (aW c1)).2 st)) (.ok (.ret,canon base (jT fn) st))
    |none=>fun _ _=> .stuck)
   |none=>fun _ _=> .stuck)
  |none=>fun _ _=> .stuck)
 |none=>fun _ _=> .stuck
def Jc (r:Nat) (K:PV→List au→aj β) (st:St):aj β:=(eF (um E rc n f base r) n st).bind fun p=>Jw E rc n f base r K p.1 p.2
def aip (r q:Nat) (st:St):aj (Ex×St):=(eF (abU E rc n f base r q) n st).bind fun p=>adl E rc n f base r q p.1 p.2
end
theorem AX {β:Type} {E:Env} {rc:Caller} {n:Nat} {f:FuncId} {base r:Nat} {K:PV→List au→aj β} {s s':St} {e:Ex} (h:eF (um E rc n f base r) n s= .ok (e,s')):Jc E rc n f base r K s=Jw E rc n f base r K e s':=by
 unfold Jc; rw[h]; rfl
theorem aN {E:Env} {n:Nat} {f:FuncId} {r:Nat} {s s':St} {e:Ex} (h:eF (aT E n f 0 r) n s= .ok (e,s')):eG E n f r s=bK E n f 0 r (bU E f) e s':=by
 unfold eG; rw[h]; rfl
end
section
open Go.RowKit
theorem rU {α:Type} {B:St→aj (Ex×St)} {S:Nat→St} {R X:St} {id:Nat} (q:α→Bool) (l:List α) {n:Nat} (hn:l.length < n)
 (h:∀ j x,l[j]? =some x→B (S j)=bif q x then .ok (.ret,R) else .ok (.norm,S (j+1))) (hx:B (S l.length)= .ok (.exit id,X)):
 eF B n (S 0)=bif l.any q then .ok (.ret,R) else .ok (.exit id,X):=by
 have main:∀ (r p:List α) (n:Nat),l=p++r→r.length < n→eF B n (S p.length)=bif r.any q then .ok (.ret,R) else .ok (.exit id,X):=by
  intro r
  induction r with
  |nil=>
   intro p n hp hn
   obtain⟨n,rfl⟩:∃ m,n=m+1:=⟨n - 1,by omega⟩
   have:p.length=l.length:=by rw[hp]; simp
   rw[this,iH hx]; rfl
  |cons x r ih=>
   intro p n hp hn
   obtain⟨n,rfl⟩:∃ m,n=m+1:=⟨n - 1,by omega⟩
   have hs:=h p.length x (by rw[hp]; simp)
   rw[List.any_cons]
   cases hq:q x with
   |true=>rw[hq,cond_true] at hs; rw[iV hs]; rfl
   |false=>
    rw[hq,cond_false] at hs
    have:=ih (p++ [x]) n (by rw[hp]; simp) (by simp at hn; omega)
    rw[List.length_append] at this
    rw[bJ hs]; exact this
 exact main l [] n rfl hn
theorem jM {α β:Type} {B:St→aj (Ex×St)} {S:β→Nat→St} {X:β→St} {id:Nat} (I:β→Nat→Prop) (f:β→α→β) (l:List α) {n:Nat} (b:β) (hn:l.length < n)
 (h:∀ b j x,l[j]? =some x→I b j→B (S b j)= .ok (.norm,S (f b x) (j+1))∧I (f b x) (j+1)) (hx:∀ b,I b l.length→B (S b l.length)= .ok (.exit id,X b)) (hb:I b 0):
 eF B n (S b 0)= .ok (.exit id,X (l.foldl f b))∧I (l.foldl f b) l.length:=by
 have main:∀ (r p:List α) (n:Nat) (b:β),l=p++r→r.length < n→I b p.length→eF B n (S b p.length)= .ok (.exit id,X (r.foldl f b))∧I (r.foldl f b) l.length:=by
  intro r
  induction r with
  |nil=>
   intro p n b hp hn hI
   obtain⟨n,rfl⟩:∃ m,n=m+1:=⟨n - 1,by omega⟩
   have:p.length=l.length:=by rw[hp]; simp
   rw[this] at hI ⊢
   exact⟨iH (hx b hI),hI⟩
  |cons x r ih=>
   intro p n b hp hn hI
   obtain⟨n,rfl⟩:∃ m,n=m+1:=⟨n - 1,by omega⟩
   obtain⟨hs,hI'⟩:=h b p.length x (by rw[hp]; simp) hI
   have hlen:(p++ [x]).length=p.length+1:=by simp
   have:=ih (p++ [x]) n (f b x) (by rw[hp]; simp) (by simp at hn; omega) (by rw[hlen]; exact hI')
   rw[hlen] at this
   rw[bJ hs]; exact this
 exact main l [] n b rfl hn hb
def Oh {α β γ:Type} (f:β→α→β ⊕ γ):List α→β→β ⊕ γ
 | [],b=> .inl b
 |x::r,b=>match f b x with
  | .inl b=>Oh f r b
  | .inr c=> .inr c
end
section
open Go.RowKit
def spine:Code→List Code
 | .seq a b=>spine a++spine b
 | .scope c=>spine c
 |c=>[c]
section
variable {β:Type} (E:Env) (rc:Caller) (f:FuncId) (fn:Func) (n base:Nat)
def jy:List Code→St→(Ex→St→aj β)→aj β
 | [],st,K=>K .norm st
 |c::l,st,K=>bQ E rc f fn n base c st fun e st=>e.k (jy l st K) (fun i=>K (.exit i) st) (K .ret st)
theorem lq:∀ (l m:List Code) (st:St) (K:Ex→St→aj β),jy E rc f fn n base (l++m) st K=jy E rc f fn n base l st fun e st=>e.k (jy E rc f fn n base m st K) (fun i=>K (.exit i) st) (K .ret st)
 | [],m,st,K=>rfl
 |c::l,m,st,K=>by
  simp only[List.cons_append,jy]
  congr 1
  funext e s
  cases e with
  |norm=>exact lq l m s K
  |_=>rfl
theorem ab8 (K:Ex→St→aj β):(fun e st=>Ex.k e (K .norm st) (fun i=>K (.exit i) st) (K .ret st))=K:=by
 funext e st
 cases e<;>rfl
theorem jK (c:Code) (st:St) (K:Ex→St→aj β):jy E rc f fn n base [c] st K=bQ E rc f fn n base c st K:=by
 show bQ E rc f fn n base c st (fun e st=>e.k (K .norm st) (fun i=>K (.exit i) st) (K .ret st))=_
 rw[ab8]
theorem jC:∀ (c:Code) (st:St) (K:Ex→St→aj β),bQ E rc f fn n base c st K=jy E rc f fn n base (spine c) st K
 | .seq a b,st,K=>by
  show bQ E rc f fn n base a st (fun e st=>e.k (bQ E rc f fn n base b st K) (fun i=>K (.exit i) st) (K .ret st))=_
  rw[spine,lq,jC a]
  congr 1
  funext e s
  cases e with
  |norm=>exact jC b s K
  |_=>rfl
 | .scope c,st,K=>jC c st K
 | .skip,st,K=>(jK _ _ _ _ _ _ _ _ _).symm
 | .region _ _ _,st,K=>(jK _ _ _ _ _ _ _ _ _).symm
 | .cond _ _ _,st,K=>(jK _ _ _ _ _ _ _ _ _).symm
 | .block _ _,st,K=>(jK _ _ _ _ _ _ _ _ _).symm
 | .loop _,st,K=>(jK _ _ _ _ _ _ _ _ _).symm
 | .exit _,st,K=>(jK _ _ _ _ _ _ _ _ _).symm
 | .label _,st,K=>(jK _ _ _ _ _ _ _ _ _).symm
 | .ret,st,K=>(jK _ _ _ _ _ _ _ _ _).symm
 | .rangeFunc ..,st,K=>(jK _ _ _ _ _ _ _ _ _).symm
 | .goto ..,st,K=>(jK _ _ _ _ _ _ _ _ _).symm
 | .refuse ..,st,K=>(jK _ _ _ _ _ _ _ _ _).symm
end
def qX (E:Env) (f:FuncId) (args:List PV):St:=match E.P.funcs[f]? with
 |some fn=>⟨args++List.replicate (fn.ntmps - args.length) dw,[]⟩
 |none=>⟨[],[]⟩
def zD (E:Env) (n:Nat) (f:FuncId) (i:Nat) (st:St):aj T:=match E.P.funcs[f]? with
 |some fn=>(match fn.body with
  |some c=>jy E (aJ E n) f fn n 0 ((spine c).drop i) st (Aa E fn (bU E f))
  |none=> .stuck)
 |none=> .stuck
def Oj (E:Env) (n:Nat) (f:FuncId) (i k:Nat) (st:St) (Kc:St→aj T):aj T:=match E.P.funcs[f]? with
 |some fn=>(match fn.body with
  |some c=>jy E (aJ E n) f fn n 0 (((spine c).drop i).take k) st fun e st=>e.k (Kc st) (fun i=>Aa E fn (bU E f) (.exit i) st) (Aa E fn (bU E f) .ret st)
  |none=> .stuck)
 |none=> .stuck
theorem GR {E:Env} {n:Nat} {f:FuncId} {i:Nat} {st:St} (k:Nat):zD E n f i st=Oj E n f i k st (zD E n f (i+k)):=by
 unfold zD Oj
 cases h:E.P.funcs[f]? with
 |none=>rfl
 |some fn=>
  simp only[]
  cases hb:fn.body with
  |none=>rfl
  |some c=>
   simp only[h,hb]
   have e:(spine c).drop i=((spine c).drop i).take k++(spine c).drop (i+k):=by rw[←List.drop_drop,List.take_append_drop]
   conv=>lhs; rw[e]
   rw[lq]
theorem Oz {E:Env} {n:Nat} {f:FuncId} {ts:List T} (hx:E.ext f=none) (hw:T.wfs ts=true):aB E (n+1) f ts=zD E n f 0 (qX E f (ts.map .t)):=by
 have e:aB E (n+1) f ts=kL E (aJ E n) n f (ts.map .t) [] (bU E f):=by
  unfold aB ny
  rw[hw,hx]
  rfl
 rw[e]
 unfold zD qX kL
 simp only[List.drop_zero]
 cases h:E.P.funcs[f]? with
 |none=>rfl
 |some fn=>
  simp only[]
  cases hb:fn.body with
  |none=>rfl
  |some c=>simp only[hb]; exact jC _ _ _ _ _ _ _ _ _
end
section
open Go.RowKit
section
variable {E:Env} {rc:Caller} {f:FuncId} {fn:Func} {n base:Nat}
def qJ (E:Env) (rc:Caller) (f:FuncId) (fn:Func) (base:Nat):List Code→St→(Ex→St→Prop)→Prop
 | [],st,Q=>Q .norm st
 |c::l,st,Q=>fG E rc f fn base c st fun e st=>e.kP (qJ E rc f fn base l st Q) (fun i=>Q (.exit i) st) (Q .ret st)
theorem dJ:∀ (c:Code) {st:St} {Q Q':Ex→St→Prop},(∀ e s,Q e s→Q' e s)→fG E rc f fn base c st Q→fG E rc f fn base c st Q'
 | .skip,st,Q,Q',hq,h=>hq _ _ h
 | .region id ops dr,st,Q,Q',hq,h=>by
  simp only[fG] at h ⊢
  rcases h with h|h
  rotate_left
  · exact .inr fun base F κ a w R hb rel hR=>h base F κ a w R hb rel fun st' F' κ' a' w' h1 r1 ev1=>hR st' F' κ' a' w' (hq _ _ h1) r1 ev1
  refine .inl ?_
  cases dr with
  |true=>
   simp only[cond_true] at h ⊢
   obtain⟨a,s,b,c⟩:=h
   exact⟨a,s,b,hq _ _ c⟩
  |false=>
   simp only[cond_false] at h ⊢
   have go:∀ (l:List Oper) {st:St},xE E rc ops l st (Q .norm)→xE E rc ops l st (Q' .norm):=by
    intro l
    induction l with
    |nil=>exact fun h=>hq _ _ h
    |cons o r ih=>
     intro st h
     simp only[xE] at h ⊢
     unfold stepD at h ⊢
     split at h
     · obtain⟨m,es,c,a1,a2,a3,a4⟩:=h
       exact⟨m,es,c,a1,a2,a3,ih a4⟩
     · obtain⟨l,m,since,seen,last,es,c,a1,a2,a3,a4,a5,a6,a7⟩:=h
       exact⟨l,m,since,seen,last,es,c,a1,a2,a3,a4,a5,fun h=>ih (a6 h),fun e he=>ih (a7 e he)⟩
     · obtain⟨l,m,since,seen,es,c,n,e,a1,a2,a3,a4,a5⟩:=h
       exact⟨l,m,since,seen,es,c,n,e,a1,a2,a3,a4,ih a5⟩
     · rcases h with ⟨l,e,k,xs,rs,R,a1,a2,a3,a4,a5⟩|⟨s,a1,a2⟩
       · exact .inl ⟨l,e,k,xs,rs,R,a1,a2,a3,a4,fun ys hR=>ih (a5 ys hR)⟩
       · exact .inr ⟨s,a1,ih a2⟩
     · obtain⟨s,a1,a2⟩:=h
       exact⟨s,a1,ih a2⟩
   exact go _ h
 | .seq a b,st,Q,Q',hq,h=>by
  simp only[fG] at h ⊢
  refine dJ a (fun e s h=>?_) h
  cases e with
  |norm=>exact dJ b hq h
  |exit i=>exact hq _ _ h
  |ret=>exact hq _ _ h
 | .cond c a b,st,Q,Q',hq,h=>by
  simp only[fG] at h ⊢
  obtain⟨v,e1,e2⟩:=h
  refine⟨v,e1,?_⟩
  cases v with
  |true=>exact dJ a hq e2
  |false=>exact dJ b hq e2
 | .block id c,st,Q,Q',hq,h=>by
  simp only[fG] at h ⊢
  refine dJ c (fun e s h=>?_) h
  cases e with
  |norm=>exact hq _ _ h
  |exit i=>
   simp only[Ex.kP] at h ⊢
   split
   · rename_i hi; rw[if_pos hi] at h; exact hq _ _ h
   · rename_i hi; rw[if_neg hi] at h; exact hq _ _ h
  |ret=>exact hq _ _ h
 | .loop c,st,Q,Q',hq,h=>by
  simp only[fG] at h ⊢
  obtain⟨I,h0,step⟩:=h
  refine⟨I,h0,fun k s hI=>dJ c (fun e s h=>?_) (step k s hI)⟩
  cases e with
  |norm=>exact h
  |exit i=>exact hq _ _ h
  |ret=>exact hq _ _ h
 | .exit id,st,Q,Q',hq,h=>hq _ _ h
 | .scope c,st,Q,Q',hq,h=>by
  simp only[fG] at h ⊢
  exact dJ c hq h
 | .label l,st,Q,Q',hq,h=>hq _ _ h
 | .ret,st,Q,Q',hq,h=>hq _ _ h
 | .rangeFunc ..,st,Q,Q',hq,h=>h
 | .goto ..,st,Q,Q',hq,h=>h
 | .refuse ..,st,Q,Q',hq,h=>h
theorem uM {Q:Ex→St→Prop} {e:Ex} {st:St} (h:e.kP (Q .norm st) (fun i=>Q (.exit i) st) (Q .ret st)):Q e st:=by cases e<;>exact h
theorem BU:∀ (l m:List Code) {st:St} {Q:Ex→St→Prop},qJ E rc f fn base (l++m) st Q→qJ E rc f fn base l st fun e st=>e.kP (qJ E rc f fn base m st Q) (fun i=>Q (.exit i) st) (Q .ret st)
 | [],m,st,Q,h=>h
 |c::l,m,st,Q,h=>by
  simp only[List.cons_append,qJ] at h ⊢
  refine dJ c (fun e s h=>?_) h
  cases e with
  |norm=>exact BU l m h
  |exit i=>exact h
  |ret=>exact h
theorem mQ:∀ (c:Code) {st:St} {Q:Ex→St→Prop},qJ E rc f fn base (spine c) st Q→fG E rc f fn base c st Q
 | .seq a b,st,Q,h=>by
  simp only[fG]
  rw[spine] at h
  refine dJ a (fun e s h=>?_) (mQ a (BU _ _ h))
  cases e with
  |norm=>exact mQ b h
  |exit i=>exact h
  |ret=>exact h
 | .scope c,st,Q,h=>by
  simp only[fG]
  exact mQ c h
 | .skip,st,Q,h=>dJ _ (fun e s h=>uM h) h
 | .region id ops dr,st,Q,h=>dJ (.region id ops dr) (fun e s h=>uM h) h
 | .cond c a b,st,Q,h=>dJ (.cond c a b) (fun e s h=>uM h) h
 | .block id c,st,Q,h=>dJ (.block id c) (fun e s h=>uM h) h
 | .loop c,st,Q,h=>dJ (.loop c) (fun e s h=>uM h) h
 | .exit id,st,Q,h=>dJ (.exit id) (fun e s h=>uM h) h
 | .label l,st,Q,h=>dJ (.label l) (fun e s h=>uM h) h
 | .ret,st,Q,h=>dJ .ret (fun e s h=>uM h) h
 | .rangeFunc ..,st,Q,h=>h
 | .goto ..,st,Q,h=>h
 | .refuse ..,st,Q,h=>h
theorem IW (hrc:rc.Nat):∀ (l m:List Code) {st st':St} {e:Ex} {Q:Ex→St→Prop},jy E rc f fn n base l st (fun e s=>(.ok (e,s):aj (Ex×St)))= .ok (e,st')→e.kP (qJ E rc f fn base m st' Q) (fun i=>Q (.exit i) st') (Q .ret st')→qJ E rc f fn base (l++m) st Q
 | [],m,st,st',e,Q,h,hQ=>by
  simp only[jy,aj.ok.injEq,Prod.mk.injEq] at h
  obtain⟨rfl,rfl⟩:=h
  exact hQ
 |c::l,m,st,st',e,Q,h,hQ=>by
  simp only[jy] at h
  simp only[List.cons_append,qJ]
  obtain⟨e1,s1,h1,h2⟩:=vw hrc h
  refine nG hrc c h1 ?_
  cases e1 with
  |norm=>exact IW hrc l m h2 hQ
  |exit i=>
   simp only[Ex.k,aj.ok.injEq,Prod.mk.injEq] at h2
   obtain⟨rfl,rfl⟩:=h2
   exact hQ
  |ret=>
   simp only[Ex.k,aj.ok.injEq,Prod.mk.injEq] at h2
   obtain⟨rfl,rfl⟩:=h2
   exact hQ
end
end
section
open Go.RowKit
def gK:Code→Code
 | .block _ (.loop c)=>c
 | .block _ c=>c
 | .loop c=>c
 |c=>c
def abJ:List Nat→Code→List Code
 | [],c=>spine c
 |i::p,c=>abJ p (gK ((spine c).getD i .skip))
def bodyC (E:Env) (f:FuncId):Code:=match E.P.funcs[f]? with
 |some fn=>fn.body.getD .skip
 |none=> .skip
def dG (E:Env) (f:FuncId):Func:=(E.P.funcs[f]?).getD default
def aG (E:Env) (f:FuncId) (p:List Nat):List Code:=abJ p (bodyC E f)
def abw:Code→Array Oper
 | .region _ ops _=>ops
 |_=> #[]
def Wl:Code→Bool
 | .region _ _ dr=>dr
 |_=>true
def gI (E:Env) (f:FuncId) (p:List Nat) (i:Nat):Array Oper:=abw ((aG E f p).getD i .skip)
section
variable (E:Env) (n:Nat) (f:FuncId) (p:List Nat)
def bF (i k:Nat) (st:St):aj (Ex×St):=jy E (aJ E n) f (dG E f) n 0 (((aG E f p).drop i).take k) st fun e s=> .ok (e,s)
def ahB (i j k:Nat) (st:St):aj St:=aQ E (aJ E n) (gI E f p i) ((((gI E f p i).toList.drop j).take k).map fun o=>(o,false)) st fun s=> .ok s
def lS (i:Nat):St→aj (Ex×St):=uD E (aJ E n) f (dG E f) n 0 (gK ((aG E f p).getD i .skip))
def eu (i:Nat):List Nat×List Nat:=E.hint f (aW (gK ((aG E f p).getD i .skip)))
def ah (i:Nat) (st:St) (Q:Ex→St→Prop):Prop:=qJ E (aJ E n) f (dG E f) 0 ((aG E f p).drop i) st Q
def DF (i j:Nat) (st:St) (Q:Ex→St→Prop):Prop:=xE E (aJ E n) (gI E f p i) ((gI E f p i).toList.drop j) st fun st=>ah E n f p (i+1) st Q
end
section
variable {E:Env} {n:Nat} {f:FuncId} {p:List Nat}
theorem eP {i:Nat} (k:Nat) {st st':St} {e:Ex} {Q:Ex→St→Prop} (h:bF E n f p i k st= .ok (e,st')) (hq:e.kP (ah E n f p (i+k) st' Q) (fun i=>Q (.exit i) st') (Q .ret st')):ah E n f p i st Q:=by
 unfold ah
 have e1:(aG E f p).drop i=((aG E f p).drop i).take k++(aG E f p).drop (i+k):=by rw[←List.drop_drop,List.take_append_drop]
 rw[e1]
 exact IW (dY E n) _ _ h hq
theorem lC {i:Nat} {st:St} {Q:Ex→St→Prop} (h:(aG E f p).length=i) (hq:Q .norm st):ah E n f p i st Q:=by
 unfold ah
 rw[List.drop_eq_nil_of_le (by omega)]
 exact hq
theorem drop_one {α:Type} {l:List α} {i:Nat} {c:α} (h:l[i]? =some c):l.drop i=c::l.drop (i+1):=by
 obtain⟨h1,h2⟩:=List.getElem?_eq_some_iff.1 h
 rw[←h2]; exact List.drop_eq_getElem_cons h1
theorem Q9 {i id:Nat} {ops:Array Oper} {st:St} {Q:Ex→St→Prop} (h:(aG E f p)[i]? =some (.region id ops false)) (hq:DF E n f p i 0 st Q):ah E n f p i st Q:=by
 unfold ah
 rw[drop_one h]
 simp only[qJ,fG,cond_false]
 refine .inl ?_
 have e:gI E f p i=ops:=by unfold gI; rw[List.getD_eq_getElem?_getD,h]; rfl
 unfold DF ah at hq
 rw[e,List.drop_zero] at hq
 exact hq
theorem Ba {i:Nat} {st:St} {Q:Ex→St→Prop} {c:Code} (h:(aG E f p)[i]? =some c) (hc:∃ id ops dr,c= .region id ops dr) (hq:gX E c st fun st=>ah E n f p (i+1) st Q):ah E n f p i st Q:=by
 obtain⟨id,ops,dr,rfl⟩:=hc
 unfold ah
 rw[drop_one h]
 simp only[qJ,fG]
 exact .inr hq
theorem U5 {c:Code} (h:Wl c=false):∃ id ops,c= .region id ops false:=by
 cases c with
 |region id ops dr=>simp only[Wl] at h; subst h; exact⟨id,ops,rfl⟩
 |_=>cases h
theorem Ig {i:Nat} {st:St} {Q:Ex→St→Prop} (h:Wl ((aG E f p).getD i .skip)=false) (hl:i < (aG E f p).length) (hq:DF E n f p i 0 st Q):ah E n f p i st Q:=by
 obtain⟨id,ops,e⟩:=U5 h
 refine Q9 (id:=id) (ops:=ops) ?_ hq
 rw[List.getD_eq_getElem?_getD,List.getElem?_eq_getElem hl] at e
 rw[List.getElem?_eq_getElem hl]
 simpa using e
theorem KF {i j:Nat} {o:Oper} {st:St} {Q:Ex→St→Prop} (h:(gI E f p i).toList[j]? =some o) (hq:stepD E (aJ E n) (gI E f p i) o st fun st=>DF E n f p i (j+1) st Q):DF E n f p i j st Q:=by
 unfold DF
 rw[drop_one h]
 exact hq
theorem uf {i id:Nat} {st X:St} {Q:Ex→St→Prop} {c:Code} (h:(aG E f p)[i]? =some (.block id (.loop c))) (hi:eF (lS E n f p i) n (canon 0 (eu E f p i).1 st)= .ok (.exit id,X)) (hq:ah E n f p (i+1) X Q):ah E n f p i st Q:=by
 refine eP 1 (e:= .norm) (st':=X) ?_ hq
 unfold bF
 rw[drop_one h]
 have e:gK ((aG E f p).getD i .skip)=c:=by rw[List.getD_eq_getElem?_getD,h]; rfl
 unfold lS eu at hi
 rw[e] at hi
 show bQ E (aJ E n) f (dG E f) n 0 (.block id (.loop c)) st _=_
 simp only[bQ]
 unfold uD at hi
 rw[hi]
 simp[Ex.k,jy]
theorem wo {i id:Nat} {st:St} {Q:Ex→St→Prop} {c:Code} (h:(aG E f p)[i]? =some (.block id (.loop c))) (hp:aG E f (p++ [i])=spine c) (I:Nat→St→Prop) {m:Nat} (h0:I m (canon 0 (eu E f p i).1 st))
 (step:∀ m st,I m st→ah E n f (p++ [i]) 0 st fun e st=>e.kP (∃ m',m' < m∧I m' (canon 0 (eu E f p i).1 st))
  (fun j=>if j=id then ah E n f p (i+1) (canon 0 (eu E f p i).2 st) Q else Q (.exit j) (canon 0 (eu E f p i).2 st)) (Q .ret (canon 0 (jT (dG E f)) st))):ah E n f p i st Q:=by
 have e:gK ((aG E f p).getD i .skip)=c:=by rw[List.getD_eq_getElem?_getD,h]; rfl
 unfold eu at h0 step
 rw[e] at h0 step
 unfold ah
 rw[drop_one h]
 simp only[qJ,fG]
 refine⟨I,⟨m,h0⟩,fun m st hI=>?_⟩
 have:=step m st hI
 unfold ah at this
 rw[hp,List.drop_zero] at this
 refine dJ c (fun e s hh=>?_) (mQ c this)
 cases e with
 |norm=>exact hh
 |exit j=>
  simp only[Ex.kP] at hh ⊢
  by_cases hj:j=id
  · rw[if_pos hj] at hh ⊢; exact hh
  · rw[if_neg hj] at hh ⊢; exact hh
 |ret=>exact hh
theorem mX {i id:Nat} {st:St} {Q:Ex→St→Prop} {c:Code} (h:(aG E f p)[i]? =some (.block id c)) (hp:aG E f (p++ [i])=spine c)
 (hq:ah E n f (p++ [i]) 0 st fun e st=>e.kP (ah E n f p (i+1) st Q) (fun j=>if j=id then ah E n f p (i+1) st Q else Q (.exit j) st) (Q .ret st)):ah E n f p i st Q:=by
 unfold ah at hq ⊢
 rw[hp,List.drop_zero] at hq
 rw[drop_one h]
 simp only[qJ,fG]
 refine dJ c (fun e s hh=>?_) (mQ c hq)
 cases e with
 |norm=>exact hh
 |exit j=>
  simp only[Ex.kP] at hh ⊢
  by_cases hj:j=id
  · rw[if_pos hj] at hh ⊢; exact hh
  · rw[if_neg hj] at hh ⊢; exact hh
 |ret=>exact hh
theorem Ez {args:List T} {R:PV→List au→Prop} (hf:∃ fn,E.P.funcs[f]? =some fn∧fn.body.isSome=true)
 (h:ah E n f [] 0 (qX E f (args.map .t)) fun e st=>e.kP (xq E (dG E f) R st) (fun _=>False) (xq E (dG E f) R st)):JD E (aJ E n) f (args.map .t) [] R:=by
 obtain⟨fn,h1,h2⟩:=hf
 obtain⟨c,h2⟩:=Option.isSome_iff_exists.1 h2
 have e1:dG E f=fn:=by unfold dG; rw[h1]; rfl
 have e2:bodyC E f=c:=by unfold bodyC; rw[h1]; simp[h2]
 unfold JD
 rw[h1]
 simp only[h2]
 unfold ah aG qX at h
 rw[e1,e2,h1] at h
 simp only[abJ,List.drop_zero] at h
 exact mQ c h
def TN (E:Env) (n:Nat) (f:FuncId) (p:List Nat) (i k:Nat) (r:aj (Ex×St)):aj (Ex×St):=r.bind fun q=>q.1.k (bF E n f p i k q.2) (fun j=> .ok (.exit j,q.2)) (.ok (.ret,q.2))
def Fz (E:Env) (f:FuncId) (p:List Nat) (i:Nat) (r:aj (Ex×St)):aj (Ex×St):=r.bind fun q=>q.1.k (.ok (.norm,canon 0 (eu E f p i).1 q.2)) (fun j=> .ok (.exit j,q.2)) (.ok (.ret,q.2))
theorem yS {i:Nat} {r:aj (Ex×St)} {s:St} (h:Fz E f p i r= .ok (.norm,s)):∃ st,r= .ok (.norm,st)∧canon 0 (eu E f p i).1 st=s:=by
 obtain⟨⟨e,st⟩,h1,h2⟩:=aY h
 cases e with
 |norm=>
  simp only[Ex.k,aj.ok.injEq,Prod.mk.injEq,true_and] at h2
  exact⟨st,h1,h2⟩
 |exit j=>simp[Ex.k] at h2
 |ret=>simp[Ex.k] at h2
theorem uF {i id:Nat} (k:Nat) {st s:St} {Q:Ex→St→Prop} {c:Code} (h:Fz E f p (i+k) (bF E n f p i k st)= .ok (.norm,s)) (hb:(aG E f p)[i+k]? =some (.block id (.loop c))) (hp:aG E f (p++ [i+k])=spine c) (I:Nat→St→Prop) {m:Nat} (h0:I m s)
 (step:∀ m st,I m st→ah E n f (p++ [i+k]) 0 st fun e st=>e.kP (∃ m',m' < m∧I m' (canon 0 (eu E f p (i+k)).1 st))
  (fun j=>if j=id then ah E n f p (i+k+1) (canon 0 (eu E f p (i+k)).2 st) Q else Q (.exit j) (canon 0 (eu E f p (i+k)).2 st)) (Q .ret (canon 0 (jT (dG E f)) st))):ah E n f p i st Q:=by
 obtain⟨st',h1,h2⟩:=yS h
 subst h2
 exact eP k h1 (wo hb hp I h0 step)
end
def aa3 (seen:List Nat):Option Nat:=seen.getLast?
def VH (es:List (T×T×Nat)) (n:Nat):Option (T×T×Nat):=es.find? fun x=>x.2.2==n
section
variable (E:Env) (n:Nat) (f:FuncId) (p:List Nat)
def TM (rc:Caller) (ops:Array Oper) (o:Oper) (st:St):aj St:=match o.guard,o.op with
 |none,.range t x=>aK (bf E.P st.tmps t x) fun p=>(match p with
  | .mp m=>(match st.heap[m]? with
   |some (.map es c)=>chk (CW E.P t).isSome (.ok ⟨bV st.tmps o.dst (.ptr st.heap.length 0),st.heap++ [.iter m c [] c]⟩)
   |_=> .stuck)
  |_=> .stuck)
 |none,.entry x=>aK (bf E.P st.tmps 0 x) fun p=>(match p with
  | .ptr l 0=>(match st.heap[l]? with
   |some (.iter m since seen last)=>(match st.heap[m]? with
    |some (.map es c)=>aK (aa3 seen) fun n=>aK (VH es n) fun e=>chk (Nat.beq last c) (.ok ⟨bV st.tmps o.dst (.t (.ak [e.1,e.2.1])),st.heap⟩)
    |_=> .stuck)
   |_=> .stuck)
  |_=> .stuck)
 |_,_=>aQ E rc ops [(o,false)] st fun s=> .ok s
def N9 (rc:Caller) (ops:Array Oper):List Oper→St→aj St
 | [],st=> .ok st
 |o::r,st=>(TM E rc ops o st).bind fun st=>N9 rc ops r st
def IL (c:Code) (st:St):aj (Ex×St):=match c with
 | .region _ ops false=>(N9 E (aJ E n) ops ops.toList st).bind fun s=> .ok (.norm,s)
 |c=>bQ E (aJ E n) f (dG E f) n 0 c st fun e s=> .ok (e,s)
def NW:List Code→St→aj (Ex×St)
 | [],st=> .ok (.norm,st)
 |c::l,st=>(IL E n f c st).bind fun q=>q.1.k (NW l q.2) (fun j=> .ok (.exit j,q.2)) (.ok (.ret,q.2))
def Wj (i k:Nat) (st:St):aj (Ex×St):=NW E n f (((aG E f p).drop i).take k) st
def abb (i j k:Nat) (st:St):aj (Ex×St):=(N9 E (aJ E n) (gI E f p i) ((gI E f p i).toList.drop j) st).bind fun st=>NW E n f (((aG E f p).drop (i+1)).take k) st
def agE (i k:Nat) (r:aj (Ex×St)):aj (Ex×St):=r.bind fun q=>q.1.k (Wj E n f p i k q.2) (fun j=> .ok (.exit j,q.2)) (.ok (.ret,q.2))
def exX (i:Nat) (r:aj (Ex×St)):aj (Ex×St):=r.bind fun q=>q.1.k .stuck (fun j=> .ok (.exit j,canon 0 (eu E f p i).2 q.2)) .stuck
end
section
variable {E:Env} {n:Nat} {f:FuncId} {p:List Nat}
theorem VE {rc:Caller} {ops:Array Oper} {o:Oper} {st st':St} {Q:St→Prop} (h:TM E rc ops o st= .ok st') (hQ:Q st'):stepD E rc ops o st Q:=by
 unfold TM at h
 split at h
 · rename_i t x hg ho
   obtain⟨dst,op,ty,ps,af,guard⟩:=o
   simp only at hg ho; subst hg; subst ho
   obtain⟨q,e1,e2⟩:=aA (by rw[h]; simp)
   rw[e2] at h
   cases q with
   |mp m=>
    cases hm:st.heap[m]? with
    |none=>simp[hm] at h
    |some ob=>
     cases ob with
     |map es c=>
      simp only[hm] at h
      obtain⟨h3,h4⟩:=cO (by rw[h]; simp)
      rw[h4] at h
      simp only[aj.ok.injEq] at h
      subst h
      exact⟨m,es,c,e1,hm,h3,hQ⟩
     |_=>simp[hm] at h
   |_=>cases h
 · rename_i x hg ho
   obtain⟨dst,op,ty,ps,af,guard⟩:=o
   simp only at hg ho; subst hg; subst ho
   obtain⟨q,e1,e2⟩:=aA (by rw[h]; simp)
   rw[e2] at h
   cases q with
   |ptr l ofs=>
    cases ofs with
    |succ k=>cases h
    |zero=>
    cases hm:st.heap[l]? with
    |none=>simp[hm] at h
    |some ob=>
     cases ob with
     |iter m since seen last=>
      simp only[hm] at h
      cases hm2:st.heap[m]? with
      |none=>simp[hm2] at h
      |some ob2=>
       cases ob2 with
       |map es c=>
        simp only[hm2] at h
        obtain⟨k,e3,e4⟩:=aA (by rw[h]; simp)
        rw[e4] at h
        obtain⟨e,e5,e6⟩:=aA (by rw[h]; simp)
        rw[e6] at h
        obtain⟨h3,h4⟩:=cO (by rw[h]; simp)
        rw[h4] at h
        simp only[aj.ok.injEq] at h
        subst h
        have hc:=Nat.eq_of_beq_eq_true h3
        subst hc
        obtain⟨s0,hs0⟩:∃ s0,seen=s0++ [k]:=by
         unfold aa3 at e3
         exact List.getLast?_eq_some_iff.1 e3
        subst hs0
        exact⟨l,m,since,s0,es,last,k,e,e1,hm,hm2,e5,hQ⟩
       |_=>simp[hm2] at h
     |_=>simp[hm] at h
   |_=>cases h
 · exact zy h hQ
theorem IV {rc:Caller} {ops:Array Oper}:∀ {l:List Oper} {st st':St} {Q:St→Prop},N9 E rc ops l st= .ok st'→Q st'→xE E rc ops l st Q
 | [],st,st',Q,h,hQ=>by
  simp only[N9,aj.ok.injEq] at h
  subst h; exact hQ
 |o::r,st,st',Q,h,hQ=>by
  simp only[N9] at h
  obtain⟨s1,h1,h2⟩:=aY h
  exact VE h1 (IV h2 hQ)
theorem O1:∀ {c:Code} {st st':St} {e:Ex} {Q:Ex→St→Prop},IL E n f c st= .ok (e,st')→Q e st'→fG E (aJ E n) f (dG E f) 0 c st Q:=by
 intro c st st' e Q h hQ
 unfold IL at h
 split at h
 · obtain⟨s1,h1,h2⟩:=aY h
   simp only[aj.ok.injEq,Prod.mk.injEq] at h2
   obtain⟨rfl,rfl⟩:=h2
   simp only[fG,cond_false]
   exact .inl (IV h1 hQ)
 · exact nG (dY E n) _ h hQ
theorem Qd:∀ {l m:List Code} {st st':St} {e:Ex} {Q:Ex→St→Prop},NW E n f l st= .ok (e,st')→e.kP (qJ E (aJ E n) f (dG E f) 0 m st' Q) (fun i=>Q (.exit i) st') (Q .ret st')→qJ E (aJ E n) f (dG E f) 0 (l++m) st Q
 | [],m,st,st',e,Q,h,hQ=>by
  simp only[NW,aj.ok.injEq,Prod.mk.injEq] at h
  obtain⟨rfl,rfl⟩:=h
  exact hQ
 |c::l,m,st,st',e,Q,h,hQ=>by
  simp only[NW] at h
  obtain⟨⟨e1,s1⟩,h1,h2⟩:=aY h
  simp only[List.cons_append,qJ]
  refine O1 h1 ?_
  cases e1 with
  |norm=>exact Qd h2 hQ
  |exit i=>
   simp only[Ex.k,aj.ok.injEq,Prod.mk.injEq] at h2
   obtain⟨rfl,rfl⟩:=h2
   exact hQ
  |ret=>
   simp only[Ex.k,aj.ok.injEq,Prod.mk.injEq] at h2
   obtain⟨rfl,rfl⟩:=h2
   exact hQ
theorem Qe {i:Nat} (k:Nat) {st st':St} {e:Ex} {Q:Ex→St→Prop} (h:Wj E n f p i k st= .ok (e,st')) (hq:e.kP (ah E n f p (i+k) st' Q) (fun i=>Q (.exit i) st') (Q .ret st')):ah E n f p i st Q:=by
 unfold ah
 have e1:(aG E f p).drop i=((aG E f p).drop i).take k++(aG E f p).drop (i+k):=by rw[←List.drop_drop,List.take_append_drop]
 rw[e1]
 exact Qd h hq
theorem agv {i j:Nat} (k:Nat) {st st':St} {e:Ex} {Q:Ex→St→Prop} (h:abb E n f p i j k st= .ok (e,st')) (hq:e.kP (ah E n f p (i+1+k) st' Q) (fun i=>Q (.exit i) st') (Q .ret st')):DF E n f p i j st Q:=by
 obtain⟨s1,h1,h2⟩:=aY h
 unfold DF
 refine IV h1 ?_
 exact Qe (p:=p) (i:=i+1) k h2 hq
theorem step_next {rc:Caller} {ops:Array Oper} {o:Oper} {x:Operand} {st:St} {Q:St→Prop} {l m since last c:Nat} {seen:List Nat} {es:List (T×T×Nat)} (hg:o.guard=none) (ho:o.op= .next x false) (h1:bf E.P st.tmps 0 x=some (.ptr l 0)) (h2:st.heap[l]? =some (.iter m since seen last)) (h3:st.heap[m]? =some (.map es c))
 (hs:∀ e∈es,e.2.2 < since) (hl:seen= []∨es= []∨∃ e∈es,e.2.2 < last) (hf:vM seen es= []→Q ⟨bV st.tmps o.dst (.t (.ak [.bool false])),st.heap⟩)
 (ht:∀ e∈vM seen es,Q ⟨bV st.tmps o.dst (.t (.ak [.bool true,e.1,e.2.1])),st.heap.set l (.iter m since (seen++ [e.2.2]) c)⟩):stepD E rc ops o st Q:=by
 obtain⟨dst,op,ty,ps,af,guard⟩:=o
 simp only at hg ho; subst hg; subst ho
 exact⟨l,m,since,seen,last,es,c,h1,h2,h3,hs,hl,hf,ht⟩
end
end
section
open Go.RowKit
section
variable {β γ:Type} {E:Env} {rc:Caller} {f:FuncId} {fn:Func} {n base:Nat}
theorem oG (hrc:rc.Nat) {g:aj β→aj γ} (hg:Strict g):∀ (l:List Code) (st:St) (K:Ex→St→aj β),g (jy E rc f fn n base l st K)=jy E rc f fn n base l st fun e s=>g (K e s)
 | [],st,K=>rfl
 |c::l,st,K=>by
  simp only[jy]
  rw[jv hrc c hg]
  congr 1
  funext e s
  cases e with
  |norm=>exact oG hrc hg l s K
  |exit i=>rfl
  |ret=>rfl
end
def zX {β:Type} (E:Env) (n:Nat) (f:FuncId) (p:List Nat) (i j k:Nat) (st:St) (K:Ex→St→aj β):aj β:=aQ E (aJ E n) (gI E f p i) (((gI E f p i).toList.drop j).map fun o=>(o,false)) st fun s=>jy E (aJ E n) f (dG E f) n 0 (((aG E f p).drop (i+1)).take k) s K
def mJ {β:Type} (E:Env) (n:Nat) (f:FuncId) (p:List Nat) (i k:Nat) (st:St) (K:Ex→St→aj β):aj β:=jy E (aJ E n) f (dG E f) n 0 (((aG E f p).drop i).take k) st K
def yR (E:Env) (f:FuncId) (p:List Nat) (i:Nat):Ex→St→aj (Ex×St):=fun e s=>e.k (.ok (.norm,canon 0 (eu E f p i).1 s)) (fun j=> .ok (.exit j,s)) (.ok (.ret,s))
section
variable {E:Env} {n:Nat} {f:FuncId} {p:List Nat}
theorem agu {i j k:Nat} {st st':St} {Q:Ex→St→Prop} (h:zX E n f p i j k st (fun e s=>(.ok (e,s):aj (Ex×St)))= .ok (.norm,st')) (hq:ah E n f p (i+1+k) st' Q):DF E n f p i j st Q:=by
 unfold zX at h
 have e:(aQ E (aJ E n) (gI E f p i) (((gI E f p i).toList.drop j).map fun o=>(o,false)) st fun s=>jy E (aJ E n) f (dG E f) n 0 (((aG E f p).drop (i+1)).take k) s fun e s=>(.ok (e,s):aj (Ex×St)))=(aQ E (aJ E n) (gI E f p i) (((gI E f p i).toList.drop j).map fun o=>(o,false)) st fun s=>(.ok s:aj St)).bind fun s=>jy E (aJ E n) f (dG E f) n 0 (((aG E f p).drop (i+1)).take k) s fun e s=> .ok (e,s):=by
  rw[kW (Strict.bind fun s:St=>jy E (aJ E n) f (dG E f) n 0 (((aG E f p).drop (i+1)).take k) s fun e s=>(.ok (e,s):aj (Ex×St))) (dY E n)]
  rfl
 rw[e] at h
 obtain⟨s1,h1,h2⟩:=aY h
 unfold DF
 exact CY (dY E n) h1 (eP (e:= .norm) k h2 hq)
theorem O9 {rc:Caller} {ops:Array Oper} {o:Oper} {x:Operand} {st:St} {Q:St→Prop} {l m since c n:Nat} {seen:List Nat} {es:List (T×T×Nat)} {e:T×T×Nat} (hg:o.guard=none) (ho:o.op= .entry x) (h1:bf E.P st.tmps 0 x=some (.ptr l 0)) (h2:st.heap[l]? =some (.iter m since (seen++ [n]) c)) (h3:st.heap[m]? =some (.map es c))
 (h4:VH es n=some e) (hq:Q ⟨bV st.tmps o.dst (.t (.ak [e.1,e.2.1])),st.heap⟩):stepD E rc ops o st Q:=by
 obtain⟨dst,op,ty,ps,af,guard⟩:=o
 simp only at hg ho; subst hg; subst ho
 exact⟨l,m,since,seen,es,c,n,e,h1,h2,h3,h4,hq⟩
end
end
end Go.aO
