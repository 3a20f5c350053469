/- The texts of a proof, one behind the other: an interpreter and its soundness, what the functions of the program answer, and plain laws on that. -/
import Derived.Test.YtjlpnhpfbgbkhaaGreatK8
set_option linter.unusedVariables false
set_option linter.unusedSimpArgs false
set_option linter.unnecessarySimpa false
set_option linter.unusedSectionVars false
set_option maxRecDepth 100000
namespace Go.aT
section
open Go.RowKit
def Le {β:Type} (a b:ah β):Prop:=a≠ .stuck→b=a
theorem Le.refl {β:Type} (a:ah β):Le a a:=fun _=>rfl
theorem Le.trans {β:Type} {a b c:ah β} (h:Le a b) (h':Le b c):Le a c:=fun ha=>by
 have e:=h ha
 rw[←e]; exact h' (by rw[e]; exact ha)
theorem Le.bind {α β:Type} {r:ah α} {K K':α→ah β} (h:∀ x,Le (K x) (K' x)):Le (r.bind K) (r.bind K'):=by
 cases r with
 |ok a=>exact h a
 |_=>exact Le.refl _
theorem Le.Iq {α β:Type} {r r':ah α} {K K':α→ah β} (h0:Le r r') (h:∀ x,Le (K x) (K' x)):Le (r.bind K) (r'.bind K'):=by
 cases r with
 |stuck=>intro hh; exact absurd rfl hh
 |ok a=>rw[h0 (by simp)]; exact h a
 |absurd=>rw[h0 (by simp)]; exact Le.refl _
section
variable {E:Env} {p:FuncId→List T→ah T} {g g':(β:Type)→FuncId→List PV→List aj→(PV→List aj→ah β)→ah β}
variable (hg:∀ β f args H K,Le (g β f args H K) (g' β f args H K)) (hn:(⟨p,g'⟩:Caller).Nat)
include hg hn
theorem Uh {β:Type} (dr:Bool) (f:FuncId) (args:List PV) (st:St) (K:PV→St→ah β):Le (mD E ⟨p,g⟩ dr f args st K) (mD E ⟨p,g'⟩ dr f args st K):=by
 unfold mD
 split
 · exact Le.refl _
 · split
   · exact Le.refl _
   · cases (dr||(E.ext f).isSome) with
     |true=>exact Le.refl _
     |false=>exact hg _ _ _ _ _
theorem amN {β:Type} (dr:Bool) (o:Oper) (st:St) {K K':PV→St→ah β} (hK:∀ q s,Le (K q s) (K' q s)):Le (kY E ⟨p,g⟩ dr o st K) (kY E ⟨p,g'⟩ dr o st K'):=by
 have h2:Le (kY E ⟨p,g'⟩ dr o st K) (kY E ⟨p,g'⟩ dr o st K'):=by
  have e:∀ K:PV→St→ah β,kY E ⟨p,g'⟩ dr o st K=(kY E ⟨p,g'⟩ dr o st fun q s=>(.ok (q,s):ah (PV×St))).bind fun x=>K x.1 x.2:=fun K=>by
   rw[DV (E:=E) (Strict.bind (β:=PV×St) fun x=>K x.1 x.2) hn dr o fun q s=> .ok (q,s)]
   rfl
  rw[e K,e K']
  exact Le.bind fun x=>hK _ _
 refine Le.trans ?_ h2
 obtain⟨dst,op,type,pos,after,guard⟩:=o
 cases op<;>try exact Le.refl _
 case call c=>
  simp only[kY]
  split
  · exact Le.refl _
  · rename_i f _
    cases jF E.P st.tmps (fun i=>c.argTypes.getD i 0) 0 c.args.toList with
    |none=>exact Le.refl _
    |some args=>exact Uh hg hn _ _ _ _ _
  · rename_i fo _ _
    cases bV E.P st.tmps 0 fo with
    |none=>exact Le.refl _
    |some q=>
     cases jF E.P st.tmps (fun i=>c.argTypes.getD i 0) 0 c.args.toList with
     |none=>exact Le.refl _
     |some args=>
      simp only[aS]
      cases q<;>first|exact Le.refl _|exact Uh hg hn _ _ _ _ _
  · exact Le.refl _
theorem IY {β:Type} (ops:Array Oper):∀ (l:List (Oper×Bool)) (st:St) {K K':St→ah β},(∀ s,Le (K s) (K' s))→Le (bn E ⟨p,g⟩ ops l st K) (bn E ⟨p,g'⟩ ops l st K')
 | [],st,K,K',hK=>hK st
 |(o,dr)::r,st,K,K',hK=>by
  rw[dN,dN]
  cases guardOf ops st.tmps o with
  |none=>exact Le.refl _
  |some b=>
   cases b with
   |true=>exact amN hg hn dr o st fun q s=>IY ops r _ hK
   |false=>exact IY ops r _ hK
omit hg hn in
theorem JM {B B':St→ah (Ex×St)} (h:∀ s,Le (B s) (B' s)):∀ (n:Nat) (s:St),Le (bF B n s) (bF B' n s)
 |0,s=>Le.refl _
 |n+1,s=>by
  simp only[bF]
  refine Le.Iq (h s) fun x=>?_
  obtain⟨e,s'⟩:=x
  cases e with
  |norm=>exact JM h n s'
  |_=>exact Le.refl _
variable (f:FuncId) (fn:Func) (n base:Nat)
theorem oU:∀ (c:Code) {β:Type} (st:St) {K K':Ex→St→ah β},(∀ e s,Le (K e s) (K' e s))→Le (dA E ⟨p,g⟩ f fn n base c st K) (dA E ⟨p,g'⟩ f fn n base c st K')
 | .skip,β,st,K,K',hK=>hK _ _
 | .region id ops dr,β,st,K,K',hK=>by
  simp only[dA]
  cases dr with
  |true=>
   cases sJ ops with
   |true=>exact IY hg hn ops _ st fun s=>hK _ _
   |false=>exact Le.refl _
  |false=>exact IY hg hn ops _ st fun s=>hK _ _
 | .seq a b,β,st,K,K',hK=>by
  simp only[dA]
  refine oU a st fun e s=>?_
  cases e with
  |norm=>exact oU b s hK
  |_=>exact hK _ _
 | .cond c a b,β,st,K,K',hK=>by
  simp only[dA]
  cases bV E.P st.tmps 0 c with
  |none=>exact Le.refl _
  |some q=>
   simp only[aS]
   cases q with
   |t x=>
    cases x with
    |bool v=>cases v with
     |true=>exact oU a st hK
     |false=>exact oU b st hK
    |_=>exact Le.refl _
   |_=>exact Le.refl _
 | .block id c,β,st,K,K',hK=>by
  simp only[dA]
  refine oU c st fun e s=>?_
  cases e with
  |exit i=>
   simp only[Ex.k]
   split
   · exact hK _ _
   · exact hK _ _
  |_=>exact hK _ _
 | .loop c,β,st,K,K',hK=>by
  simp only[dA]
  refine Le.Iq (JM (fun s=>oU c s fun e s=>Le.refl _) n _) fun x=>hK _ _
 | .exit id,β,st,K,K',hK=>hK _ _
 | .scope c,β,st,K,K',hK=>oU c st hK
 | .label _,β,st,K,K',hK=>hK _ _
 | .ret,β,st,K,K',hK=>hK _ _
 | .rangeFunc ..,β,st,K,K',hK=>Le.refl _
 | .goto ..,β,st,K,K',hK=>Le.refl _
 | .refuse ..,β,st,K,K',hK=>Le.refl _
theorem aaw {β:Type} (args:List PV) (H:List aj) (K:PV→List aj→ah β):Le (fU E ⟨p,g⟩ n f args H K) (fU E ⟨p,g'⟩ n f args H K):=by
 unfold fU
 split
 · exact Le.refl _
 · split
   · exact Le.refl _
   · exact oU hg hn f _ n _ _ _ fun e s=>Le.refl _
end
structure Pin where
 f:FuncId
 args:List PV
 H:List aj
 r:PV
 H':List aj
open Classical in
noncomputable def iU {β:Type} (p:Prop) (r:ah β):ah β:=if p then r else .stuck
theorem l7 {β:Type} {p:Prop} {r:ah β} (h:p):iU p r=r:=if_pos h
theorem bH {β:Type} {a:List PV} {b:List aj} {r:ah β}:iU (a=a∧b=b) r=r:=if_pos ⟨rfl,rfl⟩
noncomputable def goP:List Pin→(β:Type)→FuncId→List PV→List aj→(PV→List aj→ah β)→ah β
 | [],_,_,_,_,_=> .stuck
 |p::ps,β,f,args,H,K=>bif Nat.beq p.f f then iU (args=p.args∧H=p.H) (K p.r p.H') else goP ps β f args H K
def jc (E:Env) (N:Nat) (p:Pin):Prop:=∀ (β:Type) (K:PV→List aj→ah β),runK E N β p.f p.args p.H K=K p.r p.H'
def oO (E:Env) (N:Nat):List Pin→Prop
 | []=>True
 |p::ps=>jc E N p∧oO E N ps
theorem Ji {E:Env} {N:Nat}:∀ {ps:List Pin},oO E N ps→∀ (β:Type) (f:FuncId) (args:List PV) (H:List aj) (K:PV→List aj→ah β),Le (goP ps β f args H K) (runK E N β f args H K)
 | [],_,β,f,args,H,K=>fun h=>absurd rfl h
 |p::ps,h,β,f,args,H,K=>by
  unfold goP
  cases hf:Nat.beq p.f f with
  |false=>exact Ji h.2 β f args H K
  |true=>
   obtain rfl:=Nat.eq_of_beq_eq_true hf
   simp only[cond_true]
   intro hne
   unfold iU at hne ⊢
   split
   · rename_i hp
     rw[hp.1,hp.2]; exact h.1 β K
   · rename_i hp; rw[if_neg hp] at hne; exact absurd rfl hne
noncomputable def bI (E:Env) (N:Nat) (ps:List Pin):Caller:=⟨ak E N,goP ps⟩
theorem fH (E:Env):∀ n,(aJ E n).Nat
 |0=>fun β γ g hg f args H K=>hg.stuck
 |n+1=>fun β γ g hg f args H K=>JW (fH E n) hg args H K
def FB {β:Type} (E:Env) (rc:Caller) (n:Nat) (f:FuncId) (base r:Nat) (K:PV→List aj→ah β):Ex→St→ah β:=match E.P.funcs[f]? with
 |some fn=>(match fn.body with
  |some c=>(match mV r c with
   |some (_,fs)=>qG E rc f fn n base fs (Fg E fn K)
   |none=>fun _ _=> .stuck)
  |none=>fun _ _=> .stuck)
 |none=>fun _ _=> .stuck
def uD (E:Env) (rc:Caller) (n:Nat) (f:FuncId) (base r:Nat):St→ah (Ex×St):=match E.P.funcs[f]? with
 |some fn=>(match fn.body with
  |some c=>(match mV r c with
   |some (c',_)=>zo E rc f fn n base c'
   |none=>fun _=> .stuck)
  |none=>fun _=> .stuck)
 |none=>fun _=> .stuck
section
variable {E:Env} {N:Nat} {ps:List Pin} (hs:oO E N ps)
include hs
theorem lQ {f:FuncId} {ts:List T} {x:T} (hw:T.wfs ts=true) (hx:E.ext f=none) (h:fU E (bI E N ps) N f (ts.map .t) [] (aW E f)= .ok x):ak E (N+1) f ts= .ok x:=by
 have:=aaw (E:=E) (p:=ak E N) (Ji hs) (fH E N) f N (ts.map .t) [] (aW E f) (by
  show fU E (bI E N ps) N f (ts.map .t) [] (aW E f)≠ .stuck
  rw[h]; simp)
 unfold ak jY
 rw[hw,hx]
 simp only[cond_true]
 exact this.trans h
theorem kC {f:FuncId} {args:List PV} {H:List aj} {r:PV} {H':List aj} (h:fU E (bI E N ps) N f args H (fun r H'=>(.ok (r,H'):ah (PV×List aj)))= .ok (r,H')):jc E (N+1) ⟨f,args,H,r,H'⟩:=fun β K=>by
 have:=aaw (E:=E) (p:=ak E N) (Ji hs) (fH E N) f N args H (fun r H'=>(.ok (r,H'):ah (PV×List aj))) (by
  show fU E (bI E N ps) N f args H (fun r H'=>(.ok (r,H'):ah (PV×List aj)))≠ .stuck
  rw[h]; simp)
 have h2:fU E (aJ E N) N f args H (fun r H'=>(.ok (r,H'):ah (PV×List aj)))= .ok (r,H'):=this.trans h
 have h3:=JW (E:=E) (f:=f) (n:=N) (fH E N) (Strict.bind (β:=PV×List aj) fun x=>K x.1 x.2) args H fun r H'=>(.ok (r,H'):ah (PV×List aj))
 simp only[h2,ah.bind_ok] at h3
 exact h3.symm
end
section
variable {β:Type} (E:Env) (rc:Caller) (n:Nat) (f:FuncId) (base:Nat)
def cu (r:Nat):St→ah (Ex×St):=match E.P.funcs[f]? with
 |some fn=>(match fn.body with
  |some c=>(match mV r c with
   |some (c',_)=>zo E rc f fn n base c'
   |none=>fun _=> .stuck)
  |none=>fun _=> .stuck)
 |none=>fun _=> .stuck
def qX (r:Nat) (K:PV→List aj→ah β):Ex→St→ah β:=match E.P.funcs[f]? with
 |some fn=>(match fn.body with
  |some c=>(match mV r c with
   |some (_,fs)=>qG E rc f fn n base fs (Fg E fn K)
   |none=>fun _ _=> .stuck)
  |none=>fun _ _=> .stuck)
 |none=>fun _ _=> .stuck
def alr (r q:Nat):St→ah (Ex×St):=match E.P.funcs[f]? with
 |some fn=>(match fn.body with
  |some c=>(match mV r c with
   |some (c1,_)=>(match mV q c1 with
    |some (c2,_)=>zo E rc f fn n base c2
    |none=>fun _=> .stuck)
   |none=>fun _=> .stuck)
  |none=>fun _=> .stuck)
 |none=>fun _=> .stuck
def am8 (r q:Nat):Ex→St→ah (Ex×St):=match E.P.funcs[f]? with
 |some fn=>(match fn.body with
  |some c=>(match mV r c with
   |some (c1,_)=>(match mV q c1 with
    |some (_,fs)=>qG E rc f fn n base fs fun e st=>e.k (.ok (.norm,canon base (E.hint f (bG c1)).1 st))
     (fun i=> .ok (.exit i,canon base (E.hint f (bG c1)).2 st)) (.ok (.ret,canon base (lD fn) st))
    |none=>fun _ _=> .stuck)
   |none=>fun _ _=> .stuck)
  |none=>fun _ _=> .stuck)
 |none=>fun _ _=> .stuck
def um (r:Nat) (K:PV→List aj→ah β) (st:St):ah β:=(bF (cu E rc n f base r) n st).bind fun p=>qX E rc n f base r K p.1 p.2
def aud (r q:Nat) (st:St):ah (Ex×St):=(bF (alr E rc n f base r q) n st).bind fun p=>am8 E rc n f base r q p.1 p.2
end
theorem jD {β:Type} {E:Env} {rc:Caller} {n:Nat} {f:FuncId} {base r:Nat} {K:PV→List aj→ah β} {s s':St} {e:Ex} (h:bF (cu E rc n f base r) n s= .ok (e,s')):um E rc n f base r K s=qX E rc n f base r K e s':=by
 unfold um; rw[h]; rfl
theorem aQ {E:Env} {n:Nat} {f:FuncId} {r:Nat} {s s':St} {e:Ex} (h:bF (aF E n f 0 r) n s= .ok (e,s')):bC E n f r s=aP E n f 0 r (aW E f) e s':=by
 unfold bC; rw[h]; rfl
end
section
open Go.RowKit
theorem vH {α:Type} {B:St→ah (Ex×St)} {S:Nat→St} {R X:St} {id:Nat} (q:α→Bool) (l:List α) {n:Nat} (hn:l.length < n)
 (h:∀ j x,l[j]? =some x→B (S j)=bif q x then .ok (.ret,R) else .ok (.norm,S (j+1))) (hx:B (S l.length)= .ok (.exit id,X)):
 bF B n (S 0)=bif l.any q then .ok (.ret,R) else .ok (.exit id,X):=by
 have main:∀ (r p:List α) (n:Nat),l=p++r→r.length < n→bF B n (S p.length)=bif r.any q then .ok (.ret,R) else .ok (.exit id,X):=by
  intro r
  induction r with
  |nil=>
   intro p n hp hn
   obtain⟨n,rfl⟩:∃ m,n=m+1:=⟨n - 1,by omega⟩
   have:p.length=l.length:=by rw[hp]; simp
   rw[this,dV hx]; rfl
  |cons x r ih=>
   intro p n hp hn
   obtain⟨n,rfl⟩:∃ m,n=m+1:=⟨n - 1,by omega⟩
   have hs:=h p.length x (by rw[hp]; simp)
   rw[List.any_cons]
   cases hq:q x with
   |true=>rw[hq,cond_true] at hs; rw[dR hs]; rfl
   |false=>
    rw[hq,cond_false] at hs
    have:=ih (p++ [x]) n (by rw[hp]; simp) (by simp at hn; omega)
    rw[List.length_append] at this
    rw[bf hs]; exact this
 exact main l [] n rfl hn
theorem lT {α β:Type} {B:St→ah (Ex×St)} {S:β→Nat→St} {X:β→St} {id:Nat} (I:β→Nat→Prop) (f:β→α→β) (l:List α) {n:Nat} (b:β) (hn:l.length < n)
 (h:∀ b j x,l[j]? =some x→I b j→B (S b j)= .ok (.norm,S (f b x) (j+1))∧I (f b x) (j+1)) (hx:∀ b,I b l.length→B (S b l.length)= .ok (.exit id,X b)) (hb:I b 0):
 bF B n (S b 0)= .ok (.exit id,X (l.foldl f b))∧I (l.foldl f b) l.length:=by
 have main:∀ (r p:List α) (n:Nat) (b:β),l=p++r→r.length < n→I b p.length→bF B n (S b p.length)= .ok (.exit id,X (r.foldl f b))∧I (r.foldl f b) l.length:=by
  intro r
  induction r with
  |nil=>
   intro p n b hp hn hI
   obtain⟨n,rfl⟩:∃ m,n=m+1:=⟨n - 1,by omega⟩
   have:p.length=l.length:=by rw[hp]; simp
   rw[this] at hI ⊢
   exact⟨dV (hx b hI),hI⟩
  |cons x r ih=>
   intro p n b hp hn hI
   obtain⟨n,rfl⟩:∃ m,n=m+1:=⟨n - 1,by omega⟩
   obtain⟨hs,hI'⟩:=h b p.length x (by rw[hp]; simp) hI
   have hlen:(p++ [x]).length=p.length+1:=by simp
   have:=ih (p++ [x]) n (f b x) (by rw[hp]; simp) (by simp at hn; omega) (by rw[hlen]; exact hI')
   rw[hlen] at this
   rw[bf hs]; exact this
 exact main l [] n b rfl hn hb
def YE {α β γ:Type} (f:β→α→β ⊕ γ):List α→β→β ⊕ γ
 | [],b=> .inl b
 |x::r,b=>match f b x with
  | .inl b=>YE f r b
  | .inr c=> .inr c
end
section
open Go.RowKit
def spine:Code→List Code
 | .seq a b=>spine a++spine b
 | .scope c=>spine c
 |c=>[c]
section
variable {β:Type} (E:Env) (rc:Caller) (f:FuncId) (fn:Func) (n base:Nat)
def kV:List Code→St→(Ex→St→ah β)→ah β
 | [],st,K=>K .norm st
 |c::l,st,K=>dA E rc f fn n base c st fun e st=>e.k (kV l st K) (fun i=>K (.exit i) st) (K .ret st)
theorem oG:∀ (l m:List Code) (st:St) (K:Ex→St→ah β),kV E rc f fn n base (l++m) st K=kV E rc f fn n base l st fun e st=>e.k (kV E rc f fn n base m st K) (fun i=>K (.exit i) st) (K .ret st)
 | [],m,st,K=>rfl
 |c::l,m,st,K=>by
  simp only[List.cons_append,kV]
  congr 1
  funext e s
  cases e with
  |norm=>exact oG l m s K
  |_=>rfl
theorem alJ (K:Ex→St→ah β):(fun e st=>Ex.k e (K .norm st) (fun i=>K (.exit i) st) (K .ret st))=K:=by
 funext e st
 cases e<;>rfl
theorem lS (c:Code) (st:St) (K:Ex→St→ah β):kV E rc f fn n base [c] st K=dA E rc f fn n base c st K:=by
 show dA E rc f fn n base c st (fun e st=>e.k (K .norm st) (fun i=>K (.exit i) st) (K .ret st))=_
 rw[alJ]
theorem kZ:∀ (c:Code) (st:St) (K:Ex→St→ah β),dA E rc f fn n base c st K=kV E rc f fn n base (spine c) st K
 | .seq a b,st,K=>by
  show dA E rc f fn n base a st (fun e st=>e.k (dA E rc f fn n base b st K) (fun i=>K (.exit i) st) (K .ret st))=_
  rw[spine,oG,kZ a]
  congr 1
  funext e s
  cases e with
  |norm=>exact kZ b s K
  |_=>rfl
 | .scope c,st,K=>kZ c st K
 | .skip,st,K=>(lS _ _ _ _ _ _ _ _ _).symm
 | .region _ _ _,st,K=>(lS _ _ _ _ _ _ _ _ _).symm
 | .cond _ _ _,st,K=>(lS _ _ _ _ _ _ _ _ _).symm
 | .block _ _,st,K=>(lS _ _ _ _ _ _ _ _ _).symm
 | .loop _,st,K=>(lS _ _ _ _ _ _ _ _ _).symm
 | .exit _,st,K=>(lS _ _ _ _ _ _ _ _ _).symm
 | .label _,st,K=>(lS _ _ _ _ _ _ _ _ _).symm
 | .ret,st,K=>(lS _ _ _ _ _ _ _ _ _).symm
 | .rangeFunc ..,st,K=>(lS _ _ _ _ _ _ _ _ _).symm
 | .goto ..,st,K=>(lS _ _ _ _ _ _ _ _ _).symm
 | .refuse ..,st,K=>(lS _ _ _ _ _ _ _ _ _).symm
end
def oq (E:Env) (f:FuncId) (args:List PV):St:=match E.P.funcs[f]? with
 |some fn=>⟨args++List.replicate (fn.ntmps - args.length) dY,[]⟩
 |none=>⟨[],[]⟩
def y9 (E:Env) (n:Nat) (f:FuncId) (i:Nat) (st:St):ah T:=match E.P.funcs[f]? with
 |some fn=>(match fn.body with
  |some c=>kV E (aJ E n) f fn n 0 ((spine c).drop i) st (Fg E fn (aW E f))
  |none=> .stuck)
 |none=> .stuck
def Nk (E:Env) (n:Nat) (f:FuncId) (i k:Nat) (st:St) (Kc:St→ah T):ah T:=match E.P.funcs[f]? with
 |some fn=>(match fn.body with
  |some c=>kV E (aJ E n) f fn n 0 (((spine c).drop i).take k) st fun e st=>e.k (Kc st) (fun i=>Fg E fn (aW E f) (.exit i) st) (Fg E fn (aW E f) .ret st)
  |none=> .stuck)
 |none=> .stuck
theorem FT {E:Env} {n:Nat} {f:FuncId} {i:Nat} {st:St} (k:Nat):y9 E n f i st=Nk E n f i k st (y9 E n f (i+k)):=by
 unfold y9 Nk
 cases h:E.P.funcs[f]? with
 |none=>rfl
 |some fn=>
  simp only[]
  cases hb:fn.body with
  |none=>rfl
  |some c=>
   simp only[h,hb]
   have e:(spine c).drop i=((spine c).drop i).take k++(spine c).drop (i+k):=by rw[←List.drop_drop,List.take_append_drop]
   conv=>lhs; rw[e]
   rw[oG]
theorem Dc {E:Env} {n:Nat} {f:FuncId} {ts:List T} (hx:E.ext f=none) (hw:T.wfs ts=true):ak E (n+1) f ts=y9 E n f 0 (oq E f (ts.map .t)):=by
 have e:ak E (n+1) f ts=fU E (aJ E n) n f (ts.map .t) [] (aW E f):=by
  unfold ak jY
  rw[hw,hx]
  rfl
 rw[e]
 unfold y9 oq fU
 simp only[List.drop_zero]
 cases h:E.P.funcs[f]? with
 |none=>rfl
 |some fn=>
  simp only[]
  cases hb:fn.body with
  |none=>rfl
  |some c=>simp only[hb]; exact kZ _ _ _ _ _ _ _ _ _
end
section
open Go.RowKit
section
variable {E:Env} {rc:Caller} {f:FuncId} {fn:Func} {n base:Nat}
def wC (E:Env) (rc:Caller) (f:FuncId) (fn:Func) (base:Nat):List Code→St→(Ex→St→Prop)→Prop
 | [],st,Q=>Q .norm st
 |c::l,st,Q=>ig E rc f fn base c st fun e st=>e.kP (wC E rc f fn base l st Q) (fun i=>Q (.exit i) st) (Q .ret st)
theorem eG:∀ (c:Code) {st:St} {Q Q':Ex→St→Prop},(∀ e s,Q e s→Q' e s)→ig E rc f fn base c st Q→ig E rc f fn base c st Q'
 | .skip,st,Q,Q',hq,h=>hq _ _ h
 | .region id ops dr,st,Q,Q',hq,h=>by
  simp only[ig] at h ⊢
  rcases h with h|h
  rotate_left
  · exact .inr fun base F κ a w R hb rel hR=>h base F κ a w R hb rel fun st' F' κ' a' w' h1 r1 ev1=>hR st' F' κ' a' w' (hq _ _ h1) r1 ev1
  refine .inl ?_
  cases dr with
  |true=>
   simp only[cond_true] at h ⊢
   obtain⟨a,s,b,c⟩:=h
   exact⟨a,s,b,hq _ _ c⟩
  |false=>
   simp only[cond_false] at h ⊢
   have go:∀ (l:List Oper) {st:St},Cj E rc ops l st (Q .norm)→Cj E rc ops l st (Q' .norm):=by
    intro l
    induction l with
    |nil=>exact fun h=>hq _ _ h
    |cons o r ih=>
     intro st h
     simp only[Cj] at h ⊢
     unfold stepD at h ⊢
     split at h
     · obtain⟨m,es,c,a1,a2,a3,a4⟩:=h
       exact⟨m,es,c,a1,a2,a3,ih a4⟩
     · obtain⟨l,m,since,seen,last,es,c,a1,a2,a3,a4,a5,a6,a7⟩:=h
       exact⟨l,m,since,seen,last,es,c,a1,a2,a3,a4,a5,fun h=>ih (a6 h),fun e he=>ih (a7 e he)⟩
     · obtain⟨l,m,since,seen,es,c,n,e,a1,a2,a3,a4,a5⟩:=h
       exact⟨l,m,since,seen,es,c,n,e,a1,a2,a3,a4,ih a5⟩
     · rcases h with ⟨l,e,k,xs,rs,R,a1,a2,a3,a4,a5⟩|⟨s,a1,a2⟩
       · exact .inl ⟨l,e,k,xs,rs,R,a1,a2,a3,a4,fun ys hR=>ih (a5 ys hR)⟩
       · exact .inr ⟨s,a1,ih a2⟩
     · obtain⟨s,a1,a2⟩:=h
       exact⟨s,a1,ih a2⟩
   exact go _ h
 | .seq a b,st,Q,Q',hq,h=>by
  simp only[ig] at h ⊢
  refine eG a (fun e s h=>?_) h
  cases e with
  |norm=>exact eG b hq h
  |exit i=>exact hq _ _ h
  |ret=>exact hq _ _ h
 | .cond c a b,st,Q,Q',hq,h=>by
  simp only[ig] at h ⊢
  obtain⟨v,e1,e2⟩:=h
  refine⟨v,e1,?_⟩
  cases v with
  |true=>exact eG a hq e2
  |false=>exact eG b hq e2
 | .block id c,st,Q,Q',hq,h=>by
  simp only[ig] at h ⊢
  refine eG c (fun e s h=>?_) h
  cases e with
  |norm=>exact hq _ _ h
  |exit i=>
   simp only[Ex.kP] at h ⊢
   split
   · rename_i hi; rw[if_pos hi] at h; exact hq _ _ h
   · rename_i hi; rw[if_neg hi] at h; exact hq _ _ h
  |ret=>exact hq _ _ h
 | .loop c,st,Q,Q',hq,h=>by
  simp only[ig] at h ⊢
  obtain⟨I,h0,step⟩:=h
  refine⟨I,h0,fun k s hI=>eG c (fun e s h=>?_) (step k s hI)⟩
  cases e with
  |norm=>exact h
  |exit i=>exact hq _ _ h
  |ret=>exact hq _ _ h
 | .exit id,st,Q,Q',hq,h=>hq _ _ h
 | .scope c,st,Q,Q',hq,h=>by
  simp only[ig] at h ⊢
  exact eG c hq h
 | .label l,st,Q,Q',hq,h=>hq _ _ h
 | .ret,st,Q,Q',hq,h=>hq _ _ h
 | .rangeFunc ..,st,Q,Q',hq,h=>h
 | .goto ..,st,Q,Q',hq,h=>h
 | .refuse ..,st,Q,Q',hq,h=>h
theorem zC {Q:Ex→St→Prop} {e:Ex} {st:St} (h:e.kP (Q .norm st) (fun i=>Q (.exit i) st) (Q .ret st)):Q e st:=by cases e<;>exact h
theorem Ib:∀ (l m:List Code) {st:St} {Q:Ex→St→Prop},wC E rc f fn base (l++m) st Q→wC E rc f fn base l st fun e st=>e.kP (wC E rc f fn base m st Q) (fun i=>Q (.exit i) st) (Q .ret st)
 | [],m,st,Q,h=>h
 |c::l,m,st,Q,h=>by
  simp only[List.cons_append,wC] at h ⊢
  refine eG c (fun e s h=>?_) h
  cases e with
  |norm=>exact Ib l m h
  |exit i=>exact h
  |ret=>exact h
theorem qx:∀ (c:Code) {st:St} {Q:Ex→St→Prop},wC E rc f fn base (spine c) st Q→ig E rc f fn base c st Q
 | .seq a b,st,Q,h=>by
  simp only[ig]
  rw[spine] at h
  refine eG a (fun e s h=>?_) (qx a (Ib _ _ h))
  cases e with
  |norm=>exact qx b h
  |exit i=>exact h
  |ret=>exact h
 | .scope c,st,Q,h=>by
  simp only[ig]
  exact qx c h
 | .skip,st,Q,h=>eG _ (fun e s h=>zC h) h
 | .region id ops dr,st,Q,h=>eG (.region id ops dr) (fun e s h=>zC h) h
 | .cond c a b,st,Q,h=>eG (.cond c a b) (fun e s h=>zC h) h
 | .block id c,st,Q,h=>eG (.block id c) (fun e s h=>zC h) h
 | .loop c,st,Q,h=>eG (.loop c) (fun e s h=>zC h) h
 | .exit id,st,Q,h=>eG (.exit id) (fun e s h=>zC h) h
 | .label l,st,Q,h=>eG (.label l) (fun e s h=>zC h) h
 | .ret,st,Q,h=>eG .ret (fun e s h=>zC h) h
 | .rangeFunc ..,st,Q,h=>h
 | .goto ..,st,Q,h=>h
 | .refuse ..,st,Q,h=>h
theorem QS (hrc:rc.Nat):∀ (l m:List Code) {st st':St} {e:Ex} {Q:Ex→St→Prop},kV E rc f fn n base l st (fun e s=>(.ok (e,s):ah (Ex×St)))= .ok (e,st')→e.kP (wC E rc f fn base m st' Q) (fun i=>Q (.exit i) st') (Q .ret st')→wC E rc f fn base (l++m) st Q
 | [],m,st,st',e,Q,h,hQ=>by
  simp only[kV,ah.ok.injEq,Prod.mk.injEq] at h
  obtain⟨rfl,rfl⟩:=h
  exact hQ
 |c::l,m,st,st',e,Q,h,hQ=>by
  simp only[kV] at h
  simp only[List.cons_append,wC]
  obtain⟨e1,s1,h1,h2⟩:=zT hrc h
  refine qL hrc c h1 ?_
  cases e1 with
  |norm=>exact QS hrc l m h2 hQ
  |exit i=>
   simp only[Ex.k,ah.ok.injEq,Prod.mk.injEq] at h2
   obtain⟨rfl,rfl⟩:=h2
   exact hQ
  |ret=>
   simp only[Ex.k,ah.ok.injEq,Prod.mk.injEq] at h2
   obtain⟨rfl,rfl⟩:=h2
   exact hQ
end
end
section
open Go.RowKit
def gZ:Code→Code
 | .block _ (.loop c)=>c
 | .block _ c=>c
 | .loop c=>c
 |c=>c
def ak9:List Nat→Code→List Code
 | [],c=>spine c
 |i::p,c=>ak9 p (gZ ((spine c).getD i .skip))
def bodyC (E:Env) (f:FuncId):Code:=match E.P.funcs[f]? with
 |some fn=>fn.body.getD .skip
 |none=> .skip
def dW (E:Env) (f:FuncId):Func:=(E.P.funcs[f]?).getD default
def aO (E:Env) (f:FuncId) (p:List Nat):List Code:=ak9 p (bodyC E f)
def akU:Code→Array Oper
 | .region _ ops _=>ops
 |_=> #[]
def drC:Code→Bool
 | .region _ _ dr=>dr
 |_=>true
def iW (E:Env) (f:FuncId) (p:List Nat) (i:Nat):Array Oper:=akU ((aO E f p).getD i .skip)
section
variable (E:Env) (n:Nat) (f:FuncId) (p:List Nat)
def dO (i k:Nat) (st:St):ah (Ex×St):=kV E (aJ E n) f (dW E f) n 0 (((aO E f p).drop i).take k) st fun e s=> .ok (e,s)
def akV (i j k:Nat) (st:St):ah St:=bn E (aJ E n) (iW E f p i) ((((iW E f p i).toList.drop j).take k).map fun o=>(o,false)) st fun s=> .ok s
def nM (i:Nat):St→ah (Ex×St):=zo E (aJ E n) f (dW E f) n 0 (gZ ((aO E f p).getD i .skip))
def dZ (i:Nat):List Nat×List Nat:=E.hint f (bG (gZ ((aO E f p).getD i .skip)))
def ay (i:Nat) (st:St) (Q:Ex→St→Prop):Prop:=wC E (aJ E n) f (dW E f) 0 ((aO E f p).drop i) st Q
def Hl (i j:Nat) (st:St) (Q:Ex→St→Prop):Prop:=Cj E (aJ E n) (iW E f p i) ((iW E f p i).toList.drop j) st fun st=>ay E n f p (i+1) st Q
end
section
variable {E:Env} {n:Nat} {f:FuncId} {p:List Nat}
theorem fF {i:Nat} (k:Nat) {st st':St} {e:Ex} {Q:Ex→St→Prop} (h:dO E n f p i k st= .ok (e,st')) (hq:e.kP (ay E n f p (i+k) st' Q) (fun i=>Q (.exit i) st') (Q .ret st')):ay E n f p i st Q:=by
 unfold ay
 have e1:(aO E f p).drop i=((aO E f p).drop i).take k++(aO E f p).drop (i+k):=by rw[←List.drop_drop,List.take_append_drop]
 rw[e1]
 exact QS (fH E n) _ _ h hq
theorem kU {i:Nat} {st:St} {Q:Ex→St→Prop} (h:(aO E f p).length=i) (hq:Q .norm st):ay E n f p i st Q:=by
 unfold ay
 rw[List.drop_eq_nil_of_le (by omega)]
 exact hq
theorem drop_one {α:Type} {l:List α} {i:Nat} {c:α} (h:l[i]? =some c):l.drop i=c::l.drop (i+1):=by
 obtain⟨h1,h2⟩:=List.getElem?_eq_some_iff.1 h
 rw[←h2]; exact List.drop_eq_getElem_cons h1
theorem ab6 {i id:Nat} {ops:Array Oper} {st:St} {Q:Ex→St→Prop} (h:(aO E f p)[i]? =some (.region id ops false)) (hq:Hl E n f p i 0 st Q):ay E n f p i st Q:=by
 unfold ay
 rw[drop_one h]
 simp only[wC,ig,cond_false]
 refine .inl ?_
 have e:iW E f p i=ops:=by unfold iW; rw[List.getD_eq_getElem?_getD,h]; rfl
 unfold Hl ay at hq
 rw[e,List.drop_zero] at hq
 exact hq
theorem Gt {i:Nat} {st:St} {Q:Ex→St→Prop} {c:Code} (h:(aO E f p)[i]? =some c) (hc:∃ id ops dr,c= .region id ops dr) (hq:jg E c st fun st=>ay E n f p (i+1) st Q):ay E n f p i st Q:=by
 obtain⟨id,ops,dr,rfl⟩:=hc
 unfold ay
 rw[drop_one h]
 simp only[wC,ig]
 exact .inr hq
theorem afE {c:Code} (h:drC c=false):∃ id ops,c= .region id ops false:=by
 cases c with
 |region id ops dr=>simp only[drC] at h; subst h; exact⟨id,ops,rfl⟩
 |_=>cases h
theorem yB {i:Nat} {st:St} {Q:Ex→St→Prop} (h:drC ((aO E f p).getD i .skip)=false) (hl:i < (aO E f p).length) (hq:Hl E n f p i 0 st Q):ay E n f p i st Q:=by
 obtain⟨id,ops,e⟩:=afE h
 refine ab6 (id:=id) (ops:=ops) ?_ hq
 rw[List.getD_eq_getElem?_getD,List.getElem?_eq_getElem hl] at e
 rw[List.getElem?_eq_getElem hl]
 simpa using e
theorem ai9 {i j:Nat} {st:St} {Q:Ex→St→Prop} (h:(iW E f p i).toList.length=j) (hq:ay E n f p (i+1) st Q):Hl E n f p i j st Q:=by
 unfold Hl
 rw[List.drop_eq_nil_of_le (by omega)]
 exact hq
theorem ao9 {i j:Nat} (k:Nat) {st st':St} {Q:Ex→St→Prop} (h:akV E n f p i j k st= .ok st') (hq:Hl E n f p i (j+k) st' Q):Hl E n f p i j st Q:=by
 unfold Hl
 have e1:(iW E f p i).toList.drop j=((iW E f p i).toList.drop j).take k++(iW E f p i).toList.drop (j+k):=by rw[←List.drop_drop,List.take_append_drop]
 rw[e1]
 have app:∀ (l m:List Oper) (st:St) (Q:St→Prop),Cj E (aJ E n) (iW E f p i) l st (fun st=>Cj E (aJ E n) (iW E f p i) m st Q)→Cj E (aJ E n) (iW E f p i) (l++m) st Q:=by
  intro l
  induction l with
  |nil=>exact fun m st Q h=>h
  |cons o r ih=>
   intro m st Q h
   simp only[List.cons_append,Cj] at h ⊢
   have:∀ (S S':St→Prop),(∀ s,S s→S' s)→stepD E (aJ E n) (iW E f p i) o st S→stepD E (aJ E n) (iW E f p i) o st S':=fun S S' hS h=>by
    have:=eG (E:=E) (rc:=aJ E n) (f:=f) (fn:=dW E f) (base:=0) (.region 0 #[o] false) (st:=st) (Q:=fun _ s=>S s) (Q':=fun _ s=>S' s) (fun _ s h=>hS s h)
    unfold stepD at h ⊢
    split at h
    · obtain⟨m,es,c,a1,a2,a3,a4⟩:=h
      exact⟨m,es,c,a1,a2,a3,hS _ a4⟩
    · obtain⟨l,m,since,seen,last,es,c,a1,a2,a3,a4,a5,a6,a7⟩:=h
      exact⟨l,m,since,seen,last,es,c,a1,a2,a3,a4,a5,fun h=>hS _ (a6 h),fun e he=>hS _ (a7 e he)⟩
    · obtain⟨l,m,since,seen,es,c,n,e,a1,a2,a3,a4,a5⟩:=h
      exact⟨l,m,since,seen,es,c,n,e,a1,a2,a3,a4,hS _ a5⟩
    · rcases h with ⟨l,e,k,xs,rs,R,a1,a2,a3,a4,a5⟩|⟨s,a1,a2⟩
      · exact .inl ⟨l,e,k,xs,rs,R,a1,a2,a3,a4,fun ys hR=>hS _ (a5 ys hR)⟩
      · exact .inr ⟨s,a1,hS _ a2⟩
    · obtain⟨s,a1,a2⟩:=h
      exact⟨s,a1,hS _ a2⟩
   exact this _ _ (fun s h=>ih m s Q h) h
 refine app _ _ _ _ (IX (fH E n) h ?_)
 exact hq
theorem zY {i j:Nat} {o:Oper} {st:St} {Q:Ex→St→Prop} (h:(iW E f p i).toList[j]? =some o) (hq:stepD E (aJ E n) (iW E f p i) o st fun st=>Hl E n f p i (j+1) st Q):Hl E n f p i j st Q:=by
 unfold Hl
 rw[drop_one h]
 exact hq
theorem y7 {i id:Nat} {st X:St} {Q:Ex→St→Prop} {c:Code} (h:(aO E f p)[i]? =some (.block id (.loop c))) (hi:bF (nM E n f p i) n (canon 0 (dZ E f p i).1 st)= .ok (.exit id,X)) (hq:ay E n f p (i+1) X Q):ay E n f p i st Q:=by
 refine fF 1 (e:= .norm) (st':=X) ?_ hq
 unfold dO
 rw[drop_one h]
 have e:gZ ((aO E f p).getD i .skip)=c:=by rw[List.getD_eq_getElem?_getD,h]; rfl
 unfold nM dZ at hi
 rw[e] at hi
 show dA E (aJ E n) f (dW E f) n 0 (.block id (.loop c)) st _=_
 simp only[dA]
 unfold zo at hi
 rw[hi]
 simp[Ex.k,kV]
theorem xC {i id:Nat} {st:St} {Q:Ex→St→Prop} {c:Code} (h:(aO E f p)[i]? =some (.block id (.loop c))) (hp:aO E f (p++ [i])=spine c) (I:Nat→St→Prop) {m:Nat} (h0:I m (canon 0 (dZ E f p i).1 st))
 (step:∀ m st,I m st→ay E n f (p++ [i]) 0 st fun e st=>e.kP (∃ m',m' < m∧I m' (canon 0 (dZ E f p i).1 st))
  (fun j=>if j=id then ay E n f p (i+1) (canon 0 (dZ E f p i).2 st) Q else Q (.exit j) (canon 0 (dZ E f p i).2 st)) (Q .ret (canon 0 (lD (dW E f)) st))):ay E n f p i st Q:=by
 have e:gZ ((aO E f p).getD i .skip)=c:=by rw[List.getD_eq_getElem?_getD,h]; rfl
 unfold dZ at h0 step
 rw[e] at h0 step
 unfold ay
 rw[drop_one h]
 simp only[wC,ig]
 refine⟨I,⟨m,h0⟩,fun m st hI=>?_⟩
 have:=step m st hI
 unfold ay at this
 rw[hp,List.drop_zero] at this
 refine eG c (fun e s hh=>?_) (qx c this)
 cases e with
 |norm=>exact hh
 |exit j=>
  simp only[Ex.kP] at hh ⊢
  by_cases hj:j=id
  · rw[if_pos hj] at hh ⊢; exact hh
  · rw[if_neg hj] at hh ⊢; exact hh
 |ret=>exact hh
theorem oC {i id:Nat} {st:St} {Q:Ex→St→Prop} {c:Code} (h:(aO E f p)[i]? =some (.block id c)) (hp:aO E f (p++ [i])=spine c)
 (hq:ay E n f (p++ [i]) 0 st fun e st=>e.kP (ay E n f p (i+1) st Q) (fun j=>if j=id then ay E n f p (i+1) st Q else Q (.exit j) st) (Q .ret st)):ay E n f p i st Q:=by
 unfold ay at hq ⊢
 rw[hp,List.drop_zero] at hq
 rw[drop_one h]
 simp only[wC,ig]
 refine eG c (fun e s hh=>?_) (qx c hq)
 cases e with
 |norm=>exact hh
 |exit j=>
  simp only[Ex.kP] at hh ⊢
  by_cases hj:j=id
  · rw[if_pos hj] at hh ⊢; exact hh
  · rw[if_neg hj] at hh ⊢; exact hh
 |ret=>exact hh
theorem Dj {args:List T} {R:PV→List aj→Prop} (hf:∃ fn,E.P.funcs[f]? =some fn∧fn.body.isSome=true)
 (h:ay E n f [] 0 (oq E f (args.map .t)) fun e st=>e.kP (AZ E (dW E f) R st) (fun _=>False) (AZ E (dW E f) R st)):O4 E (aJ E n) f (args.map .t) [] R:=by
 obtain⟨fn,h1,h2⟩:=hf
 obtain⟨c,h2⟩:=Option.isSome_iff_exists.1 h2
 have e1:dW E f=fn:=by unfold dW; rw[h1]; rfl
 have e2:bodyC E f=c:=by unfold bodyC; rw[h1]; simp[h2]
 unfold O4
 rw[h1]
 simp only[h2]
 unfold ay aO oq at h
 rw[e1,e2,h1] at h
 simp only[ak9,List.drop_zero] at h
 exact qx c h
def adZ (E:Env) (n:Nat) (f:FuncId) (p:List Nat) (i k:Nat) (r:ah (Ex×St)):ah (Ex×St):=r.bind fun q=>q.1.k (dO E n f p i k q.2) (fun j=> .ok (.exit j,q.2)) (.ok (.ret,q.2))
def D8 (E:Env) (f:FuncId) (p:List Nat) (i:Nat) (r:ah (Ex×St)):ah (Ex×St):=r.bind fun q=>q.1.k (.ok (.norm,canon 0 (dZ E f p i).1 q.2)) (fun j=> .ok (.exit j,q.2)) (.ok (.ret,q.2))
theorem zS {i:Nat} {r:ah (Ex×St)} {s:St} (h:D8 E f p i r= .ok (.norm,s)):∃ st,r= .ok (.norm,st)∧canon 0 (dZ E f p i).1 st=s:=by
 obtain⟨⟨e,st⟩,h1,h2⟩:=bQ h
 cases e with
 |norm=>
  simp only[Ex.k,ah.ok.injEq,Prod.mk.injEq,true_and] at h2
  exact⟨st,h1,h2⟩
 |exit j=>simp[Ex.k] at h2
 |ret=>simp[Ex.k] at h2
theorem Hq {i id:Nat} (k:Nat) {st s X:St} {Q:Ex→St→Prop} {c:Code} (h:D8 E f p (i+k) (dO E n f p i k st)= .ok (.norm,s)) (hb:(aO E f p)[i+k]? =some (.block id (.loop c))) (hi:bF (nM E n f p (i+k)) n s= .ok (.exit id,X)) (hq:ay E n f p (i+k+1) X Q):ay E n f p i st Q:=by
 obtain⟨st',h1,h2⟩:=zS h
 subst h2
 exact fF k h1 (y7 hb hi hq)
theorem zq {i id:Nat} (k:Nat) {st s:St} {Q:Ex→St→Prop} {c:Code} (h:D8 E f p (i+k) (dO E n f p i k st)= .ok (.norm,s)) (hb:(aO E f p)[i+k]? =some (.block id (.loop c))) (hp:aO E f (p++ [i+k])=spine c) (I:Nat→St→Prop) {m:Nat} (h0:I m s)
 (step:∀ m st,I m st→ay E n f (p++ [i+k]) 0 st fun e st=>e.kP (∃ m',m' < m∧I m' (canon 0 (dZ E f p (i+k)).1 st))
  (fun j=>if j=id then ay E n f p (i+k+1) (canon 0 (dZ E f p (i+k)).2 st) Q else Q (.exit j) (canon 0 (dZ E f p (i+k)).2 st)) (Q .ret (canon 0 (lD (dW E f)) st))):ay E n f p i st Q:=by
 obtain⟨st',h1,h2⟩:=zS h
 subst h2
 exact fF k h1 (xC hb hp I h0 step)
end
def aki (seen:List Nat):Option Nat:=seen.getLast?
def X6 (es:List (T×T×Nat)) (n:Nat):Option (T×T×Nat):=es.find? fun x=>x.2.2==n
section
variable (E:Env) (n:Nat) (f:FuncId) (p:List Nat)
def adY (rc:Caller) (ops:Array Oper) (o:Oper) (st:St):ah St:=match o.guard,o.op with
 |none,.range t x=>aS (bV E.P st.tmps t x) fun p=>(match p with
  | .mp m=>(match st.heap[m]? with
   |some (.map es c)=>chk (IV E.P t).isSome (.ok ⟨dL st.tmps o.dst (.ptr st.heap.length 0),st.heap++ [.iter m c [] c]⟩)
   |_=> .stuck)
  |_=> .stuck)
 |none,.entry x=>aS (bV E.P st.tmps 0 x) fun p=>(match p with
  | .ptr l 0=>(match st.heap[l]? with
   |some (.iter m since seen last)=>(match st.heap[m]? with
    |some (.map es c)=>aS (aki seen) fun n=>aS (X6 es n) fun e=>chk (Nat.beq last c) (.ok ⟨dL st.tmps o.dst (.t (.au [e.1,e.2.1])),st.heap⟩)
    |_=> .stuck)
   |_=> .stuck)
  |_=> .stuck)
 |_,_=>bn E rc ops [(o,false)] st fun s=> .ok s
def Yp (rc:Caller) (ops:Array Oper):List Oper→St→ah St
 | [],st=> .ok st
 |o::r,st=>(adY E rc ops o st).bind fun st=>Yp rc ops r st
def QH (c:Code) (st:St):ah (Ex×St):=match c with
 | .region _ ops false=>(Yp E (aJ E n) ops ops.toList st).bind fun s=> .ok (.norm,s)
 |c=>dA E (aJ E n) f (dW E f) n 0 c st fun e s=> .ok (e,s)
def Yj:List Code→St→ah (Ex×St)
 | [],st=> .ok (.norm,st)
 |c::l,st=>(QH E n f c st).bind fun q=>q.1.k (Yj l q.2) (fun j=> .ok (.exit j,q.2)) (.ok (.ret,q.2))
def acL (i k:Nat) (st:St):ah (Ex×St):=Yj E n f (((aO E f p).drop i).take k) st
def Yn (i j k:Nat) (st:St):ah (Ex×St):=(Yp E (aJ E n) (iW E f p i) ((iW E f p i).toList.drop j) st).bind fun st=>Yj E n f (((aO E f p).drop (i+1)).take k) st
def apz (i k:Nat) (r:ah (Ex×St)):ah (Ex×St):=r.bind fun q=>q.1.k (acL E n f p i k q.2) (fun j=> .ok (.exit j,q.2)) (.ok (.ret,q.2))
def exX (i:Nat) (r:ah (Ex×St)):ah (Ex×St):=r.bind fun q=>q.1.k .stuck (fun j=> .ok (.exit j,canon 0 (dZ E f p i).2 q.2)) .stuck
end
section
variable {E:Env} {n:Nat} {f:FuncId} {p:List Nat}
theorem agz {rc:Caller} {ops:Array Oper} {o:Oper} {st st':St} {Q:St→Prop} (h:adY E rc ops o st= .ok st') (hQ:Q st'):stepD E rc ops o st Q:=by
 unfold adY at h
 split at h
 · rename_i t x hg ho
   obtain⟨dst,op,ty,ps,af,guard⟩:=o
   simp only at hg ho; subst hg; subst ho
   obtain⟨q,e1,e2⟩:=aB (by rw[h]; simp)
   rw[e2] at h
   cases q with
   |mp m=>
    cases hm:st.heap[m]? with
    |none=>simp[hm] at h
    |some ob=>
     cases ob with
     |map es c=>
      simp only[hm] at h
      obtain⟨h3,h4⟩:=dQ (by rw[h]; simp)
      rw[h4] at h
      simp only[ah.ok.injEq] at h
      subst h
      exact⟨m,es,c,e1,hm,h3,hQ⟩
     |_=>simp[hm] at h
   |_=>cases h
 · rename_i x hg ho
   obtain⟨dst,op,ty,ps,af,guard⟩:=o
   simp only at hg ho; subst hg; subst ho
   obtain⟨q,e1,e2⟩:=aB (by rw[h]; simp)
   rw[e2] at h
   cases q with
   |ptr l ofs=>
    cases ofs with
    |succ k=>cases h
    |zero=>
    cases hm:st.heap[l]? with
    |none=>simp[hm] at h
    |some ob=>
     cases ob with
     |iter m since seen last=>
      simp only[hm] at h
      cases hm2:st.heap[m]? with
      |none=>simp[hm2] at h
      |some ob2=>
       cases ob2 with
       |map es c=>
        simp only[hm2] at h
        obtain⟨k,e3,e4⟩:=aB (by rw[h]; simp)
        rw[e4] at h
        obtain⟨e,e5,e6⟩:=aB (by rw[h]; simp)
        rw[e6] at h
        obtain⟨h3,h4⟩:=dQ (by rw[h]; simp)
        rw[h4] at h
        simp only[ah.ok.injEq] at h
        subst h
        have hc:=Nat.eq_of_beq_eq_true h3
        subst hc
        obtain⟨s0,hs0⟩:∃ s0,seen=s0++ [k]:=by
         unfold aki at e3
         exact List.getLast?_eq_some_iff.1 e3
        subst hs0
        exact⟨l,m,since,s0,es,last,k,e,e1,hm,hm2,e5,hQ⟩
       |_=>simp[hm2] at h
     |_=>simp[hm] at h
   |_=>cases h
 · exact Ey h hQ
theorem QO {rc:Caller} {ops:Array Oper}:∀ {l:List Oper} {st st':St} {Q:St→Prop},Yp E rc ops l st= .ok st'→Q st'→Cj E rc ops l st Q
 | [],st,st',Q,h,hQ=>by
  simp only[Yp,ah.ok.injEq] at h
  subst h; exact hQ
 |o::r,st,st',Q,h,hQ=>by
  simp only[Yp] at h
  obtain⟨s1,h1,h2⟩:=bQ h
  exact agz h1 (QO h2 hQ)
theorem Zb:∀ {c:Code} {st st':St} {e:Ex} {Q:Ex→St→Prop},QH E n f c st= .ok (e,st')→Q e st'→ig E (aJ E n) f (dW E f) 0 c st Q:=by
 intro c st st' e Q h hQ
 unfold QH at h
 split at h
 · obtain⟨s1,h1,h2⟩:=bQ h
   simp only[ah.ok.injEq,Prod.mk.injEq] at h2
   obtain⟨rfl,rfl⟩:=h2
   simp only[ig,cond_false]
   exact .inl (QO h1 hQ)
 · exact qL (fH E n) _ h hQ
theorem aaQ:∀ {l m:List Code} {st st':St} {e:Ex} {Q:Ex→St→Prop},Yj E n f l st= .ok (e,st')→e.kP (wC E (aJ E n) f (dW E f) 0 m st' Q) (fun i=>Q (.exit i) st') (Q .ret st')→wC E (aJ E n) f (dW E f) 0 (l++m) st Q
 | [],m,st,st',e,Q,h,hQ=>by
  simp only[Yj,ah.ok.injEq,Prod.mk.injEq] at h
  obtain⟨rfl,rfl⟩:=h
  exact hQ
 |c::l,m,st,st',e,Q,h,hQ=>by
  simp only[Yj] at h
  obtain⟨⟨e1,s1⟩,h1,h2⟩:=bQ h
  simp only[List.cons_append,wC]
  refine Zb h1 ?_
  cases e1 with
  |norm=>exact aaQ h2 hQ
  |exit i=>
   simp only[Ex.k,ah.ok.injEq,Prod.mk.injEq] at h2
   obtain⟨rfl,rfl⟩:=h2
   exact hQ
  |ret=>
   simp only[Ex.k,ah.ok.injEq,Prod.mk.injEq] at h2
   obtain⟨rfl,rfl⟩:=h2
   exact hQ
theorem QL {i:Nat} (k:Nat) {st st':St} {e:Ex} {Q:Ex→St→Prop} (h:acL E n f p i k st= .ok (e,st')) (hq:e.kP (ay E n f p (i+k) st' Q) (fun i=>Q (.exit i) st') (Q .ret st')):ay E n f p i st Q:=by
 unfold ay
 have e1:(aO E f p).drop i=((aO E f p).drop i).take k++(aO E f p).drop (i+k):=by rw[←List.drop_drop,List.take_append_drop]
 rw[e1]
 exact aaQ h hq
theorem adS {i j:Nat} (k:Nat) {st st':St} {e:Ex} {Q:Ex→St→Prop} (h:Yn E n f p i j k st= .ok (e,st')) (hq:e.kP (ay E n f p (i+1+k) st' Q) (fun i=>Q (.exit i) st') (Q .ret st')):Hl E n f p i j st Q:=by
 obtain⟨s1,h1,h2⟩:=bQ h
 unfold Hl
 refine QO h1 ?_
 exact QL (p:=p) (i:=i+1) k h2 hq
theorem ahF {i j:Nat} {r:ah (Ex×St)} {s:St} (h:exX E f p i r= .ok (.exit j,s)):∃ st,r= .ok (.exit j,st)∧canon 0 (dZ E f p i).2 st=s:=by
 obtain⟨⟨e,st⟩,h1,h2⟩:=bQ h
 cases e with
 |norm=>simp[Ex.k] at h2
 |exit j'=>
  simp only[Ex.k,ah.ok.injEq,Prod.mk.injEq,Ex.exit.injEq] at h2
  obtain⟨rfl,rfl⟩:=h2
  exact⟨st,h1,rfl⟩
 |ret=>simp[Ex.k] at h2
theorem step_next {rc:Caller} {ops:Array Oper} {o:Oper} {x:Operand} {st:St} {Q:St→Prop} {l m since last c:Nat} {seen:List Nat} {es:List (T×T×Nat)} (hg:o.guard=none) (ho:o.op= .next x false) (h1:bV E.P st.tmps 0 x=some (.ptr l 0)) (h2:st.heap[l]? =some (.iter m since seen last)) (h3:st.heap[m]? =some (.map es c))
 (hs:∀ e∈es,e.2.2 < since) (hl:seen= []∨es= []∨∃ e∈es,e.2.2 < last) (hf:Aj seen es= []→Q ⟨dL st.tmps o.dst (.t (.au [.bool false])),st.heap⟩)
 (ht:∀ e∈Aj seen es,Q ⟨dL st.tmps o.dst (.t (.au [.bool true,e.1,e.2.1])),st.heap.set l (.iter m since (seen++ [e.2.2]) c)⟩):stepD E rc ops o st Q:=by
 obtain⟨dst,op,ty,ps,af,guard⟩:=o
 simp only at hg ho; subst hg; subst ho
 exact⟨l,m,since,seen,last,es,c,h1,h2,h3,hs,hl,hf,ht⟩
theorem acR {rc:Caller} {ops:Array Oper} {o:Oper} {g:FuncId} {args:Array Operand} {tys:Array TypeId} {st:St} {Q:St→Prop} {l e k:Nat} {xs rest:List T} {R:List T→Prop} (hg:o.guard=none) (ho:o.op= .call ⟨.value (.func g),args,tys⟩) (h1:jF E.P st.tmps (fun i=>tys.getD i 0) 0 args.toList=some (.own l::rest.map .t))
 (h2:st.heap[l]? =some (.row e k xs)) (hne:xs≠ []) (hs:X3 E g e k xs rest R) (hq:∀ ys,R ys→Q ⟨dL st.tmps o.dst (.t (.au [])),st.heap.set l (.row e k ys)⟩):stepD E rc ops o st Q:=by
 obtain⟨dst,op,ty,ps,af,guard⟩:=o
 simp only at hg ho; subst hg; subst ho
 exact .inl ⟨l,e,k,xs,rest,R,h1,h2,hne,hs,hq⟩
end
end
section
open Go.RowKit
section
variable {β γ:Type} {E:Env} {rc:Caller} {f:FuncId} {fn:Func} {n base:Nat}
theorem sS (hrc:rc.Nat) {g:ah β→ah γ} (hg:Strict g):∀ (l:List Code) (st:St) (K:Ex→St→ah β),g (kV E rc f fn n base l st K)=kV E rc f fn n base l st fun e s=>g (K e s)
 | [],st,K=>rfl
 |c::l,st,K=>by
  simp only[kV]
  rw[kT hrc c hg]
  congr 1
  funext e s
  cases e with
  |norm=>exact sS hrc hg l s K
  |exit i=>rfl
  |ret=>rfl
end
def CG {β:Type} (E:Env) (n:Nat) (f:FuncId) (p:List Nat) (i j k:Nat) (st:St) (K:Ex→St→ah β):ah β:=bn E (aJ E n) (iW E f p i) (((iW E f p i).toList.drop j).map fun o=>(o,false)) st fun s=>kV E (aJ E n) f (dW E f) n 0 (((aO E f p).drop (i+1)).take k) s K
def oN {β:Type} (E:Env) (n:Nat) (f:FuncId) (p:List Nat) (i k:Nat) (st:St) (K:Ex→St→ah β):ah β:=kV E (aJ E n) f (dW E f) n 0 (((aO E f p).drop i).take k) st K
def zL (E:Env) (f:FuncId) (p:List Nat) (i:Nat):Ex→St→ah (Ex×St):=fun e s=>e.k (.ok (.norm,canon 0 (dZ E f p i).1 s)) (fun j=> .ok (.exit j,s)) (.ok (.ret,s))
section
variable {E:Env} {n:Nat} {f:FuncId} {p:List Nat}
theorem agm {i k i2:Nat} {p2:List Nat} {st s:St} (h:oN E n f p i k st (zL E f p2 i2)= .ok (.norm,s)):∃ st',dO E n f p i k st= .ok (.norm,st')∧canon 0 (dZ E f p2 i2).1 st'=s:=by
 have e:oN E n f p i k st (zL E f p2 i2)=(dO E n f p i k st).bind fun q=>zL E f p2 i2 q.1 q.2:=by
  unfold oN dO
  rw[sS (fH E n) (Strict.bind fun q:Ex×St=>zL E f p2 i2 q.1 q.2)]
  rfl
 rw[e] at h
 obtain⟨⟨e,st'⟩,h1,h2⟩:=bQ h
 cases e with
 |norm=>
  simp only[zL,Ex.k,ah.ok.injEq,Prod.mk.injEq,true_and] at h2
  exact⟨st',h1,h2⟩
 |exit j=>simp[zL,Ex.k] at h2
 |ret=>simp[zL,Ex.k] at h2
theorem akn {i j k:Nat} {st st':St} {Q:Ex→St→Prop} (h:CG E n f p i j k st (fun e s=>(.ok (e,s):ah (Ex×St)))= .ok (.norm,st')) (hq:ay E n f p (i+1+k) st' Q):Hl E n f p i j st Q:=by
 unfold CG at h
 have e:(bn E (aJ E n) (iW E f p i) (((iW E f p i).toList.drop j).map fun o=>(o,false)) st fun s=>kV E (aJ E n) f (dW E f) n 0 (((aO E f p).drop (i+1)).take k) s fun e s=>(.ok (e,s):ah (Ex×St)))=(bn E (aJ E n) (iW E f p i) (((iW E f p i).toList.drop j).map fun o=>(o,false)) st fun s=>(.ok s:ah St)).bind fun s=>kV E (aJ E n) f (dW E f) n 0 (((aO E f p).drop (i+1)).take k) s fun e s=> .ok (e,s):=by
  rw[nN (Strict.bind fun s:St=>kV E (aJ E n) f (dW E f) n 0 (((aO E f p).drop (i+1)).take k) s fun e s=>(.ok (e,s):ah (Ex×St))) (fH E n)]
  rfl
 rw[e] at h
 obtain⟨s1,h1,h2⟩:=bQ h
 unfold Hl
 exact IX (fH E n) h1 (fF (e:= .norm) k h2 hq)
theorem LX {rc:Caller} {ops:Array Oper} {o:Oper} {x:Operand} {st:St} {Q:St→Prop} {l m since c n:Nat} {seen:List Nat} {es:List (T×T×Nat)} {e:T×T×Nat} (hg:o.guard=none) (ho:o.op= .entry x) (h1:bV E.P st.tmps 0 x=some (.ptr l 0)) (h2:st.heap[l]? =some (.iter m since (seen++ [n]) c)) (h3:st.heap[m]? =some (.map es c))
 (h4:X6 es n=some e) (hq:Q ⟨dL st.tmps o.dst (.t (.au [e.1,e.2.1])),st.heap⟩):stepD E rc ops o st Q:=by
 obtain⟨dst,op,ty,ps,af,guard⟩:=o
 simp only at hg ho; subst hg; subst ho
 exact⟨l,m,since,seen,es,c,n,e,h1,h2,h3,h4,hq⟩
end
end
end Go.aT
