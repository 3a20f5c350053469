/- The texts of a proof, one behind the other: an interpreter and its soundness, what the functions of the program answer, and plain laws on that. -/
import Derived.Test.YtjlpnhpfbgbkhaaGreatK8
set_option linter.unusedVariables false
set_option linter.unusedSimpArgs false
set_option linter.unnecessarySimpa false
set_option linter.unusedSectionVars false
set_option maxRecDepth 100000
namespace Go.aP
section
open Go.RowKit
def Le {β:Type} (a b:aj β):Prop:=a≠ .stuck→b=a
theorem Le.refl {β:Type} (a:aj β):Le a a:=fun _=>rfl
theorem Le.trans {β:Type} {a b c:aj β} (h:Le a b) (h':Le b c):Le a c:=fun ha=>by
 have e:=h ha
 rw[←e]; exact h' (by rw[e]; exact ha)
theorem Le.bind {α β:Type} {r:aj α} {K K':α→aj β} (h:∀ x,Le (K x) (K' x)):Le (r.bind K) (r.bind K'):=by
 cases r with
 |ok a=>exact h a
 |_=>exact Le.refl _
theorem Le.IU {α β:Type} {r r':aj α} {K K':α→aj β} (h0:Le r r') (h:∀ x,Le (K x) (K' x)):Le (r.bind K) (r'.bind K'):=by
 cases r with
 |stuck=>intro hh; exact absurd rfl hh
 |ok a=>rw[h0 (by simp)]; exact h a
 |absurd=>rw[h0 (by simp)]; exact Le.refl _
section
variable {E:Env} {p:FuncId→List T→aj T} {g g':(β:Type)→FuncId→List PV→List ah→(PV→List ah→aj β)→aj β}
variable (hg:∀ β f args H K,Le (g β f args H K) (g' β f args H K)) (hn:(⟨p,g'⟩:Caller).Nat)
include hg hn
theorem UF {β:Type} (dr:Bool) (f:FuncId) (args:List PV) (st:St) (K:PV→St→aj β):Le (mJ E ⟨p,g⟩ dr f args st K) (mJ E ⟨p,g'⟩ dr f args st K):=by
 unfold mJ
 split
 · exact Le.refl _
 · split
   · exact Le.refl _
   · cases (dr||(E.ext f).isSome) with
     |true=>exact Le.refl _
     |false=>exact hg _ _ _ _ _
theorem amb {β:Type} (dr:Bool) (o:Oper) (st:St) {K K':PV→St→aj β} (hK:∀ q s,Le (K q s) (K' q s)):Le (lg E ⟨p,g⟩ dr o st K) (lg E ⟨p,g'⟩ dr o st K'):=by
 have h2:Le (lg E ⟨p,g'⟩ dr o st K) (lg E ⟨p,g'⟩ dr o st K'):=by
  have e:∀ K:PV→St→aj β,lg E ⟨p,g'⟩ dr o st K=(lg E ⟨p,g'⟩ dr o st fun q s=>(.ok (q,s):aj (PV×St))).bind fun x=>K x.1 x.2:=fun K=>by
   rw[Ef (E:=E) (Strict.bind (β:=PV×St) fun x=>K x.1 x.2) hn dr o fun q s=> .ok (q,s)]
   rfl
  rw[e K,e K']
  exact Le.bind fun x=>hK _ _
 refine Le.trans ?_ h2
 obtain⟨dst,op,type,pos,after,guard⟩:=o
 cases op<;>try exact Le.refl _
 case call c=>
  simp only[lg]
  split
  · exact Le.refl _
  · rename_i f _
    cases jE E.P st.tmps (fun i=>c.argTypes.getD i 0) 0 c.args.toList with
    |none=>exact Le.refl _
    |some args=>exact UF hg hn _ _ _ _ _
  · rename_i fo _ _
    cases bP E.P st.tmps 0 fo with
    |none=>exact Le.refl _
    |some q=>
     cases jE E.P st.tmps (fun i=>c.argTypes.getD i 0) 0 c.args.toList with
     |none=>exact Le.refl _
     |some args=>
      simp only[aO]
      cases q<;>first|exact Le.refl _|exact UF hg hn _ _ _ _ _
  · exact Le.refl _
theorem Ji {β:Type} (ops:Array Oper):∀ (l:List (Oper×Bool)) (st:St) {K K':St→aj β},(∀ s,Le (K s) (K' s))→Le (bf E ⟨p,g⟩ ops l st K) (bf E ⟨p,g'⟩ ops l st K')
 | [],st,K,K',hK=>hK st
 |(o,dr)::r,st,K,K',hK=>by
  rw[dM,dM]
  cases guardOf ops st.tmps o with
  |none=>exact Le.refl _
  |some b=>
   cases b with
   |true=>exact amb hg hn dr o st fun q s=>Ji ops r _ hK
   |false=>exact Ji ops r _ hK
omit hg hn in
theorem Kq {B B':St→aj (Ex×St)} (h:∀ s,Le (B s) (B' s)):∀ (n:Nat) (s:St),Le (bH B n s) (bH B' n s)
 |0,s=>Le.refl _
 |n+1,s=>by
  simp only[bH]
  refine Le.IU (h s) fun x=>?_
  obtain⟨e,s'⟩:=x
  cases e with
  |norm=>exact Kq h n s'
  |_=>exact Le.refl _
variable (f:FuncId) (fn:Func) (n base:Nat)
theorem o8:∀ (c:Code) {β:Type} (st:St) {K K':Ex→St→aj β},(∀ e s,Le (K e s) (K' e s))→Le (dw E ⟨p,g⟩ f fn n base c st K) (dw E ⟨p,g'⟩ f fn n base c st K')
 | .skip,β,st,K,K',hK=>hK _ _
 | .region id ops dr,β,st,K,K',hK=>by
  simp only[dw]
  cases dr with
  |true=>
   cases sW ops with
   |true=>exact Ji hg hn ops _ st fun s=>hK _ _
   |false=>exact Le.refl _
  |false=>exact Ji hg hn ops _ st fun s=>hK _ _
 | .seq a b,β,st,K,K',hK=>by
  simp only[dw]
  refine o8 a st fun e s=>?_
  cases e with
  |norm=>exact o8 b s hK
  |_=>exact hK _ _
 | .cond c a b,β,st,K,K',hK=>by
  simp only[dw]
  cases bP E.P st.tmps 0 c with
  |none=>exact Le.refl _
  |some q=>
   simp only[aO]
   cases q with
   |t x=>
    cases x with
    |bool v=>cases v with
     |true=>exact o8 a st hK
     |false=>exact o8 b st hK
    |_=>exact Le.refl _
   |_=>exact Le.refl _
 | .block id c,β,st,K,K',hK=>by
  simp only[dw]
  refine o8 c st fun e s=>?_
  cases e with
  |exit i=>
   simp only[Ex.k]
   split
   · exact hK _ _
   · exact hK _ _
  |_=>exact hK _ _
 | .loop c,β,st,K,K',hK=>by
  simp only[dw]
  refine Le.IU (Kq (fun s=>o8 c s fun e s=>Le.refl _) n _) fun x=>hK _ _
 | .exit id,β,st,K,K',hK=>hK _ _
 | .scope c,β,st,K,K',hK=>o8 c st hK
 | .label _,β,st,K,K',hK=>hK _ _
 | .ret,β,st,K,K',hK=>hK _ _
 | .rangeFunc ..,β,st,K,K',hK=>Le.refl _
 | .goto ..,β,st,K,K',hK=>Le.refl _
 | .refuse ..,β,st,K,K',hK=>Le.refl _
theorem aaH {β:Type} (args:List PV) (H:List ah) (K:PV→List ah→aj β):Le (fQ E ⟨p,g⟩ n f args H K) (fQ E ⟨p,g'⟩ n f args H K):=by
 unfold fQ
 split
 · exact Le.refl _
 · split
   · exact Le.refl _
   · exact o8 hg hn f _ n _ _ _ fun e s=>Le.refl _
end
structure Pin where
 f:FuncId
 args:List PV
 H:List ah
 r:PV
 H':List ah
open Classical in
noncomputable def iQ {β:Type} (p:Prop) (r:aj β):aj β:=if p then r else .stuck
theorem mD {β:Type} {p:Prop} {r:aj β} (h:p):iQ p r=r:=if_pos h
theorem bG {β:Type} {a:List PV} {b:List ah} {r:aj β}:iQ (a=a∧b=b) r=r:=if_pos ⟨rfl,rfl⟩
noncomputable def goP:List Pin→(β:Type)→FuncId→List PV→List ah→(PV→List ah→aj β)→aj β
 | [],_,_,_,_,_=> .stuck
 |p::ps,β,f,args,H,K=>bif Nat.beq p.f f then iQ (args=p.args∧H=p.H) (K p.r p.H') else goP ps β f args H K
def iY (E:Env) (N:Nat) (p:Pin):Prop:=∀ (β:Type) (K:PV→List ah→aj β),runK E N β p.f p.args p.H K=K p.r p.H'
def oZ (E:Env) (N:Nat):List Pin→Prop
 | []=>True
 |p::ps=>iY E N p∧oZ E N ps
theorem Jy {E:Env} {N:Nat}:∀ {ps:List Pin},oZ E N ps→∀ (β:Type) (f:FuncId) (args:List PV) (H:List ah) (K:PV→List ah→aj β),Le (goP ps β f args H K) (runK E N β f args H K)
 | [],_,β,f,args,H,K=>fun h=>absurd rfl h
 |p::ps,h,β,f,args,H,K=>by
  unfold goP
  cases hf:Nat.beq p.f f with
  |false=>exact Jy h.2 β f args H K
  |true=>
   obtain rfl:=Nat.eq_of_beq_eq_true hf
   simp only[cond_true]
   intro hne
   unfold iQ at hne ⊢
   split
   · rename_i hp
     rw[hp.1,hp.2]; exact h.1 β K
   · rename_i hp; rw[if_neg hp] at hne; exact absurd rfl hne
noncomputable def bI (E:Env) (N:Nat) (ps:List Pin):Caller:=⟨ak E N,goP ps⟩
theorem fF (E:Env):∀ n,(aK E n).Nat
 |0=>fun β γ g hg f args H K=>hg.stuck
 |n+1=>fun β γ g hg f args H K=>Ky (fF E n) hg args H K
def Gf {β:Type} (E:Env) (rc:Caller) (n:Nat) (f:FuncId) (base r:Nat) (K:PV→List ah→aj β):Ex→St→aj β:=match E.P.funcs[f]? with
 |some fn=>(match fn.body with
  |some c=>(match mZ r c with
   |some (_,fs)=>qK E rc f fn n base fs (FX E fn K)
   |none=>fun _ _=> .stuck)
  |none=>fun _ _=> .stuck)
 |none=>fun _ _=> .stuck
def uK (E:Env) (rc:Caller) (n:Nat) (f:FuncId) (base r:Nat):St→aj (Ex×St):=match E.P.funcs[f]? with
 |some fn=>(match fn.body with
  |some c=>(match mZ r c with
   |some (c',_)=>zB E rc f fn n base c'
   |none=>fun _=> .stuck)
  |none=>fun _=> .stuck)
 |none=>fun _=> .stuck
section
variable {E:Env} {N:Nat} {ps:List Pin} (hs:oZ E N ps)
include hs
theorem lT {f:FuncId} {ts:List T} {x:T} (hw:T.wfs ts=true) (hx:E.ext f=none) (h:fQ E (bI E N ps) N f (ts.map .t) [] (aY E f)= .ok x):ak E (N+1) f ts= .ok x:=by
 have:=aaH (E:=E) (p:=ak E N) (Jy hs) (fF E N) f N (ts.map .t) [] (aY E f) (by
  show fQ E (bI E N ps) N f (ts.map .t) [] (aY E f)≠ .stuck
  rw[h]; simp)
 unfold ak jX
 rw[hw,hx]
 simp only[cond_true]
 exact this.trans h
theorem jZ {f:FuncId} {args:List PV} {H:List ah} {r:PV} {H':List ah} (h:fQ E (bI E N ps) N f args H (fun r H'=>(.ok (r,H'):aj (PV×List ah)))= .ok (r,H')):iY E (N+1) ⟨f,args,H,r,H'⟩:=fun β K=>by
 have:=aaH (E:=E) (p:=ak E N) (Jy hs) (fF E N) f N args H (fun r H'=>(.ok (r,H'):aj (PV×List ah))) (by
  show fQ E (bI E N ps) N f args H (fun r H'=>(.ok (r,H'):aj (PV×List ah)))≠ .stuck
  rw[h]; simp)
 have h2:fQ E (aK E N) N f args H (fun r H'=>(.ok (r,H'):aj (PV×List ah)))= .ok (r,H'):=this.trans h
 have h3:=Ky (E:=E) (f:=f) (n:=N) (fF E N) (Strict.bind (β:=PV×List ah) fun x=>K x.1 x.2) args H fun r H'=>(.ok (r,H'):aj (PV×List ah))
 simp only[h2,aj.bind_ok] at h3
 exact h3.symm
omit hs in
theorem vN {p:FuncId→List T→aj T} {g g':(β:Type)→FuncId→List PV→List ah→(PV→List ah→aj β)→aj β}
 (hg:∀ β f args H K,Le (g β f args H K) (g' β f args H K)) (hn:(⟨p,g'⟩:Caller).Nat) (f:FuncId) (fn:Func) (n base:Nat) {β:Type} (K:Ex→St→aj β):
 ∀ (fs:List Frm) (e:Ex) (s:St),Le (qK E ⟨p,g⟩ f fn n base fs K e s) (qK E ⟨p,g'⟩ f fn n base fs K e s)
 | [],e,s=>Le.refl _
 | .seq b::r,e,s=>by
  simp only[qK]
  cases e with
  |norm=>exact o8 hg hn f fn n base b s fun e s=>vN hg hn f fn n base K r e s
  |exit i=>exact vN hg hn f fn n base K r _ s
  |ret=>exact vN hg hn f fn n base K r _ s
 | .block id::r,e,s=>by
  simp only[qK]
  cases e with
  |exit i=>
   simp only[Ex.k]
   split
   · exact vN hg hn f fn n base K r _ s
   · exact vN hg hn f fn n base K r _ s
  |_=>exact vN hg hn f fn n base K r _ s
theorem ado {f:FuncId} {r:Nat} {e:Ex} {s:St} {x:T} (h:Gf E (bI E N ps) N f 0 r (aY E f) e s= .ok x):aS E N f 0 r (aY E f) e s= .ok x:=by
 cases hf:E.P.funcs[f]? with
 |none=>simp[Gf,hf] at h
 |some fn=>
  cases hb:fn.body with
  |none=>simp[Gf,hf,hb] at h
  |some c=>
   cases hl:mZ r c with
   |none=>simp[Gf,hf,hb,hl] at h
   |some y=>
    simp only[Gf,hf,hb,hl] at h
    simp only[aS,hf,hb,hl]
    exact(vN (E:=E) (p:=ak E N) (Jy hs) (fF E N) f _ N 0 _ _ e s (by
     show qK E (bI E N ps) f _ N 0 _ _ e s≠ .stuck
     rw[h]; simp)).trans h
theorem qg {f:FuncId} {r:Nat} {s:St} {x:Ex×St} (h:uK E (bI E N ps) N f 0 r s= .ok x):aH E N f 0 r s= .ok x:=by
 cases hf:E.P.funcs[f]? with
 |none=>simp[uK,hf] at h
 |some fn=>
  cases hb:fn.body with
  |none=>simp[uK,hf,hb] at h
  |some c=>
   cases hl:mZ r c with
   |none=>simp[uK,hf,hb,hl] at h
   |some y=>
    simp only[uK,hf,hb,hl] at h
    simp only[aH,hf,hb,hl]
    exact(o8 (E:=E) (p:=ak E N) (Jy hs) (fF E N) f _ N 0 _ s (fun e s=>Le.refl _) (by
     show zB E (bI E N ps) f _ N 0 _ s≠ .stuck
     rw[h]; simp)).trans h
end
section
variable {β:Type} (E:Env) (rc:Caller) (n:Nat) (f:FuncId) (base:Nat)
def bU (r:Nat):St→aj (Ex×St):=match E.P.funcs[f]? with
 |some fn=>(match fn.body with
  |some c=>(match mZ r c with
   |some (c',_)=>zB E rc f fn n base c'
   |none=>fun _=> .stuck)
  |none=>fun _=> .stuck)
 |none=>fun _=> .stuck
def rF (r:Nat) (K:PV→List ah→aj β):Ex→St→aj β:=match E.P.funcs[f]? with
 |some fn=>(match fn.body with
  |some c=>(match mZ r c with
   |some (_,fs)=>qK E rc f fn n base fs (FX E fn K)
   |none=>fun _ _=> .stuck)
  |none=>fun _ _=> .stuck)
 |none=>fun _ _=> .stuck
def akX (r q:Nat):St→aj (Ex×St):=match E.P.funcs[f]? with
 |some fn=>(match fn.body with
  |some c=>(match mZ r c with
   |some (c1,_)=>(match mZ q c1 with
    |some (c2,_)=>zB E rc f fn n base c2
    |none=>fun _=> .stuck)
   |none=>fun _=> .stuck)
  |none=>fun _=> .stuck)
 |none=>fun _=> .stuck
def amx (r q:Nat):Ex→St→aj (Ex×St):=match E.P.funcs[f]? with
 |some fn=>(match fn.body with
  |some c=>(match mZ r c with
   |some (c1,_)=>(match mZ q c1 with
    |some (_,fs)=>qK E rc f fn n base fs fun e st=>e.k (.ok (.norm,canon base (E.hint f (bF c1)).1 st))
     (fun i=> .ok (.exit i,canon base (E.hint f (bF c1)).2 st)) (.ok (.ret,canon base (lH fn) st))
    |none=>fun _ _=> .stuck)
   |none=>fun _ _=> .stuck)
  |none=>fun _ _=> .stuck)
 |none=>fun _ _=> .stuck
def uD (r:Nat) (K:PV→List ah→aj β) (st:St):aj β:=(bH (bU E rc n f base r) n st).bind fun p=>rF E rc n f base r K p.1 p.2
def atg (r q:Nat) (st:St):aj (Ex×St):=(bH (akX E rc n f base r q) n st).bind fun p=>amx E rc n f base r q p.1 p.2
end
theorem jA {β:Type} {E:Env} {rc:Caller} {n:Nat} {f:FuncId} {base r:Nat} {K:PV→List ah→aj β} {s s':St} {e:Ex} (h:bH (bU E rc n f base r) n s= .ok (e,s')):uD E rc n f base r K s=rF E rc n f base r K e s':=by
 unfold uD; rw[h]; rfl
theorem aU {E:Env} {n:Nat} {f:FuncId} {r:Nat} {s s':St} {e:Ex} (h:bH (aH E n f 0 r) n s= .ok (e,s')):bC E n f r s=aS E n f 0 r (aY E f) e s':=by
 unfold bC; rw[h]; rfl
end
section
open Go.RowKit
theorem vJ {α:Type} {B:St→aj (Ex×St)} {S:Nat→St} {R X:St} {id:Nat} (q:α→Bool) (l:List α) {n:Nat} (hn:l.length < n)
 (h:∀ j x,l[j]? =some x→B (S j)=bif q x then .ok (.ret,R) else .ok (.norm,S (j+1))) (hx:B (S l.length)= .ok (.exit id,X)):
 bH B n (S 0)=bif l.any q then .ok (.ret,R) else .ok (.exit id,X):=by
 have main:∀ (r p:List α) (n:Nat),l=p++r→r.length < n→bH B n (S p.length)=bif r.any q then .ok (.ret,R) else .ok (.exit id,X):=by
  intro r
  induction r with
  |nil=>
   intro p n hp hn
   obtain⟨n,rfl⟩:∃ m,n=m+1:=⟨n - 1,by omega⟩
   have:p.length=l.length:=by rw[hp]; simp
   rw[this,eH hx]; rfl
  |cons x r ih=>
   intro p n hp hn
   obtain⟨n,rfl⟩:∃ m,n=m+1:=⟨n - 1,by omega⟩
   have hs:=h p.length x (by rw[hp]; simp)
   rw[List.any_cons]
   cases hq:q x with
   |true=>rw[hq,cond_true] at hs; rw[eF hs]; rfl
   |false=>
    rw[hq,cond_false] at hs
    have:=ih (p++ [x]) n (by rw[hp]; simp) (by simp at hn; omega)
    rw[List.length_append] at this
    rw[aW hs]; exact this
 exact main l [] n rfl hn
theorem lW {α β:Type} {B:St→aj (Ex×St)} {S:β→Nat→St} {X:β→St} {id:Nat} (I:β→Nat→Prop) (f:β→α→β) (l:List α) {n:Nat} (b:β) (hn:l.length < n)
 (h:∀ b j x,l[j]? =some x→I b j→B (S b j)= .ok (.norm,S (f b x) (j+1))∧I (f b x) (j+1)) (hx:∀ b,I b l.length→B (S b l.length)= .ok (.exit id,X b)) (hb:I b 0):
 bH B n (S b 0)= .ok (.exit id,X (l.foldl f b))∧I (l.foldl f b) l.length:=by
 have main:∀ (r p:List α) (n:Nat) (b:β),l=p++r→r.length < n→I b p.length→bH B n (S b p.length)= .ok (.exit id,X (r.foldl f b))∧I (r.foldl f b) l.length:=by
  intro r
  induction r with
  |nil=>
   intro p n b hp hn hI
   obtain⟨n,rfl⟩:∃ m,n=m+1:=⟨n - 1,by omega⟩
   have:p.length=l.length:=by rw[hp]; simp
   rw[this] at hI ⊢
   exact⟨eH (hx b hI),hI⟩
  |cons x r ih=>
   intro p n b hp hn hI
   obtain⟨n,rfl⟩:∃ m,n=m+1:=⟨n - 1,by omega⟩
   obtain⟨hs,hI'⟩:=h b p.length x (by rw[hp]; simp) hI
   have hlen:(p++ [x]).length=p.length+1:=by simp
   have:=ih (p++ [x]) n (f b x) (by rw[hp]; simp) (by simp at hn; omega) (by rw[hlen]; exact hI')
   rw[hlen] at this
   rw[aW hs]; exact this
 exact main l [] n b rfl hn hb
def YM {α β γ:Type} (f:β→α→β ⊕ γ):List α→β→β ⊕ γ
 | [],b=> .inl b
 |x::r,b=>match f b x with
  | .inl b=>YM f r b
  | .inr c=> .inr c
end
section
open Go.RowKit
def spine:Code→List Code
 | .seq a b=>spine a++spine b
 | .scope c=>spine c
 |c=>[c]
section
variable {β:Type} (E:Env) (rc:Caller) (f:FuncId) (fn:Func) (n base:Nat)
def kX:List Code→St→(Ex→St→aj β)→aj β
 | [],st,K=>K .norm st
 |c::l,st,K=>dw E rc f fn n base c st fun e st=>e.k (kX l st K) (fun i=>K (.exit i) st) (K .ret st)
theorem oK:∀ (l m:List Code) (st:St) (K:Ex→St→aj β),kX E rc f fn n base (l++m) st K=kX E rc f fn n base l st fun e st=>e.k (kX E rc f fn n base m st K) (fun i=>K (.exit i) st) (K .ret st)
 | [],m,st,K=>rfl
 |c::l,m,st,K=>by
  simp only[List.cons_append,kX]
  congr 1
  funext e s
  cases e with
  |norm=>exact oK l m s K
  |_=>rfl
theorem alc (K:Ex→St→aj β):(fun e st=>Ex.k e (K .norm st) (fun i=>K (.exit i) st) (K .ret st))=K:=by
 funext e st
 cases e<;>rfl
theorem lU (c:Code) (st:St) (K:Ex→St→aj β):kX E rc f fn n base [c] st K=dw E rc f fn n base c st K:=by
 show dw E rc f fn n base c st (fun e st=>e.k (K .norm st) (fun i=>K (.exit i) st) (K .ret st))=_
 rw[alc]
theorem lq:∀ (c:Code) (st:St) (K:Ex→St→aj β),dw E rc f fn n base c st K=kX E rc f fn n base (spine c) st K
 | .seq a b,st,K=>by
  show dw E rc f fn n base a st (fun e st=>e.k (dw E rc f fn n base b st K) (fun i=>K (.exit i) st) (K .ret st))=_
  rw[spine,oK,lq a]
  congr 1
  funext e s
  cases e with
  |norm=>exact lq b s K
  |_=>rfl
 | .scope c,st,K=>lq c st K
 | .skip,st,K=>(lU _ _ _ _ _ _ _ _ _).symm
 | .region _ _ _,st,K=>(lU _ _ _ _ _ _ _ _ _).symm
 | .cond _ _ _,st,K=>(lU _ _ _ _ _ _ _ _ _).symm
 | .block _ _,st,K=>(lU _ _ _ _ _ _ _ _ _).symm
 | .loop _,st,K=>(lU _ _ _ _ _ _ _ _ _).symm
 | .exit _,st,K=>(lU _ _ _ _ _ _ _ _ _).symm
 | .label _,st,K=>(lU _ _ _ _ _ _ _ _ _).symm
 | .ret,st,K=>(lU _ _ _ _ _ _ _ _ _).symm
 | .rangeFunc ..,st,K=>(lU _ _ _ _ _ _ _ _ _).symm
 | .goto ..,st,K=>(lU _ _ _ _ _ _ _ _ _).symm
 | .refuse ..,st,K=>(lU _ _ _ _ _ _ _ _ _).symm
end
def oC (E:Env) (f:FuncId) (args:List PV):St:=match E.P.funcs[f]? with
 |some fn=>⟨args++List.replicate (fn.ntmps - args.length) dW,[]⟩
 |none=>⟨[],[]⟩
def zo (E:Env) (n:Nat) (f:FuncId) (i:Nat) (st:St):aj T:=match E.P.funcs[f]? with
 |some fn=>(match fn.body with
  |some c=>kX E (aK E n) f fn n 0 ((spine c).drop i) st (FX E fn (aY E f))
  |none=> .stuck)
 |none=> .stuck
def NK (E:Env) (n:Nat) (f:FuncId) (i k:Nat) (st:St) (Kc:St→aj T):aj T:=match E.P.funcs[f]? with
 |some fn=>(match fn.body with
  |some c=>kX E (aK E n) f fn n 0 (((spine c).drop i).take k) st fun e st=>e.k (Kc st) (fun i=>FX E fn (aY E f) (.exit i) st) (FX E fn (aY E f) .ret st)
  |none=> .stuck)
 |none=> .stuck
theorem Gq {E:Env} {n:Nat} {f:FuncId} {i:Nat} {st:St} (k:Nat):zo E n f i st=NK E n f i k st (zo E n f (i+k)):=by
 unfold zo NK
 cases h:E.P.funcs[f]? with
 |none=>rfl
 |some fn=>
  simp only[]
  cases hb:fn.body with
  |none=>rfl
  |some c=>
   simp only[h,hb]
   have e:(spine c).drop i=((spine c).drop i).take k++(spine c).drop (i+k):=by rw[←List.drop_drop,List.take_append_drop]
   conv=>lhs; rw[e]
   rw[oK]
theorem Dy {E:Env} {n:Nat} {f:FuncId} {ts:List T} (hx:E.ext f=none) (hw:T.wfs ts=true):ak E (n+1) f ts=zo E n f 0 (oC E f (ts.map .t)):=by
 have e:ak E (n+1) f ts=fQ E (aK E n) n f (ts.map .t) [] (aY E f):=by
  unfold ak jX
  rw[hw,hx]
  rfl
 rw[e]
 unfold zo oC fQ
 simp only[List.drop_zero]
 cases h:E.P.funcs[f]? with
 |none=>rfl
 |some fn=>
  simp only[]
  cases hb:fn.body with
  |none=>rfl
  |some c=>simp only[hb]; exact lq _ _ _ _ _ _ _ _ _
end
section
open Go.RowKit
section
variable {E:Env} {rc:Caller} {f:FuncId} {fn:Func} {n base:Nat}
def wH (E:Env) (rc:Caller) (f:FuncId) (fn:Func) (base:Nat):List Code→St→(Ex→St→Prop)→Prop
 | [],st,Q=>Q .norm st
 |c::l,st,Q=>gW E rc f fn base c st fun e st=>e.kP (wH E rc f fn base l st Q) (fun i=>Q (.exit i) st) (Q .ret st)
theorem eG:∀ (c:Code) {st:St} {Q Q':Ex→St→Prop},(∀ e s,Q e s→Q' e s)→gW E rc f fn base c st Q→gW E rc f fn base c st Q'
 | .skip,st,Q,Q',hq,h=>hq _ _ h
 | .region id ops dr,st,Q,Q',hq,h=>by
  simp only[gW] at h ⊢
  rcases h with h|h
  rotate_left
  · exact .inr fun base F κ a w R hb rel hR=>h base F κ a w R hb rel fun st' F' κ' a' w' h1 r1 ev1=>hR st' F' κ' a' w' (hq _ _ h1) r1 ev1
  refine .inl ?_
  cases dr with
  |true=>
   simp only[cond_true] at h ⊢
   obtain⟨a,s,b,c⟩:=h
   exact⟨a,s,b,hq _ _ c⟩
  |false=>
   simp only[cond_false] at h ⊢
   have go:∀ (l:List Oper) {st:St},CZ E rc ops l st (Q .norm)→CZ E rc ops l st (Q' .norm):=by
    intro l
    induction l with
    |nil=>exact fun h=>hq _ _ h
    |cons o r ih=>
     intro st h
     simp only[CZ] at h ⊢
     unfold stepD at h ⊢
     split at h
     · obtain⟨m,es,c,a1,a2,a3,a4⟩:=h
       exact⟨m,es,c,a1,a2,a3,ih a4⟩
     · obtain⟨l,m,since,seen,last,es,c,a1,a2,a3,a4,a5,a6,a7⟩:=h
       exact⟨l,m,since,seen,last,es,c,a1,a2,a3,a4,a5,fun h=>ih (a6 h),fun e he=>ih (a7 e he)⟩
     · obtain⟨l,m,since,seen,es,c,n,e,a1,a2,a3,a4,a5⟩:=h
       exact⟨l,m,since,seen,es,c,n,e,a1,a2,a3,a4,ih a5⟩
     · rcases h with ⟨l,e,k,xs,rs,R,a1,a2,a3,a4,a5⟩|⟨s,a1,a2⟩
       · exact .inl ⟨l,e,k,xs,rs,R,a1,a2,a3,a4,fun ys hR=>ih (a5 ys hR)⟩
       · exact .inr ⟨s,a1,ih a2⟩
     · obtain⟨s,a1,a2⟩:=h
       exact⟨s,a1,ih a2⟩
   exact go _ h
 | .seq a b,st,Q,Q',hq,h=>by
  simp only[gW] at h ⊢
  refine eG a (fun e s h=>?_) h
  cases e with
  |norm=>exact eG b hq h
  |exit i=>exact hq _ _ h
  |ret=>exact hq _ _ h
 | .cond c a b,st,Q,Q',hq,h=>by
  simp only[gW] at h ⊢
  obtain⟨v,e1,e2⟩:=h
  refine⟨v,e1,?_⟩
  cases v with
  |true=>exact eG a hq e2
  |false=>exact eG b hq e2
 | .block id c,st,Q,Q',hq,h=>by
  simp only[gW] at h ⊢
  refine eG c (fun e s h=>?_) h
  cases e with
  |norm=>exact hq _ _ h
  |exit i=>
   simp only[Ex.kP] at h ⊢
   split
   · rename_i hi; rw[if_pos hi] at h; exact hq _ _ h
   · rename_i hi; rw[if_neg hi] at h; exact hq _ _ h
  |ret=>exact hq _ _ h
 | .loop c,st,Q,Q',hq,h=>by
  simp only[gW] at h ⊢
  obtain⟨I,h0,step⟩:=h
  refine⟨I,h0,fun k s hI=>eG c (fun e s h=>?_) (step k s hI)⟩
  cases e with
  |norm=>exact h
  |exit i=>exact hq _ _ h
  |ret=>exact hq _ _ h
 | .exit id,st,Q,Q',hq,h=>hq _ _ h
 | .scope c,st,Q,Q',hq,h=>by
  simp only[gW] at h ⊢
  exact eG c hq h
 | .label l,st,Q,Q',hq,h=>hq _ _ h
 | .ret,st,Q,Q',hq,h=>hq _ _ h
 | .rangeFunc ..,st,Q,Q',hq,h=>h
 | .goto ..,st,Q,Q',hq,h=>h
 | .refuse ..,st,Q,Q',hq,h=>h
theorem zM {Q:Ex→St→Prop} {e:Ex} {st:St} (h:e.kP (Q .norm st) (fun i=>Q (.exit i) st) (Q .ret st)):Q e st:=by cases e<;>exact h
theorem IG:∀ (l m:List Code) {st:St} {Q:Ex→St→Prop},wH E rc f fn base (l++m) st Q→wH E rc f fn base l st fun e st=>e.kP (wH E rc f fn base m st Q) (fun i=>Q (.exit i) st) (Q .ret st)
 | [],m,st,Q,h=>h
 |c::l,m,st,Q,h=>by
  simp only[List.cons_append,wH] at h ⊢
  refine eG c (fun e s h=>?_) h
  cases e with
  |norm=>exact IG l m h
  |exit i=>exact h
  |ret=>exact h
theorem qG:∀ (c:Code) {st:St} {Q:Ex→St→Prop},wH E rc f fn base (spine c) st Q→gW E rc f fn base c st Q
 | .seq a b,st,Q,h=>by
  simp only[gW]
  rw[spine] at h
  refine eG a (fun e s h=>?_) (qG a (IG _ _ h))
  cases e with
  |norm=>exact qG b h
  |exit i=>exact h
  |ret=>exact h
 | .scope c,st,Q,h=>by
  simp only[gW]
  exact qG c h
 | .skip,st,Q,h=>eG _ (fun e s h=>zM h) h
 | .region id ops dr,st,Q,h=>eG (.region id ops dr) (fun e s h=>zM h) h
 | .cond c a b,st,Q,h=>eG (.cond c a b) (fun e s h=>zM h) h
 | .block id c,st,Q,h=>eG (.block id c) (fun e s h=>zM h) h
 | .loop c,st,Q,h=>eG (.loop c) (fun e s h=>zM h) h
 | .exit id,st,Q,h=>eG (.exit id) (fun e s h=>zM h) h
 | .label l,st,Q,h=>eG (.label l) (fun e s h=>zM h) h
 | .ret,st,Q,h=>eG .ret (fun e s h=>zM h) h
 | .rangeFunc ..,st,Q,h=>h
 | .goto ..,st,Q,h=>h
 | .refuse ..,st,Q,h=>h
theorem Ry (hrc:rc.Nat):∀ (l m:List Code) {st st':St} {e:Ex} {Q:Ex→St→Prop},kX E rc f fn n base l st (fun e s=>(.ok (e,s):aj (Ex×St)))= .ok (e,st')→e.kP (wH E rc f fn base m st' Q) (fun i=>Q (.exit i) st') (Q .ret st')→wH E rc f fn base (l++m) st Q
 | [],m,st,st',e,Q,h,hQ=>by
  simp only[kX,aj.ok.injEq,Prod.mk.injEq] at h
  obtain⟨rfl,rfl⟩:=h
  exact hQ
 |c::l,m,st,st',e,Q,h,hQ=>by
  simp only[kX] at h
  simp only[List.cons_append,wH]
  obtain⟨e1,s1,h1,h2⟩:=Ae hrc h
  refine qP hrc c h1 ?_
  cases e1 with
  |norm=>exact Ry hrc l m h2 hQ
  |exit i=>
   simp only[Ex.k,aj.ok.injEq,Prod.mk.injEq] at h2
   obtain⟨rfl,rfl⟩:=h2
   exact hQ
  |ret=>
   simp only[Ex.k,aj.ok.injEq,Prod.mk.injEq] at h2
   obtain⟨rfl,rfl⟩:=h2
   exact hQ
end
end
section
open Go.RowKit
def gV:Code→Code
 | .block _ (.loop c)=>c
 | .block _ c=>c
 | .loop c=>c
 |c=>c
def akK:List Nat→Code→List Code
 | [],c=>spine c
 |i::p,c=>akK p (gV ((spine c).getD i .skip))
def bodyC (E:Env) (f:FuncId):Code:=match E.P.funcs[f]? with
 |some fn=>fn.body.getD .skip
 |none=> .skip
def dU (E:Env) (f:FuncId):Func:=(E.P.funcs[f]?).getD default
def aN (E:Env) (f:FuncId) (p:List Nat):List Code:=akK p (bodyC E f)
def akv:Code→Array Oper
 | .region _ ops _=>ops
 |_=> #[]
def drC:Code→Bool
 | .region _ _ dr=>dr
 |_=>true
def iU (E:Env) (f:FuncId) (p:List Nat) (i:Nat):Array Oper:=akv ((aN E f p).getD i .skip)
section
variable (E:Env) (n:Nat) (f:FuncId) (p:List Nat)
def dO (i k:Nat) (st:St):aj (Ex×St):=kX E (aK E n) f (dU E f) n 0 (((aN E f p).drop i).take k) st fun e s=> .ok (e,s)
def akw (i j k:Nat) (st:St):aj St:=bf E (aK E n) (iU E f p i) ((((iU E f p i).toList.drop j).take k).map fun o=>(o,false)) st fun s=> .ok s
def nS (i:Nat):St→aj (Ex×St):=zB E (aK E n) f (dU E f) n 0 (gV ((aN E f p).getD i .skip))
def dX (i:Nat):List Nat×List Nat:=E.hint f (bF (gV ((aN E f p).getD i .skip)))
def ay (i:Nat) (st:St) (Q:Ex→St→Prop):Prop:=wH E (aK E n) f (dU E f) 0 ((aN E f p).drop i) st Q
def Ii (i j:Nat) (st:St) (Q:Ex→St→Prop):Prop:=CZ E (aK E n) (iU E f p i) ((iU E f p i).toList.drop j) st fun st=>ay E n f p (i+1) st Q
end
section
variable {E:Env} {n:Nat} {f:FuncId} {p:List Nat}
theorem fD {i:Nat} (k:Nat) {st st':St} {e:Ex} {Q:Ex→St→Prop} (h:dO E n f p i k st= .ok (e,st')) (hq:e.kP (ay E n f p (i+k) st' Q) (fun i=>Q (.exit i) st') (Q .ret st')):ay E n f p i st Q:=by
 unfold ay
 have e1:(aN E f p).drop i=((aN E f p).drop i).take k++(aN E f p).drop (i+k):=by rw[←List.drop_drop,List.take_append_drop]
 rw[e1]
 exact Ry (fF E n) _ _ h hq
theorem kW {i:Nat} {st:St} {Q:Ex→St→Prop} (h:(aN E f p).length=i) (hq:Q .norm st):ay E n f p i st Q:=by
 unfold ay
 rw[List.drop_eq_nil_of_le (by omega)]
 exact hq
theorem drop_one {α:Type} {l:List α} {i:Nat} {c:α} (h:l[i]? =some c):l.drop i=c::l.drop (i+1):=by
 obtain⟨h1,h2⟩:=List.getElem?_eq_some_iff.1 h
 rw[←h2]; exact List.drop_eq_getElem_cons h1
theorem aci {i id:Nat} {ops:Array Oper} {st:St} {Q:Ex→St→Prop} (h:(aN E f p)[i]? =some (.region id ops false)) (hq:Ii E n f p i 0 st Q):ay E n f p i st Q:=by
 unfold ay
 rw[drop_one h]
 simp only[wH,gW,cond_false]
 refine .inl ?_
 have e:iU E f p i=ops:=by unfold iU; rw[List.getD_eq_getElem?_getD,h]; rfl
 unfold Ii ay at hq
 rw[e,List.drop_zero] at hq
 exact hq
theorem G8 {i:Nat} {st:St} {Q:Ex→St→Prop} {c:Code} (h:(aN E f p)[i]? =some c) (hc:∃ id ops dr,c= .region id ops dr) (hq:jf E c st fun st=>ay E n f p (i+1) st Q):ay E n f p i st Q:=by
 obtain⟨id,ops,dr,rfl⟩:=hc
 unfold ay
 rw[drop_one h]
 simp only[wH,gW]
 exact .inr hq
theorem aft {c:Code} (h:drC c=false):∃ id ops,c= .region id ops false:=by
 cases c with
 |region id ops dr=>simp only[drC] at h; subst h; exact⟨id,ops,rfl⟩
 |_=>cases h
theorem yK {i:Nat} {st:St} {Q:Ex→St→Prop} (h:drC ((aN E f p).getD i .skip)=false) (hl:i < (aN E f p).length) (hq:Ii E n f p i 0 st Q):ay E n f p i st Q:=by
 obtain⟨id,ops,e⟩:=aft h
 refine aci (id:=id) (ops:=ops) ?_ hq
 rw[List.getD_eq_getElem?_getD,List.getElem?_eq_getElem hl] at e
 rw[List.getElem?_eq_getElem hl]
 simpa using e
theorem aiR {i j:Nat} {st:St} {Q:Ex→St→Prop} (h:(iU E f p i).toList.length=j) (hq:ay E n f p (i+1) st Q):Ii E n f p i j st Q:=by
 unfold Ii
 rw[List.drop_eq_nil_of_le (by omega)]
 exact hq
theorem aow {i j:Nat} (k:Nat) {st st':St} {Q:Ex→St→Prop} (h:akw E n f p i j k st= .ok st') (hq:Ii E n f p i (j+k) st' Q):Ii E n f p i j st Q:=by
 unfold Ii
 have e1:(iU E f p i).toList.drop j=((iU E f p i).toList.drop j).take k++(iU E f p i).toList.drop (j+k):=by rw[←List.drop_drop,List.take_append_drop]
 rw[e1]
 have app:∀ (l m:List Oper) (st:St) (Q:St→Prop),CZ E (aK E n) (iU E f p i) l st (fun st=>CZ E (aK E n) (iU E f p i) m st Q)→CZ E (aK E n) (iU E f p i) (l++m) st Q:=by
  intro l
  induction l with
  |nil=>exact fun m st Q h=>h
  |cons o r ih=>
   intro m st Q h
   simp only[List.cons_append,CZ] at h ⊢
   have:∀ (S S':St→Prop),(∀ s,S s→S' s)→stepD E (aK E n) (iU E f p i) o st S→stepD E (aK E n) (iU E f p i) o st S':=fun S S' hS h=>by
    have:=eG (E:=E) (rc:=aK E n) (f:=f) (fn:=dU E f) (base:=0) (.region 0 #[o] false) (st:=st) (Q:=fun _ s=>S s) (Q':=fun _ s=>S' s) (fun _ s h=>hS s h)
    unfold stepD at h ⊢
    split at h
    · obtain⟨m,es,c,a1,a2,a3,a4⟩:=h
      exact⟨m,es,c,a1,a2,a3,hS _ a4⟩
    · obtain⟨l,m,since,seen,last,es,c,a1,a2,a3,a4,a5,a6,a7⟩:=h
      exact⟨l,m,since,seen,last,es,c,a1,a2,a3,a4,a5,fun h=>hS _ (a6 h),fun e he=>hS _ (a7 e he)⟩
    · obtain⟨l,m,since,seen,es,c,n,e,a1,a2,a3,a4,a5⟩:=h
      exact⟨l,m,since,seen,es,c,n,e,a1,a2,a3,a4,hS _ a5⟩
    · rcases h with ⟨l,e,k,xs,rs,R,a1,a2,a3,a4,a5⟩|⟨s,a1,a2⟩
      · exact .inl ⟨l,e,k,xs,rs,R,a1,a2,a3,a4,fun ys hR=>hS _ (a5 ys hR)⟩
      · exact .inr ⟨s,a1,hS _ a2⟩
    · obtain⟨s,a1,a2⟩:=h
      exact⟨s,a1,hS _ a2⟩
   exact this _ _ (fun s h=>ih m s Q h) h
 refine app _ _ _ _ (Jh (fF E n) h ?_)
 exact hq
theorem Ap {i j:Nat} {o:Oper} {st:St} {Q:Ex→St→Prop} (h:(iU E f p i).toList[j]? =some o) (hq:stepD E (aK E n) (iU E f p i) o st fun st=>Ii E n f p i (j+1) st Q):Ii E n f p i j st Q:=by
 unfold Ii
 rw[drop_one h]
 exact hq
theorem zn {i id:Nat} {st X:St} {Q:Ex→St→Prop} {c:Code} (h:(aN E f p)[i]? =some (.block id (.loop c))) (hi:bH (nS E n f p i) n (canon 0 (dX E f p i).1 st)= .ok (.exit id,X)) (hq:ay E n f p (i+1) X Q):ay E n f p i st Q:=by
 refine fD 1 (e:= .norm) (st':=X) ?_ hq
 unfold dO
 rw[drop_one h]
 have e:gV ((aN E f p).getD i .skip)=c:=by rw[List.getD_eq_getElem?_getD,h]; rfl
 unfold nS dX at hi
 rw[e] at hi
 show dw E (aK E n) f (dU E f) n 0 (.block id (.loop c)) st _=_
 simp only[dw]
 unfold zB at hi
 rw[hi]
 simp[Ex.k,kX]
theorem xK {i id:Nat} {st:St} {Q:Ex→St→Prop} {c:Code} (h:(aN E f p)[i]? =some (.block id (.loop c))) (hp:aN E f (p++ [i])=spine c) (I:Nat→St→Prop) {m:Nat} (h0:I m (canon 0 (dX E f p i).1 st))
 (step:∀ m st,I m st→ay E n f (p++ [i]) 0 st fun e st=>e.kP (∃ m',m' < m∧I m' (canon 0 (dX E f p i).1 st))
  (fun j=>if j=id then ay E n f p (i+1) (canon 0 (dX E f p i).2 st) Q else Q (.exit j) (canon 0 (dX E f p i).2 st)) (Q .ret (canon 0 (lH (dU E f)) st))):ay E n f p i st Q:=by
 have e:gV ((aN E f p).getD i .skip)=c:=by rw[List.getD_eq_getElem?_getD,h]; rfl
 unfold dX at h0 step
 rw[e] at h0 step
 unfold ay
 rw[drop_one h]
 simp only[wH,gW]
 refine⟨I,⟨m,h0⟩,fun m st hI=>?_⟩
 have:=step m st hI
 unfold ay at this
 rw[hp,List.drop_zero] at this
 refine eG c (fun e s hh=>?_) (qG c this)
 cases e with
 |norm=>exact hh
 |exit j=>
  simp only[Ex.kP] at hh ⊢
  by_cases hj:j=id
  · rw[if_pos hj] at hh ⊢; exact hh
  · rw[if_neg hj] at hh ⊢; exact hh
 |ret=>exact hh
theorem oI {i id:Nat} {st:St} {Q:Ex→St→Prop} {c:Code} (h:(aN E f p)[i]? =some (.block id c)) (hp:aN E f (p++ [i])=spine c)
 (hq:ay E n f (p++ [i]) 0 st fun e st=>e.kP (ay E n f p (i+1) st Q) (fun j=>if j=id then ay E n f p (i+1) st Q else Q (.exit j) st) (Q .ret st)):ay E n f p i st Q:=by
 unfold ay at hq ⊢
 rw[hp,List.drop_zero] at hq
 rw[drop_one h]
 simp only[wH,gW]
 refine eG c (fun e s hh=>?_) (qG c hq)
 cases e with
 |norm=>exact hh
 |exit j=>
  simp only[Ex.kP] at hh ⊢
  by_cases hj:j=id
  · rw[if_pos hj] at hh ⊢; exact hh
  · rw[if_neg hj] at hh ⊢; exact hh
 |ret=>exact hh
theorem DI {args:List T} {R:PV→List ah→Prop} (hf:∃ fn,E.P.funcs[f]? =some fn∧fn.body.isSome=true)
 (h:ay E n f [] 0 (oC E f (args.map .t)) fun e st=>e.kP (Bo E (dU E f) R st) (fun _=>False) (Bo E (dU E f) R st)):PK E (aK E n) f (args.map .t) [] R:=by
 obtain⟨fn,h1,h2⟩:=hf
 obtain⟨c,h2⟩:=Option.isSome_iff_exists.1 h2
 have e1:dU E f=fn:=by unfold dU; rw[h1]; rfl
 have e2:bodyC E f=c:=by unfold bodyC; rw[h1]; simp[h2]
 unfold PK
 rw[h1]
 simp only[h2]
 unfold ay aN oC at h
 rw[e1,e2,h1] at h
 simp only[akK,List.drop_zero] at h
 exact qG c h
def adY (E:Env) (n:Nat) (f:FuncId) (p:List Nat) (i k:Nat) (r:aj (Ex×St)):aj (Ex×St):=r.bind fun q=>q.1.k (dO E n f p i k q.2) (fun j=> .ok (.exit j,q.2)) (.ok (.ret,q.2))
def Es (E:Env) (f:FuncId) (p:List Nat) (i:Nat) (r:aj (Ex×St)):aj (Ex×St):=r.bind fun q=>q.1.k (.ok (.norm,canon 0 (dX E f p i).1 q.2)) (fun j=> .ok (.exit j,q.2)) (.ok (.ret,q.2))
theorem Ad {i:Nat} {r:aj (Ex×St)} {s:St} (h:Es E f p i r= .ok (.norm,s)):∃ st,r= .ok (.norm,st)∧canon 0 (dX E f p i).1 st=s:=by
 obtain⟨⟨e,st⟩,h1,h2⟩:=bK h
 cases e with
 |norm=>
  simp only[Ex.k,aj.ok.injEq,Prod.mk.injEq,true_and] at h2
  exact⟨st,h1,h2⟩
 |exit j=>simp[Ex.k] at h2
 |ret=>simp[Ex.k] at h2
theorem Ik {i id:Nat} (k:Nat) {st s X:St} {Q:Ex→St→Prop} {c:Code} (h:Es E f p (i+k) (dO E n f p i k st)= .ok (.norm,s)) (hb:(aN E f p)[i+k]? =some (.block id (.loop c))) (hi:bH (nS E n f p (i+k)) n s= .ok (.exit id,X)) (hq:ay E n f p (i+k+1) X Q):ay E n f p i st Q:=by
 obtain⟨st',h1,h2⟩:=Ad h
 subst h2
 exact fD k h1 (zn hb hi hq)
theorem zC {i id:Nat} (k:Nat) {st s:St} {Q:Ex→St→Prop} {c:Code} (h:Es E f p (i+k) (dO E n f p i k st)= .ok (.norm,s)) (hb:(aN E f p)[i+k]? =some (.block id (.loop c))) (hp:aN E f (p++ [i+k])=spine c) (I:Nat→St→Prop) {m:Nat} (h0:I m s)
 (step:∀ m st,I m st→ay E n f (p++ [i+k]) 0 st fun e st=>e.kP (∃ m',m' < m∧I m' (canon 0 (dX E f p (i+k)).1 st))
  (fun j=>if j=id then ay E n f p (i+k+1) (canon 0 (dX E f p (i+k)).2 st) Q else Q (.exit j) (canon 0 (dX E f p (i+k)).2 st)) (Q .ret (canon 0 (lH (dU E f)) st))):ay E n f p i st Q:=by
 obtain⟨st',h1,h2⟩:=Ad h
 subst h2
 exact fD k h1 (xK hb hp I h0 step)
end
def ajU (seen:List Nat):Option Nat:=seen.getLast?
def Yh (es:List (T×T×Nat)) (n:Nat):Option (T×T×Nat):=es.find? fun x=>x.2.2==n
section
variable (E:Env) (n:Nat) (f:FuncId) (p:List Nat)
def adX (rc:Caller) (ops:Array Oper) (o:Oper) (st:St):aj St:=match o.guard,o.op with
 |none,.range t x=>aO (bP E.P st.tmps t x) fun p=>(match p with
  | .mp m=>(match st.heap[m]? with
   |some (.map es c)=>chk (Jg E.P t).isSome (.ok ⟨dK st.tmps o.dst (.ptr st.heap.length 0),st.heap++ [.iter m c [] c]⟩)
   |_=> .stuck)
  |_=> .stuck)
 |none,.entry x=>aO (bP E.P st.tmps 0 x) fun p=>(match p with
  | .ptr l 0=>(match st.heap[l]? with
   |some (.iter m since seen last)=>(match st.heap[m]? with
    |some (.map es c)=>aO (ajU seen) fun n=>aO (Yh es n) fun e=>chk (Nat.beq last c) (.ok ⟨dK st.tmps o.dst (.t (.au [e.1,e.2.1])),st.heap⟩)
    |_=> .stuck)
   |_=> .stuck)
  |_=> .stuck)
 |_,_=>bf E rc ops [(o,false)] st fun s=> .ok s
def YC (rc:Caller) (ops:Array Oper):List Oper→St→aj St
 | [],st=> .ok st
 |o::r,st=>(adX E rc ops o st).bind fun st=>YC rc ops r st
def Rk (c:Code) (st:St):aj (Ex×St):=match c with
 | .region _ ops false=>(YC E (aK E n) ops ops.toList st).bind fun s=> .ok (.norm,s)
 |c=>dw E (aK E n) f (dU E f) n 0 c st fun e s=> .ok (e,s)
def Yw:List Code→St→aj (Ex×St)
 | [],st=> .ok (.norm,st)
 |c::l,st=>(Rk E n f c st).bind fun q=>q.1.k (Yw l q.2) (fun j=> .ok (.exit j,q.2)) (.ok (.ret,q.2))
def acT (i k:Nat) (st:St):aj (Ex×St):=Yw E n f (((aN E f p).drop i).take k) st
def YA (i j k:Nat) (st:St):aj (Ex×St):=(YC E (aK E n) (iU E f p i) ((iU E f p i).toList.drop j) st).bind fun st=>Yw E n f (((aN E f p).drop (i+1)).take k) st
def aoR (i k:Nat) (r:aj (Ex×St)):aj (Ex×St):=r.bind fun q=>q.1.k (acT E n f p i k q.2) (fun j=> .ok (.exit j,q.2)) (.ok (.ret,q.2))
def exX (i:Nat) (r:aj (Ex×St)):aj (Ex×St):=r.bind fun q=>q.1.k .stuck (fun j=> .ok (.exit j,canon 0 (dX E f p i).2 q.2)) .stuck
end
section
variable {E:Env} {n:Nat} {f:FuncId} {p:List Nat}
theorem agl {rc:Caller} {ops:Array Oper} {o:Oper} {st st':St} {Q:St→Prop} (h:adX E rc ops o st= .ok st') (hQ:Q st'):stepD E rc ops o st Q:=by
 unfold adX at h
 split at h
 · rename_i t x hg ho
   obtain⟨dst,op,ty,ps,af,guard⟩:=o
   simp only at hg ho; subst hg; subst ho
   obtain⟨q,e1,e2⟩:=aB (by rw[h]; simp)
   rw[e2] at h
   cases q with
   |mp m=>
    cases hm:st.heap[m]? with
    |none=>simp[hm] at h
    |some ob=>
     cases ob with
     |map es c=>
      simp only[hm] at h
      obtain⟨h3,h4⟩:=dQ (by rw[h]; simp)
      rw[h4] at h
      simp only[aj.ok.injEq] at h
      subst h
      exact⟨m,es,c,e1,hm,h3,hQ⟩
     |_=>simp[hm] at h
   |_=>cases h
 · rename_i x hg ho
   obtain⟨dst,op,ty,ps,af,guard⟩:=o
   simp only at hg ho; subst hg; subst ho
   obtain⟨q,e1,e2⟩:=aB (by rw[h]; simp)
   rw[e2] at h
   cases q with
   |ptr l ofs=>
    cases ofs with
    |succ k=>cases h
    |zero=>
    cases hm:st.heap[l]? with
    |none=>simp[hm] at h
    |some ob=>
     cases ob with
     |iter m since seen last=>
      simp only[hm] at h
      cases hm2:st.heap[m]? with
      |none=>simp[hm2] at h
      |some ob2=>
       cases ob2 with
       |map es c=>
        simp only[hm2] at h
        obtain⟨k,e3,e4⟩:=aB (by rw[h]; simp)
        rw[e4] at h
        obtain⟨e,e5,e6⟩:=aB (by rw[h]; simp)
        rw[e6] at h
        obtain⟨h3,h4⟩:=dQ (by rw[h]; simp)
        rw[h4] at h
        simp only[aj.ok.injEq] at h
        subst h
        have hc:=Nat.eq_of_beq_eq_true h3
        subst hc
        obtain⟨s0,hs0⟩:∃ s0,seen=s0++ [k]:=by
         unfold ajU at e3
         exact List.getLast?_eq_some_iff.1 e3
        subst hs0
        exact⟨l,m,since,s0,es,last,k,e,e1,hm,hm2,e5,hQ⟩
       |_=>simp[hm2] at h
     |_=>simp[hm] at h
   |_=>cases h
 · exact EU h hQ
theorem Rx {rc:Caller} {ops:Array Oper}:∀ {l:List Oper} {st st':St} {Q:St→Prop},YC E rc ops l st= .ok st'→Q st'→CZ E rc ops l st Q
 | [],st,st',Q,h,hQ=>by
  simp only[YC,aj.ok.injEq] at h
  subst h; exact hQ
 |o::r,st,st',Q,h,hQ=>by
  simp only[YC] at h
  obtain⟨s1,h1,h2⟩:=bK h
  exact agl h1 (Rx h2 hQ)
theorem Zk:∀ {c:Code} {st st':St} {e:Ex} {Q:Ex→St→Prop},Rk E n f c st= .ok (e,st')→Q e st'→gW E (aK E n) f (dU E f) 0 c st Q:=by
 intro c st st' e Q h hQ
 unfold Rk at h
 split at h
 · obtain⟨s1,h1,h2⟩:=bK h
   simp only[aj.ok.injEq,Prod.mk.injEq] at h2
   obtain⟨rfl,rfl⟩:=h2
   simp only[gW,cond_false]
   exact .inl (Rx h1 hQ)
 · exact qP (fF E n) _ h hQ
theorem aa0:∀ {l m:List Code} {st st':St} {e:Ex} {Q:Ex→St→Prop},Yw E n f l st= .ok (e,st')→e.kP (wH E (aK E n) f (dU E f) 0 m st' Q) (fun i=>Q (.exit i) st') (Q .ret st')→wH E (aK E n) f (dU E f) 0 (l++m) st Q
 | [],m,st,st',e,Q,h,hQ=>by
  simp only[Yw,aj.ok.injEq,Prod.mk.injEq] at h
  obtain⟨rfl,rfl⟩:=h
  exact hQ
 |c::l,m,st,st',e,Q,h,hQ=>by
  simp only[Yw] at h
  obtain⟨⟨e1,s1⟩,h1,h2⟩:=bK h
  simp only[List.cons_append,wH]
  refine Zk h1 ?_
  cases e1 with
  |norm=>exact aa0 h2 hQ
  |exit i=>
   simp only[Ex.k,aj.ok.injEq,Prod.mk.injEq] at h2
   obtain⟨rfl,rfl⟩:=h2
   exact hQ
  |ret=>
   simp only[Ex.k,aj.ok.injEq,Prod.mk.injEq] at h2
   obtain⟨rfl,rfl⟩:=h2
   exact hQ
theorem Ro {i:Nat} (k:Nat) {st st':St} {e:Ex} {Q:Ex→St→Prop} (h:acT E n f p i k st= .ok (e,st')) (hq:e.kP (ay E n f p (i+k) st' Q) (fun i=>Q (.exit i) st') (Q .ret st')):ay E n f p i st Q:=by
 unfold ay
 have e1:(aN E f p).drop i=((aN E f p).drop i).take k++(aN E f p).drop (i+k):=by rw[←List.drop_drop,List.take_append_drop]
 rw[e1]
 exact aa0 h hq
theorem adT {i j:Nat} (k:Nat) {st st':St} {e:Ex} {Q:Ex→St→Prop} (h:YA E n f p i j k st= .ok (e,st')) (hq:e.kP (ay E n f p (i+1+k) st' Q) (fun i=>Q (.exit i) st') (Q .ret st')):Ii E n f p i j st Q:=by
 obtain⟨s1,h1,h2⟩:=bK h
 unfold Ii
 refine Rx h1 ?_
 exact Ro (p:=p) (i:=i+1) k h2 hq
theorem ahq {i j:Nat} {r:aj (Ex×St)} {s:St} (h:exX E f p i r= .ok (.exit j,s)):∃ st,r= .ok (.exit j,st)∧canon 0 (dX E f p i).2 st=s:=by
 obtain⟨⟨e,st⟩,h1,h2⟩:=bK h
 cases e with
 |norm=>simp[Ex.k] at h2
 |exit j'=>
  simp only[Ex.k,aj.ok.injEq,Prod.mk.injEq,Ex.exit.injEq] at h2
  obtain⟨rfl,rfl⟩:=h2
  exact⟨st,h1,rfl⟩
 |ret=>simp[Ex.k] at h2
theorem step_next {rc:Caller} {ops:Array Oper} {o:Oper} {x:Operand} {st:St} {Q:St→Prop} {l m since last c:Nat} {seen:List Nat} {es:List (T×T×Nat)} (hg:o.guard=none) (ho:o.op= .next x false) (h1:bP E.P st.tmps 0 x=some (.ptr l 0)) (h2:st.heap[l]? =some (.iter m since seen last)) (h3:st.heap[m]? =some (.map es c))
 (hs:∀ e∈es,e.2.2 < since) (hl:seen= []∨es= []∨∃ e∈es,e.2.2 < last) (hf:AL seen es= []→Q ⟨dK st.tmps o.dst (.t (.au [.bool false])),st.heap⟩)
 (ht:∀ e∈AL seen es,Q ⟨dK st.tmps o.dst (.t (.au [.bool true,e.1,e.2.1])),st.heap.set l (.iter m since (seen++ [e.2.2]) c)⟩):stepD E rc ops o st Q:=by
 obtain⟨dst,op,ty,ps,af,guard⟩:=o
 simp only at hg ho; subst hg; subst ho
 exact⟨l,m,since,seen,last,es,c,h1,h2,h3,hs,hl,hf,ht⟩
theorem acY {rc:Caller} {ops:Array Oper} {o:Oper} {g:FuncId} {args:Array Operand} {tys:Array TypeId} {st:St} {Q:St→Prop} {l e k:Nat} {xs rest:List T} {R:List T→Prop} (hg:o.guard=none) (ho:o.op= .call ⟨.value (.func g),args,tys⟩) (h1:jE E.P st.tmps (fun i=>tys.getD i 0) 0 args.toList=some (.own l::rest.map .t))
 (h2:st.heap[l]? =some (.row e k xs)) (hne:xs≠ []) (hs:Ye E g e k xs rest R) (hq:∀ ys,R ys→Q ⟨dK st.tmps o.dst (.t (.au [])),st.heap.set l (.row e k ys)⟩):stepD E rc ops o st Q:=by
 obtain⟨dst,op,ty,ps,af,guard⟩:=o
 simp only at hg ho; subst hg; subst ho
 exact .inl ⟨l,e,k,xs,rest,R,h1,h2,hne,hs,hq⟩
end
end
section
open Go.RowKit
section
variable {β γ:Type} {E:Env} {rc:Caller} {f:FuncId} {fn:Func} {n base:Nat}
theorem tH (hrc:rc.Nat) {g:aj β→aj γ} (hg:Strict g):∀ (l:List Code) (st:St) (K:Ex→St→aj β),g (kX E rc f fn n base l st K)=kX E rc f fn n base l st fun e s=>g (K e s)
 | [],st,K=>rfl
 |c::l,st,K=>by
  simp only[kX]
  rw[kV hrc c hg]
  congr 1
  funext e s
  cases e with
  |norm=>exact tH hrc hg l s K
  |exit i=>rfl
  |ret=>rfl
end
def Df {β:Type} (E:Env) (n:Nat) (f:FuncId) (p:List Nat) (i j k:Nat) (st:St) (K:Ex→St→aj β):aj β:=bf E (aK E n) (iU E f p i) (((iU E f p i).toList.drop j).map fun o=>(o,false)) st fun s=>kX E (aK E n) f (dU E f) n 0 (((aN E f p).drop (i+1)).take k) s K
def oW {β:Type} (E:Env) (n:Nat) (f:FuncId) (p:List Nat) (i k:Nat) (st:St) (K:Ex→St→aj β):aj β:=kX E (aK E n) f (dU E f) n 0 (((aN E f p).drop i).take k) st K
def zX (E:Env) (f:FuncId) (p:List Nat) (i:Nat):Ex→St→aj (Ex×St):=fun e s=>e.k (.ok (.norm,canon 0 (dX E f p i).1 s)) (fun j=> .ok (.exit j,s)) (.ok (.ret,s))
section
variable {E:Env} {n:Nat} {f:FuncId} {p:List Nat}
theorem af7 {i k i2:Nat} {p2:List Nat} {st s:St} (h:oW E n f p i k st (zX E f p2 i2)= .ok (.norm,s)):∃ st',dO E n f p i k st= .ok (.norm,st')∧canon 0 (dX E f p2 i2).1 st'=s:=by
 have e:oW E n f p i k st (zX E f p2 i2)=(dO E n f p i k st).bind fun q=>zX E f p2 i2 q.1 q.2:=by
  unfold oW dO
  rw[tH (fF E n) (Strict.bind fun q:Ex×St=>zX E f p2 i2 q.1 q.2)]
  rfl
 rw[e] at h
 obtain⟨⟨e,st'⟩,h1,h2⟩:=bK h
 cases e with
 |norm=>
  simp only[zX,Ex.k,aj.ok.injEq,Prod.mk.injEq,true_and] at h2
  exact⟨st',h1,h2⟩
 |exit j=>simp[zX,Ex.k] at h2
 |ret=>simp[zX,Ex.k] at h2
theorem ajZ {i j k:Nat} {st st':St} {Q:Ex→St→Prop} (h:Df E n f p i j k st (fun e s=>(.ok (e,s):aj (Ex×St)))= .ok (.norm,st')) (hq:ay E n f p (i+1+k) st' Q):Ii E n f p i j st Q:=by
 unfold Df at h
 have e:(bf E (aK E n) (iU E f p i) (((iU E f p i).toList.drop j).map fun o=>(o,false)) st fun s=>kX E (aK E n) f (dU E f) n 0 (((aN E f p).drop (i+1)).take k) s fun e s=>(.ok (e,s):aj (Ex×St)))=(bf E (aK E n) (iU E f p i) (((iU E f p i).toList.drop j).map fun o=>(o,false)) st fun s=>(.ok s:aj St)).bind fun s=>kX E (aK E n) f (dU E f) n 0 (((aN E f p).drop (i+1)).take k) s fun e s=> .ok (e,s):=by
  rw[nT (Strict.bind fun s:St=>kX E (aK E n) f (dU E f) n 0 (((aN E f p).drop (i+1)).take k) s fun e s=>(.ok (e,s):aj (Ex×St))) (fF E n)]
  rfl
 rw[e] at h
 obtain⟨s1,h1,h2⟩:=bK h
 unfold Ii
 exact Jh (fF E n) h1 (fD (e:= .norm) k h2 hq)
theorem ML {rc:Caller} {ops:Array Oper} {o:Oper} {x:Operand} {st:St} {Q:St→Prop} {l m since c n:Nat} {seen:List Nat} {es:List (T×T×Nat)} {e:T×T×Nat} (hg:o.guard=none) (ho:o.op= .entry x) (h1:bP E.P st.tmps 0 x=some (.ptr l 0)) (h2:st.heap[l]? =some (.iter m since (seen++ [n]) c)) (h3:st.heap[m]? =some (.map es c))
 (h4:Yh es n=some e) (hq:Q ⟨dK st.tmps o.dst (.t (.au [e.1,e.2.1])),st.heap⟩):stepD E rc ops o st Q:=by
 obtain⟨dst,op,ty,ps,af,guard⟩:=o
 simp only at hg ho; subst hg; subst ho
 exact⟨l,m,since,seen,es,c,n,e,h1,h2,h3,h4,hq⟩
end
end
end Go.aP
