/- The texts of a proof, one behind the other: an interpreter and its soundness, what the functions of the program answer, and plain laws on that. -/
import Derived.Test.YtjlpnhpfbgbkhaaGreatK9
set_option linter.unusedVariables false
set_option linter.unusedSimpArgs false
set_option linter.unnecessarySimpa false
set_option linter.unusedSectionVars false
set_option maxRecDepth 100000
namespace Go.aP
section
open Go.RowKit
section
variable {E:Env} {p p':FuncId→List T→aj T} {g g':(β:Type)→FuncId→List PV→List ah→(PV→List ah→aj β)→aj β}
variable (hp:∀ f ts,Le (p f ts) (p' f ts)) (hg:∀ β f args H K,Le (g β f args H K) (g' β f args H K)) (hn:(⟨p',g'⟩:Caller).Nat)
include hp hg hn
theorem UG {β:Type} (dr:Bool) (f:FuncId) (args:List PV) (st:St) (K:PV→St→aj β):Le (mJ E ⟨p,g⟩ dr f args st K) (mJ E ⟨p',g'⟩ dr f args st K):=by
 unfold mJ
 split
 · exact Le.refl _
 · split
   · rename_i ts _
     simp only[]
     split
     · exact Le.IU (hp f ts) fun x=>Le.refl _
     · cases dr with
       |true=>exact Le.refl _
       |false=>
        cases lD E f with
        |none=>exact Le.refl _
        |some e=>exact Le.IU (hp f ts) fun x=>Le.refl _
     · cases dr with
       |true=>exact Le.refl _
       |false=>
        cases lD E f with
        |none=>exact Le.refl _
        |some e=>exact Le.IU (hp f ts) fun x=>Le.refl _
   · cases (dr||(E.ext f).isSome) with
     |true=>exact Le.refl _
     |false=>exact hg _ _ _ _ _
omit hg hn in
theorem akS {β:Type} (x:T) (ts:List T) (K:T→aj β):Le (oN E ⟨p,g⟩ x ts K) (oN E ⟨p',g'⟩ x ts K):=by
 unfold oN
 cases x with
 |fn f fs cs=>
  simp only[]
  cases (E.mode f==0) with
  |true=>exact Le.IU (hp _ _) fun x=>Le.refl _
  |false=>exact Le.refl _
 |_=>exact Le.refl _
theorem amc {β:Type} (dr:Bool) (o:Oper) (st:St) {K K':PV→St→aj β} (hK:∀ q s,Le (K q s) (K' q s)):Le (lg E ⟨p,g⟩ dr o st K) (lg E ⟨p',g'⟩ dr o st K'):=by
 have h2:Le (lg E ⟨p',g'⟩ dr o st K) (lg E ⟨p',g'⟩ dr o st K'):=by
  have e:∀ K:PV→St→aj β,lg E ⟨p',g'⟩ dr o st K=(lg E ⟨p',g'⟩ dr o st fun q s=>(.ok (q,s):aj (PV×St))).bind fun x=>K x.1 x.2:=fun K=>by
   rw[Ef (E:=E) (Strict.bind (β:=PV×St) fun x=>K x.1 x.2) hn dr o fun q s=> .ok (q,s)]
   rfl
  rw[e K,e K']
  exact Le.bind fun x=>hK _ _
 refine Le.trans ?_ h2
 obtain⟨dst,op,type,pos,after,guard⟩:=o
 cases op<;>try exact Le.refl _
 case call c=>
  simp only[lg]
  split
  · exact Le.refl _
  · rename_i f _
    cases jE E.P st.tmps (fun i=>c.argTypes.getD i 0) 0 c.args.toList with
    |none=>exact Le.refl _
    |some args=>exact UG hp hg hn _ _ _ _ _
  · rename_i fo _ _
    cases bP E.P st.tmps 0 fo with
    |none=>exact Le.refl _
    |some q=>
     cases jE E.P st.tmps (fun i=>c.argTypes.getD i 0) 0 c.args.toList with
     |none=>exact Le.refl _
     |some args=>
      simp only[aO]
      cases q with
      |t x=>
       simp only[]
       cases PV.lI st.heap args with
       |none=>exact Le.refl _
       |some ts=>
        simp only[aO]
        cases (PV.dS args).isEmpty with
        |true=>exact akS hp x ts _
        |false=>exact Le.refl _
      |fn f fs cs=>exact UG hp hg hn _ _ _ _ _
      |_=>exact Le.refl _
  · exact Le.refl _
theorem Jj {β:Type} (ops:Array Oper):∀ (l:List (Oper×Bool)) (st:St) {K K':St→aj β},(∀ s,Le (K s) (K' s))→Le (bf E ⟨p,g⟩ ops l st K) (bf E ⟨p',g'⟩ ops l st K')
 | [],st,K,K',hK=>hK st
 |(o,dr)::r,st,K,K',hK=>by
  rw[dM,dM]
  cases guardOf ops st.tmps o with
  |none=>exact Le.refl _
  |some b=>
   cases b with
   |true=>exact amc hp hg hn dr o st fun q s=>Jj ops r _ hK
   |false=>exact Jj ops r _ hK
variable (f:FuncId) (fn:Func) (n base:Nat)
theorem sV:∀ (c:Code) {β:Type} (st:St) {K K':Ex→St→aj β},(∀ e s,Le (K e s) (K' e s))→Le (dw E ⟨p,g⟩ f fn n base c st K) (dw E ⟨p',g'⟩ f fn n base c st K')
 | .skip,β,st,K,K',hK=>hK _ _
 | .region id ops dr,β,st,K,K',hK=>by
  simp only[dw]
  cases dr with
  |true=>
   cases sW ops with
   |true=>exact Jj hp hg hn ops _ st fun s=>hK _ _
   |false=>exact Le.refl _
  |false=>exact Jj hp hg hn ops _ st fun s=>hK _ _
 | .seq a b,β,st,K,K',hK=>by
  simp only[dw]
  refine sV a st fun e s=>?_
  cases e with
  |norm=>exact sV b s hK
  |_=>exact hK _ _
 | .cond c a b,β,st,K,K',hK=>by
  simp only[dw]
  cases bP E.P st.tmps 0 c with
  |none=>exact Le.refl _
  |some q=>
   simp only[aO]
   cases q with
   |t x=>
    cases x with
    |bool v=>cases v with
     |true=>exact sV a st hK
     |false=>exact sV b st hK
    |_=>exact Le.refl _
   |_=>exact Le.refl _
 | .block id c,β,st,K,K',hK=>by
  simp only[dw]
  refine sV c st fun e s=>?_
  cases e with
  |exit i=>
   simp only[Ex.k]
   split
   · exact hK _ _
   · exact hK _ _
  |_=>exact hK _ _
 | .loop c,β,st,K,K',hK=>by
  simp only[dw]
  refine Le.IU (Kq (fun s=>sV c s fun e s=>Le.refl _) n _) fun x=>hK _ _
 | .exit id,β,st,K,K',hK=>hK _ _
 | .scope c,β,st,K,K',hK=>sV c st hK
 | .label _,β,st,K,K',hK=>hK _ _
 | .ret,β,st,K,K',hK=>hK _ _
 | .rangeFunc ..,β,st,K,K',hK=>Le.refl _
 | .goto ..,β,st,K,K',hK=>Le.refl _
 | .refuse ..,β,st,K,K',hK=>Le.refl _
theorem aiu {β:Type} (args:List PV) (H:List ah) (K:PV→List ah→aj β):Le (fQ E ⟨p,g⟩ n f args H K) (fQ E ⟨p',g'⟩ n f args H K):=by
 unfold fQ
 split
 · exact Le.refl _
 · split
   · exact Le.refl _
   · exact sV hp hg hn f _ n _ _ _ fun e s=>Le.refl _
end
mutual
def T.RV:T→T→Bool
 | .int k a,.int k' b=>decide (k=k')&&decide (a=b)
 | .bool a,.bool b=>a==b
 | .str a,.str b=>decide (a.data.toList=b.data.toList)
 | .dR,.dR=>true
 | .ng,.ng=>true
 | .rD,.rD=>true
 | .ref x,.ref y=>x.RV y
 | .sl k xs,.sl k' ys=>Nat.beq k k'&&T.Jf xs ys
 | .agg xs,.agg ys=>T.Jf xs ys
 | .au xs,.au ys=>T.Jf xs ys
 | .fn f xs ys,.fn f' xs' ys'=>Nat.beq f f'&&(T.Jf xs xs'&&T.Jf ys ys')
 | .iface t x,.iface t' y=>Nat.beq t t'&&x.RV y
 |_,_=>false
def T.Jf:List T→List T→Bool
 | [],[]=>true
 |x::xs,y::ys=>x.RV y&&T.Jf xs ys
 |_,_=>false
end
mutual
theorem T.XI:∀ {x y:T},x.RV y=true→x=y
 | .int k a,.int k' b,h=>by simp only[T.RV,Bool.and_eq_true,decide_eq_true_eq] at h; rw[h.1,h.2]
 | .bool a,.bool b,h=>by simp only[T.RV,beq_iff_eq] at h; rw[h]
 | .str a,.str b,h=>by
  simp only[T.RV,decide_eq_true_eq] at h
  obtain⟨⟨a⟩⟩:=a; obtain⟨⟨b⟩⟩:=b
  simp only at h; subst h; rfl
 | .dR,.dR,_=>rfl
 | .ng,.ng,_=>rfl
 | .rD,.rD,_=>rfl
 | .ref x,.ref y,h=>by simp only[T.RV] at h; rw[T.XI h]
 | .sl k xs,.sl k' ys,h=>by simp only[T.RV,Bool.and_eq_true] at h; rw[Nat.eq_of_beq_eq_true h.1,T.yR h.2]
 | .agg xs,.agg ys,h=>by simp only[T.RV] at h; rw[T.yR h]
 | .au xs,.au ys,h=>by simp only[T.RV] at h; rw[T.yR h]
 | .fn f xs ys,.fn f' xs' ys',h=>by simp only[T.RV,Bool.and_eq_true] at h; rw[Nat.eq_of_beq_eq_true h.1,T.yR h.2.1,T.yR h.2.2]
 | .iface t x,.iface t' y,h=>by simp only[T.RV,Bool.and_eq_true] at h; rw[Nat.eq_of_beq_eq_true h.1,T.XI h.2]
theorem T.yR:∀ {x y:List T},T.Jf x y=true→x=y
 | [],[],_=>rfl
 |x::xs,y::ys,h=>by simp only[T.Jf,Bool.and_eq_true] at h; rw[T.XI h.1,T.yR h.2]
end
def YN:List (FuncId×List T×T)→FuncId→List T→aj T
 | [],_,_=> .stuck
 |e::r,f,ts=>bif Nat.beq e.1 f&&T.Jf e.2.1 ts then .ok e.2.2 else YN r f ts
def NV (E:Env) (N:Nat) (Dv:List (FuncId×List T×T)):Prop:=∀ e∈Dv,∀ M,N≤M→ak E M e.1 e.2.1= .ok e.2.2
theorem Rz {E:Env} {N:Nat}:∀ {Dv:List (FuncId×List T×T)},NV E N Dv→∀ (M:Nat),N≤M→∀ f ts,Le (YN Dv f ts) (ak E M f ts)
 | [],_,M,_,f,ts=>fun h=>absurd rfl h
 |e::r,h,M,hM,f,ts=>by
  unfold YN
  cases hc:(Nat.beq e.1 f&&T.Jf e.2.1 ts) with
  |true=>
   simp only[Bool.and_eq_true] at hc
   simp only[cond_true]
   intro _
   rw[←Nat.eq_of_beq_eq_true hc.1,←T.yR hc.2]
   exact h e List.mem_cons_self M hM
  |false=>exact Rz (fun e he=>h e (List.mem_cons_of_mem _ he)) M hM f ts
def aj.orE {α:Type} (a b:aj α):aj α:=match a with
 | .ok x=> .ok x
 |_=>b
def runT (E:Env) (N:Nat) (Dv:List (FuncId×List T×T)):Nat→(β:Type)→FuncId→List PV→List ah→(PV→List ah→aj β)→aj β
 |0,_,_,_,_,_=> .stuck
 |d+1,_,f,args,H,K=>fQ E ⟨fun f ts=>(YN Dv f ts).orE (jX E (runT E N Dv d) f ts),runT E N Dv d⟩ (N+d) f args H K
def evT (E:Env) (N:Nat) (Dv:List (FuncId×List T×T)) (d:Nat) (f:FuncId) (ts:List T):aj T:=(YN Dv f ts).orE (jX E (runT E N Dv d) f ts)
theorem La {E:Env} {r r':(β:Type)→FuncId→List PV→List ah→(PV→List ah→aj β)→aj β} (h:∀ β f args H K,Le (r β f args H K) (r' β f args H K)) (f:FuncId) (ts:List T):Le (jX E r f ts) (jX E r' f ts):=by
 unfold jX
 cases T.wfs ts with
 |false=>exact Le.refl _
 |true=>
  simp only[cond_true]
  cases E.ext f with
  |none=>exact h _ _ _ _ _
  |some e=>exact Le.refl _
theorem aeQ {α:Type} {a b c:aj α} (h:Le a c) (h':Le b c):Le (a.orE b) c:=by
 cases a with
 |ok x=>exact h
 |_=>exact h'
theorem aa8 {E:Env} {N:Nat} {Dv:List (FuncId×List T×T)} (ht:NV E N Dv):∀ (d:Nat) (β:Type) (f:FuncId) (args:List PV) (H:List ah) (K:PV→List ah→aj β),Le (runT E N Dv d β f args H K) (runK E (N+d) β f args H K)
 |0,β,f,args,H,K=>fun h=>absurd rfl h
 |d+1,β,f,args,H,K=>by
  have ih:=aa8 ht d
  show Le (fQ E ⟨fun f ts=>(YN Dv f ts).orE (jX E (runT E N Dv d) f ts),runT E N Dv d⟩ (N+d) f args H K) (fQ E ⟨jX E (runK E (N+d)),runK E (N+d)⟩ (N+d) f args H K)
  exact aiu (fun f ts=>aeQ (Rz ht (N+d) (by omega) f ts) (La ih f ts)) ih (fF E (N+d)) f (N+d) args H K
theorem abv {E:Env} {N:Nat} {Dv:List (FuncId×List T×T)} (ht:NV E N Dv) (d:Nat) {f:FuncId} {ts:List T} {x:T} (h:evT E N Dv d f ts= .ok x):ak E (N+d) f ts= .ok x:=by
 have:Le (evT E N Dv d f ts) (ak E (N+d) f ts):=aeQ (Rz ht _ (by omega) f ts) (La (aa8 ht d) f ts)
 rw[h] at this
 exact this (by simp)
theorem ajb {E:Env} {N:Nat}:NV E N []:=fun e he=>by cases he
end
end Go.aP
