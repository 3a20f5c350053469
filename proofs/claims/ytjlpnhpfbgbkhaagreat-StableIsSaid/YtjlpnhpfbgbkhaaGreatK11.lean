/- The texts of a proof, one behind the other: an interpreter and its soundness, what the functions of the program answer, and plain laws on that. -/
import Derived.Test.YtjlpnhpfbgbkhaaGreatK9
set_option linter.unusedVariables false
set_option linter.unusedSimpArgs false
set_option linter.unnecessarySimpa false
set_option linter.unusedSectionVars false
set_option maxRecDepth 100000
namespace Go.aT
section
open Go.RowKit
section
variable {E:Env} {p p':FuncId→List T→ah T} {g g':(β:Type)→FuncId→List PV→List aj→(PV→List aj→ah β)→ah β}
variable (hp:∀ f ts,Le (p f ts) (p' f ts)) (hg:∀ β f args H K,Le (g β f args H K) (g' β f args H K)) (hn:(⟨p',g'⟩:Caller).Nat)
include hp hg hn
theorem Ui {β:Type} (dr:Bool) (f:FuncId) (args:List PV) (st:St) (K:PV→St→ah β):Le (mD E ⟨p,g⟩ dr f args st K) (mD E ⟨p',g'⟩ dr f args st K):=by
 unfold mD
 split
 · exact Le.refl _
 · split
   · rename_i ts _
     simp only[]
     split
     · exact Le.Iq (hp f ts) fun x=>Le.refl _
     · cases dr with
       |true=>exact Le.refl _
       |false=>
        cases lu E f with
        |none=>exact Le.refl _
        |some e=>exact Le.Iq (hp f ts) fun x=>Le.refl _
     · cases dr with
       |true=>exact Le.refl _
       |false=>
        cases lu E f with
        |none=>exact Le.refl _
        |some e=>exact Le.Iq (hp f ts) fun x=>Le.refl _
   · cases (dr||(E.ext f).isSome) with
     |true=>exact Le.refl _
     |false=>exact hg _ _ _ _ _
omit hg hn in
theorem alm {β:Type} (x:T) (ts:List T) (K:T→ah β):Le (oJ E ⟨p,g⟩ x ts K) (oJ E ⟨p',g'⟩ x ts K):=by
 unfold oJ
 cases x with
 |fn f fs cs=>
  simp only[]
  cases (E.mode f==0) with
  |true=>exact Le.Iq (hp _ _) fun x=>Le.refl _
  |false=>exact Le.refl _
 |_=>exact Le.refl _
theorem amO {β:Type} (dr:Bool) (o:Oper) (st:St) {K K':PV→St→ah β} (hK:∀ q s,Le (K q s) (K' q s)):Le (kY E ⟨p,g⟩ dr o st K) (kY E ⟨p',g'⟩ dr o st K'):=by
 have h2:Le (kY E ⟨p',g'⟩ dr o st K) (kY E ⟨p',g'⟩ dr o st K'):=by
  have e:∀ K:PV→St→ah β,kY E ⟨p',g'⟩ dr o st K=(kY E ⟨p',g'⟩ dr o st fun q s=>(.ok (q,s):ah (PV×St))).bind fun x=>K x.1 x.2:=fun K=>by
   rw[DV (E:=E) (Strict.bind (β:=PV×St) fun x=>K x.1 x.2) hn dr o fun q s=> .ok (q,s)]
   rfl
  rw[e K,e K']
  exact Le.bind fun x=>hK _ _
 refine Le.trans ?_ h2
 obtain⟨dst,op,type,pos,after,guard⟩:=o
 cases op<;>try exact Le.refl _
 case call c=>
  simp only[kY]
  split
  · exact Le.refl _
  · rename_i f _
    cases jF E.P st.tmps (fun i=>c.argTypes.getD i 0) 0 c.args.toList with
    |none=>exact Le.refl _
    |some args=>exact Ui hp hg hn _ _ _ _ _
  · rename_i fo _ _
    cases bV E.P st.tmps 0 fo with
    |none=>exact Le.refl _
    |some q=>
     cases jF E.P st.tmps (fun i=>c.argTypes.getD i 0) 0 c.args.toList with
     |none=>exact Le.refl _
     |some args=>
      simp only[aS]
      cases q with
      |t x=>
       simp only[]
       cases PV.lF st.heap args with
       |none=>exact Le.refl _
       |some ts=>
        simp only[aS]
        cases (PV.dU args).isEmpty with
        |true=>exact alm hp x ts _
        |false=>exact Le.refl _
      |fn f fs cs=>exact Ui hp hg hn _ _ _ _ _
      |_=>exact Le.refl _
  · exact Le.refl _
theorem IZ {β:Type} (ops:Array Oper):∀ (l:List (Oper×Bool)) (st:St) {K K':St→ah β},(∀ s,Le (K s) (K' s))→Le (bn E ⟨p,g⟩ ops l st K) (bn E ⟨p',g'⟩ ops l st K')
 | [],st,K,K',hK=>hK st
 |(o,dr)::r,st,K,K',hK=>by
  rw[dN,dN]
  cases guardOf ops st.tmps o with
  |none=>exact Le.refl _
  |some b=>
   cases b with
   |true=>exact amO hp hg hn dr o st fun q s=>IZ ops r _ hK
   |false=>exact IZ ops r _ hK
variable (f:FuncId) (fn:Func) (n base:Nat)
theorem sH:∀ (c:Code) {β:Type} (st:St) {K K':Ex→St→ah β},(∀ e s,Le (K e s) (K' e s))→Le (dA E ⟨p,g⟩ f fn n base c st K) (dA E ⟨p',g'⟩ f fn n base c st K')
 | .skip,β,st,K,K',hK=>hK _ _
 | .region id ops dr,β,st,K,K',hK=>by
  simp only[dA]
  cases dr with
  |true=>
   cases sJ ops with
   |true=>exact IZ hp hg hn ops _ st fun s=>hK _ _
   |false=>exact Le.refl _
  |false=>exact IZ hp hg hn ops _ st fun s=>hK _ _
 | .seq a b,β,st,K,K',hK=>by
  simp only[dA]
  refine sH a st fun e s=>?_
  cases e with
  |norm=>exact sH b s hK
  |_=>exact hK _ _
 | .cond c a b,β,st,K,K',hK=>by
  simp only[dA]
  cases bV E.P st.tmps 0 c with
  |none=>exact Le.refl _
  |some q=>
   simp only[aS]
   cases q with
   |t x=>
    cases x with
    |bool v=>cases v with
     |true=>exact sH a st hK
     |false=>exact sH b st hK
    |_=>exact Le.refl _
   |_=>exact Le.refl _
 | .block id c,β,st,K,K',hK=>by
  simp only[dA]
  refine sH c st fun e s=>?_
  cases e with
  |exit i=>
   simp only[Ex.k]
   split
   · exact hK _ _
   · exact hK _ _
  |_=>exact hK _ _
 | .loop c,β,st,K,K',hK=>by
  simp only[dA]
  refine Le.Iq (JM (fun s=>sH c s fun e s=>Le.refl _) n _) fun x=>hK _ _
 | .exit id,β,st,K,K',hK=>hK _ _
 | .scope c,β,st,K,K',hK=>sH c st hK
 | .label _,β,st,K,K',hK=>hK _ _
 | .ret,β,st,K,K',hK=>hK _ _
 | .rangeFunc ..,β,st,K,K',hK=>Le.refl _
 | .goto ..,β,st,K,K',hK=>Le.refl _
 | .refuse ..,β,st,K,K',hK=>Le.refl _
theorem aiL {β:Type} (args:List PV) (H:List aj) (K:PV→List aj→ah β):Le (fU E ⟨p,g⟩ n f args H K) (fU E ⟨p',g'⟩ n f args H K):=by
 unfold fU
 split
 · exact Le.refl _
 · split
   · exact Le.refl _
   · exact sH hp hg hn f _ n _ _ _ fun e s=>Le.refl _
end
mutual
def T.Rf:T→T→Bool
 | .int k a,.int k' b=>decide (k=k')&&decide (a=b)
 | .bool a,.bool b=>a==b
 | .str a,.str b=>decide (a.data.toList=b.data.toList)
 | .dS,.dS=>true
 | .mW,.mW=>true
 | .qU,.qU=>true
 | .ref x,.ref y=>x.Rf y
 | .sl k xs,.sl k' ys=>Nat.beq k k'&&T.IU xs ys
 | .agg xs,.agg ys=>T.IU xs ys
 | .au xs,.au ys=>T.IU xs ys
 | .fn f xs ys,.fn f' xs' ys'=>Nat.beq f f'&&(T.IU xs xs'&&T.IU ys ys')
 | .iface t x,.iface t' y=>Nat.beq t t'&&x.Rf y
 |_,_=>false
def T.IU:List T→List T→Bool
 | [],[]=>true
 |x::xs,y::ys=>x.Rf y&&T.IU xs ys
 |_,_=>false
end
mutual
theorem T.Xx:∀ {x y:T},x.Rf y=true→x=y
 | .int k a,.int k' b,h=>by simp only[T.Rf,Bool.and_eq_true,decide_eq_true_eq] at h; rw[h.1,h.2]
 | .bool a,.bool b,h=>by simp only[T.Rf,beq_iff_eq] at h; rw[h]
 | .str a,.str b,h=>by
  simp only[T.Rf,decide_eq_true_eq] at h
  obtain⟨⟨a⟩⟩:=a; obtain⟨⟨b⟩⟩:=b
  simp only at h; subst h; rfl
 | .dS,.dS,_=>rfl
 | .mW,.mW,_=>rfl
 | .qU,.qU,_=>rfl
 | .ref x,.ref y,h=>by simp only[T.Rf] at h; rw[T.Xx h]
 | .sl k xs,.sl k' ys,h=>by simp only[T.Rf,Bool.and_eq_true] at h; rw[Nat.eq_of_beq_eq_true h.1,T.yJ h.2]
 | .agg xs,.agg ys,h=>by simp only[T.Rf] at h; rw[T.yJ h]
 | .au xs,.au ys,h=>by simp only[T.Rf] at h; rw[T.yJ h]
 | .fn f xs ys,.fn f' xs' ys',h=>by simp only[T.Rf,Bool.and_eq_true] at h; rw[Nat.eq_of_beq_eq_true h.1,T.yJ h.2.1,T.yJ h.2.2]
 | .iface t x,.iface t' y,h=>by simp only[T.Rf,Bool.and_eq_true] at h; rw[Nat.eq_of_beq_eq_true h.1,T.Xx h.2]
theorem T.yJ:∀ {x y:List T},T.IU x y=true→x=y
 | [],[],_=>rfl
 |x::xs,y::ys,h=>by simp only[T.IU,Bool.and_eq_true] at h; rw[T.Xx h.1,T.yJ h.2]
end
def YF:List (FuncId×List T×T)→FuncId→List T→ah T
 | [],_,_=> .stuck
 |e::r,f,ts=>bif Nat.beq e.1 f&&T.IU e.2.1 ts then .ok e.2.2 else YF r f ts
def Ns (E:Env) (N:Nat) (CY:List (FuncId×List T×T)):Prop:=∀ e∈CY,∀ M,N≤M→ak E M e.1 e.2.1= .ok e.2.2
theorem QT {E:Env} {N:Nat}:∀ {CY:List (FuncId×List T×T)},Ns E N CY→∀ (M:Nat),N≤M→∀ f ts,Le (YF CY f ts) (ak E M f ts)
 | [],_,M,_,f,ts=>fun h=>absurd rfl h
 |e::r,h,M,hM,f,ts=>by
  unfold YF
  cases hc:(Nat.beq e.1 f&&T.IU e.2.1 ts) with
  |true=>
   simp only[Bool.and_eq_true] at hc
   simp only[cond_true]
   intro _
   rw[←Nat.eq_of_beq_eq_true hc.1,←T.yJ hc.2]
   exact h e List.mem_cons_self M hM
  |false=>exact QT (fun e he=>h e (List.mem_cons_of_mem _ he)) M hM f ts
def ah.orE {α:Type} (a b:ah α):ah α:=match a with
 | .ok x=> .ok x
 |_=>b
def runT (E:Env) (N:Nat) (CY:List (FuncId×List T×T)):Nat→(β:Type)→FuncId→List PV→List aj→(PV→List aj→ah β)→ah β
 |0,_,_,_,_,_=> .stuck
 |d+1,_,f,args,H,K=>fU E ⟨fun f ts=>(YF CY f ts).orE (jY E (runT E N CY d) f ts),runT E N CY d⟩ (N+d) f args H K
def evT (E:Env) (N:Nat) (CY:List (FuncId×List T×T)) (d:Nat) (f:FuncId) (ts:List T):ah T:=(YF CY f ts).orE (jY E (runT E N CY d) f ts)
theorem KD {E:Env} {r r':(β:Type)→FuncId→List PV→List aj→(PV→List aj→ah β)→ah β} (h:∀ β f args H K,Le (r β f args H K) (r' β f args H K)) (f:FuncId) (ts:List T):Le (jY E r f ts) (jY E r' f ts):=by
 unfold jY
 cases T.wfs ts with
 |false=>exact Le.refl _
 |true=>
  simp only[cond_true]
  cases E.ext f with
  |none=>exact h _ _ _ _ _
  |some e=>exact Le.refl _
theorem ae1 {α:Type} {a b c:ah α} (h:Le a c) (h':Le b c):Le (a.orE b) c:=by
 cases a with
 |ok x=>exact h
 |_=>exact h'
theorem aaY {E:Env} {N:Nat} {CY:List (FuncId×List T×T)} (ht:Ns E N CY):∀ (d:Nat) (β:Type) (f:FuncId) (args:List PV) (H:List aj) (K:PV→List aj→ah β),Le (runT E N CY d β f args H K) (runK E (N+d) β f args H K)
 |0,β,f,args,H,K=>fun h=>absurd rfl h
 |d+1,β,f,args,H,K=>by
  have ih:=aaY ht d
  show Le (fU E ⟨fun f ts=>(YF CY f ts).orE (jY E (runT E N CY d) f ts),runT E N CY d⟩ (N+d) f args H K) (fU E ⟨jY E (runK E (N+d)),runK E (N+d)⟩ (N+d) f args H K)
  exact aiL (fun f ts=>ae1 (QT ht (N+d) (by omega) f ts) (KD ih f ts)) ih (fH E (N+d)) f (N+d) args H K
theorem abk {E:Env} {N:Nat} {CY:List (FuncId×List T×T)} (ht:Ns E N CY) (d:Nat) {f:FuncId} {ts:List T} {x:T} (h:evT E N CY d f ts= .ok x):ak E (N+d) f ts= .ok x:=by
 have:Le (evT E N CY d f ts) (ak E (N+d) f ts):=ae1 (QT ht _ (by omega) f ts) (KD (aaY ht d) f ts)
 rw[h] at this
 exact this (by simp)
theorem aju {E:Env} {N:Nat}:Ns E N []:=fun e he=>by cases he
end
end Go.aT
