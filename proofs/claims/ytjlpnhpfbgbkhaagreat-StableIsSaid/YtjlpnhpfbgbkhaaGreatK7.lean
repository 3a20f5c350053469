/- The texts of a proof, one behind the other: an interpreter and its soundness, what the functions of the program answer, and plain laws on that. -/
import Derived.Test.YtjlpnhpfbgbkhaaGreatK6
set_option linter.unusedVariables false
set_option linter.unusedSimpArgs false
set_option linter.unnecessarySimpa false
set_option linter.unusedSectionVars false
set_option maxRecDepth 100000
namespace Go.aT
section
open Go.RowKit
section
variable {β:Type} {E:Env} {rc:Caller} {tm tm':List PV} {H:List aj} {ops:Array Oper}
theorem bZ {P:Program} {ty:TypeId} {x:Operand} (h:∀ t,x= .tmp t→tm'[t]? =tm[t]?):bV P tm' ty x=bV P tm ty x:=by
 cases x with
 |tmp t=>simp only[bV,List.getD_eq_getElem?_getD,h t rfl]
 |_=>rfl
theorem qy {P:Program} {ty:Nat→TypeId}:∀ {xs:List Operand} {i:Nat},(∀ x∈xs,∀ t,x= .tmp t→tm'[t]? =tm[t]?)→jF P tm' ty i xs=jF P tm ty i xs
 | [],i,_=>rfl
 |x::xs,i,h=>by
  simp only[jF]
  rw[bZ (h x List.mem_cons_self),qy (fun y hy=>h y (List.mem_cons_of_mem _ hy))]
theorem zu {P:Program} {ty:Nat→TypeId}:∀ {xs:List (Nat×Operand)},(∀ x∈xs,∀ t,x.2= .tmp t→tm'[t]? =tm[t]?)→partsOf P tm' ty xs=partsOf P tm ty xs
 | [],_=>rfl
 |(k,x)::xs,h=>by
  simp only[partsOf]
  rw[bZ (h (k,x) List.mem_cons_self),zu (fun y hy=>h y (List.mem_cons_of_mem _ hy))]
theorem Gq {P:Program} {x:Option Operand} (h:∀ y,x=some y→∀ t,y= .tmp t→tm'[t]? =tm[t]?):MO P tm' x=MO P tm x:=by
 cases x with
 |none=>rfl
 |some y=>simp only[MO,bZ (h y rfl)]
theorem RS {t:TypeId} {p:PV} {lo hi mx:Option PV} {K:PV→St→ah β}:wS E true ⟨tm',H⟩ t p lo hi mx K=wS E true ⟨tm,H⟩ t p lo hi mx fun q _=>K q ⟨tm',H⟩:=by
 unfold wS
 dsimp only
 split
 · rfl
 · split
   · rfl
   · split
     · cases mx<;>rfl
     · cases hr:p.rows.isEmpty with
       |false=>rfl
       |true=>
        have:p.rows= []:=by simpa using hr
        simp only[this]
        cases mx<;>rfl
 · rfl
theorem FH {t:TypeId} {n:Nat} {ps:List (Nat×PV)} {K:PV→St→ah β}:jX E true ⟨tm',H⟩ t n ps K=jX E true ⟨tm,H⟩ t n ps fun q _=>K q ⟨tm',H⟩:=by
 unfold jX
 split
 · split
   · congr 1
     simp only[]
     split
     · rfl
     · simp
   · rfl
 · rfl
theorem MB {b:Builtin} {tys:List TypeId} {args:List PV} {K:PV→St→ah β} (hb:(!(b matches .append)&& !(b matches .clear)&& !(b matches .copy)&& !(b matches .delete))=true):lH E b tys args ⟨tm',H⟩ K=lH E b tys args ⟨tm,H⟩ fun q _=>K q ⟨tm',H⟩:=by
 unfold lH
 split
 · rfl
 · cases hb
 · cases hb
 · cases hb
 · cases hb
 · rfl
 · rfl
 · rfl
theorem rP (hrc:rc.Nat) {o:Oper} (hq:gV o.op=true) (h:∀ x∈o.op.operands,∀ t,x= .tmp t→tm'[t]? =tm[t]?) (K:PV→St→ah β):
 kY E rc true o ⟨tm',H⟩ K=(kY E rc true o ⟨tm,H⟩ fun p _=> .ok p).bind fun p=>K p ⟨tm',H⟩:=by
 have:=DV (E:=E) (st:=⟨tm,H⟩) (Strict.bind (β:=PV) fun p=>K p ⟨tm',H⟩) hrc true o fun p _=> .ok p
 rw[this]
 simp only[ah.bind_ok]
 clear this
 obtain⟨dst,op,type,pos,after,guard⟩:=o
 cases op<;>simp only[gV,Bool.false_eq_true] at hq<;>simp only[Op.operands] at h<;>simp only[kY]
 case move x=>rw[bZ (tm':=tm') (tm:=tm) (h x (by simp))]
 case assign x=>rw[bZ (tm':=tm') (tm:=tm) (h x (by simp))]
 case pick c x y=>rw[bZ (tm':=tm') (tm:=tm) (h c (by simp)),bZ (tm':=tm') (tm:=tm) (h x (by simp)),bZ (tm':=tm') (tm:=tm) (h y (by simp))]
 case build t ps=>rw[zu (tm':=tm') (tm:=tm) (fun x hx=>h x.2 (by simp; exact⟨x.1,by simpa using hx⟩))]
 case buildSlice t n ps=>
  rw[zu (tm':=tm') (tm:=tm) (fun x hx=>h x.2 (by simp; exact⟨x.1,by simpa using hx⟩))]
  congr 1; funext ps; exact FH
 case lookup t x ix ok=>rw[bZ (tm':=tm') (tm:=tm) (h x (by simp)),bZ (tm':=tm') (tm:=tm) (h ix (by simp))]; rfl
 case load t x=>rw[bZ (tm':=tm') (tm:=tm) (h x (by simp))]; rfl
 case nilCheck x=>rw[bZ (tm':=tm') (tm:=tm) (h x (by simp))]
 case binOp op t x y t'=>rw[bZ (tm':=tm') (tm:=tm) (h x (by simp)),bZ (tm':=tm') (tm:=tm) (h y (by simp))]
 case unOp op t x=>rw[bZ (tm':=tm') (tm:=tm) (h x (by simp))]
 case convert s d x=>rw[bZ (tm':=tm') (tm:=tm) (h x (by simp))]
 case makeInterface t x=>
  rw[bZ (tm':=tm') (tm:=tm) (h x (by simp))]
  simp only[cond_true]
 case slice t x lo hi mx=>
  rw[bZ (tm':=tm') (tm:=tm) (h x (by simp)),Gq (tm':=tm') (tm:=tm) (x:=lo) (fun y hy=>h y (by subst hy; simp)),Gq (tm':=tm') (tm:=tm) (x:=hi) (fun y hy=>h y (by subst hy; simp)),Gq (tm':=tm') (tm:=tm) (x:=mx) (fun y hy=>h y (by subst hy; simp))]
  congr 1; funext p; congr 1; funext lo; congr 1; funext hi; congr 1; funext mx
  exact RS
 case fieldAddr t x f=>rw[bZ (tm':=tm') (tm:=tm) (h x (by simp))]
 case indexAddr t x y=>rw[bZ (tm':=tm') (tm:=tm) (h x (by simp)),bZ (tm':=tm') (tm:=tm) (h y (by simp))]; rfl
 case index t x y=>rw[bZ (tm':=tm') (tm:=tm) (h x (by simp)),bZ (tm':=tm') (tm:=tm) (h y (by simp))]
 case field t x f=>rw[bZ (tm':=tm') (tm:=tm) (h x (by simp))]
 case extract x i=>rw[bZ (tm':=tm') (tm:=tm) (h x (by simp))]
 case call c=>
  obtain⟨callee,args,tys⟩:=c
  simp only[Call.operands] at h
  have hargs:∀ x∈args.toList,∀ t,x= .tmp t→tm'[t]? =tm[t]? :=fun x hx=>h x (by cases callee<;>simp<;>simp at hx<;>simp[hx])
  simp only[] at hq ⊢
  cases callee with
  |builtin b=>
   simp only[]
   rw[qy (tm':=tm') (tm:=tm) hargs]
   congr 1; funext args
   exact MB (by cases b<;>first|rfl|cases hq)
  |value fo=>
   have hfo:∀ t,fo= .tmp t→tm'[t]? =tm[t]? :=fun t ht=>h fo (by simp) t ht
   cases fo with
   |func f=>
    simp only[]
    rw[qy (tm':=tm') (tm:=tm) hargs]
    congr 1
   |_=>
    simp only[]
    rw[bZ (tm':=tm') (tm:=tm) hfo,qy (tm':=tm') (tm:=tm) hargs]
    congr 1
  |_=>rfl
theorem jv {o:Oper} {t:Tmp} (h:Operand.tmp t∈o.op.operands):t∈o.looksAt ops:=
 List.mem_append_left _ (List.mem_filterMap.2 ⟨.tmp t,by simpa using h,rfl⟩)
theorem lg {o:Oper} (h:∀ t∈o.looksAt ops,tm'[t]? =tm[t]?):guardOf ops tm' o=guardOf ops tm o:=by
 unfold guardOf
 cases hg:o.guard with
 |none=>rfl
 |some jw=>
  obtain⟨j,want⟩:=jw
  simp only[]
  cases hd:(ops[j]?).bind (·.dst) with
  |none=>rfl
  |some d=>
   have:=h d (by unfold Oper.looksAt; rw[hg]; simp only[]; rw[hd]; simp)
   simp only[List.getD_eq_getElem?_getD,this]
theorem quiet_step (hrc:rc.Nat) {o:Oper} (hq:gV o.op=true) {st1:St} (h:bn E rc ops [(o,true)] ⟨tm,H⟩ (fun s=>(.ok s:ah St))= .ok st1):
 ∃ p,st1=⟨dL tm o.dst p,H⟩∧∀ tm',(∀ t∈o.looksAt ops,tm'[t]? =tm[t]?)→bn E rc ops [(o,true)] ⟨tm',H⟩ (fun s=>(.ok s:ah St))= .ok ⟨dL tm' o.dst p,H⟩:=by
 rw[dN] at h
 cases hg:guardOf ops tm o with
 |none=>rw[hg] at h; cases h
 |some b=>
  rw[hg] at h
  cases b with
  |false=>
   simp only[bn,ah.ok.injEq] at h
   refine⟨dY,h.symm,fun tm' hs=>?_⟩
   rw[dN,lg hs,hg]
   rfl
  |true=>
   simp only[] at h
   rw[rP hrc hq (tm:=tm) (fun _ _ _ _=>rfl)] at h
   cases hr:kY E rc true o ⟨tm,H⟩ fun p _=>(.ok p:ah PV) with
   |ok p=>
    rw[hr] at h
    simp only[ah.bind_ok,bn,ah.ok.injEq] at h
    refine⟨p,h.symm,fun tm' hs=>?_⟩
    rw[dN,lg hs,hg]
    simp only[]
    rw[rP hrc hq (tm:=tm) (fun x hx t ht=>hs t (jv (ht ▸ hx))),hr]
    rfl
   |absurd=>rw[hr] at h; cases h
   |stuck=>rw[hr] at h; cases h
theorem oZ {d:Option Tmp} {p:PV} {t:Tmp} (h:∀ e,d=some e→e≠t):(dL tm d p)[t]? =tm[t]? :=by
 cases d with
 |none=>rfl
 |some e=>simp only[dL]; exact List.getElem?_set_ne (h e rfl)
theorem oI {d e:Option Tmp} {p q:PV} (h:∀ t,d=some t→e≠some t):dL (dL tm d p) e q=dL (dL tm e q) d p:=by
 cases d with
 |none=>rfl
 |some t=>
  cases e with
  |none=>rfl
  |some u=>simp only[dL]; exact List.set_comm _ _ (fun e=>h t rfl (by rw[e]))
theorem OL:∀ {l:List Nat} {xs:List T},(∀ n∈l,n=0)→xs.length=l.length→(∀ x∈xs,x.isInt=true)→T.eX l xs xs=some true
 | [],[],_,_,_=>rfl
 | [],_::_,_,h,_=>by simp at h
 |n::l,[],_,h,_=>by simp at h
 |n::l,x::xs,h0,hl,hi=>by
  obtain rfl:=h0 n List.mem_cons_self
  have hx:=hi x List.mem_cons_self
  cases x with
  |int k a=>
   have:=OL (fun n hn=>h0 n (List.mem_cons_of_mem _ hn)) (by simpa using hl) (fun x hx=>hi x (List.mem_cons_of_mem _ hx))
   simp[T.eX,this]
  |_=>cases hx
theorem yU {l:List Nat} {k:T} {x:T} {c:Nat} (hk:T.eX l (k.flat l) (k.flat l)=some true):∀ {es:List (T×T×Nat)} {j:Nat},jh l k es j=some none→jh l k (es++ [(k,x,c)]) j=some (some (j+es.length,x,c))
 | [],j,_=>by simp[jh,hk]
 |e::es,j,h=>by
  unfold jh at h
  rw[List.cons_append]
  unfold jh
  cases hq:T.eX l (k.flat l) (e.1.flat l) with
  |none=>simp[hq] at h
  |some b=>
   cases b with
   |true=>simp[hq] at h
   |false=>
    simp only[hq] at h ⊢
    rw[yU hk h]
    simp; omega
theorem YR {t:TypeId} {p ix:PV} {r:ah β} {K:PV→St→ah β} (hr:ny E ⟨tm,H⟩ t p ix K=r) (h:r≠ .stuck):
 ∃ q H2,(∀ (tm':List PV) {γ:Type} (K':PV→St→ah γ),ny E ⟨tm',H⟩ t p ix K'=K' q ⟨tm',H2⟩)∧r=K q ⟨tm,H2⟩∧∀ (tm':List PV) {γ:Type} (K':PV→ah γ),rE E ⟨tm',H2⟩ t p ix false K'=rE E ⟨tm',H⟩ t p ix false K':=by
 subst hr
 unfold ny Ee at h ⊢
 obtain⟨z,hz,e⟩:=aB h
 rw[e] at h ⊢
 cases hm:IV E.P t with
 |none=>simp[hm] at h
 |some ke=>
  obtain⟨kt,et⟩:=ke
  simp only[hm] at h ⊢
  obtain⟨l,hl,e⟩:=aB h
  rw[e] at h ⊢
  cases p with
  |mp m=>
   cases ix with
   |t k=>
    simp only[] at h ⊢
    cases ho:H[m]? with
    |none=>simp[ho] at h
    |some o=>
     cases o with
     |map es c=>
      simp only[ho] at h ⊢
      obtain⟨g1,e⟩:=dQ h
      rw[e] at h ⊢
      have hlt:m < H.length:=(List.getElem?_eq_some_iff.1 ho).1
      rcases zU h with ⟨hf,e⟩|⟨i,x,b,hf,e⟩
      · rw[e] at h ⊢
        obtain⟨g2,e⟩:=dQ h
        rw[e]
        obtain⟨k1,k2,k3⟩:=UJ g1
        have h0:∀ n∈l,n=0:=by cases aaG hl with|int _=>simp|struct _ _ _ _ h=>exact h
        have hs:=yU (x:=z) (c:=c) (OL h0 k2 k3) hf
        refine⟨_,_,fun tm' γ K'=>?_,rfl,fun tm' γ K'=>?_⟩
        · simp only[hz,aS,hm,hl,ho,g1,chk,cond_true,fA,hf,g2]
        · unfold rE Ee
          simp only[hz,aS,hm,hl,ho,g1,chk,cond_true,fA,hf,List.getElem?_set_self hlt,hs]
          rfl
      · rw[e] at h ⊢
        obtain⟨g2,e⟩:=dQ h
        rw[e]
        refine⟨_,H,fun tm' γ K'=>?_,rfl,fun tm' γ K'=>rfl⟩
        simp only[hz,aS,hm,hl,ho,g1,chk,cond_true,fA,hf,g2]
     |_=>simp[ho] at h
   |_=>exact absurd rfl h
  |_=>exact absurd rfl h
theorem EL {o:Oper} (hq:qM o.op=true) (K:PV→St→ah β) (H':List aj):kY E rc true o ⟨tm,H'⟩ K=kY E rc true o ⟨tm,H⟩ fun p _=>K p ⟨tm,H'⟩:=by
 obtain⟨dst,op,type,pos,after,guard⟩:=o
 cases op<;>first|rfl|cases hq
theorem vY {o:Op} (h:qM o=true):gV o=true:=by cases o<;>first|rfl|cases h
theorem NS (hrc:rc.Nat) {x y:Oper} (hxy:OG x.op y.op=true) (hap:x.apart ops y=true) {st st1 st2:St} (h1:bn E rc ops [(x,true)] st (fun s=>(.ok s:ah St))= .ok st1)
 (h2:bn E rc ops [(y,true)] st1 (fun s=>(.ok s:ah St))= .ok st2):
 ∃ st1',bn E rc ops [(y,true)] st (fun s=>(.ok s:ah St))= .ok st1'∧bn E rc ops [(x,true)] st1' (fun s=>(.ok s:ah St))= .ok st2:=by
 obtain⟨tm,H⟩:=st
 obtain⟨a1,a2,a3⟩:=Oper.apart_spec hap
 obtain⟨xd,xo,xt,xp,xa,xg⟩:=x
 obtain⟨yd,yo,yt,yp,ya,yg⟩:=y
 cases yo<;>try exact absurd (show false=true from hxy) (by decide)
 rename_i t m k
 cases m<;>try exact absurd (show false=true from hxy) (by decide)
 rename_i m
 cases k<;>try exact absurd (show false=true from hxy) (by decide)
 rename_i k
 replace hxy:(qM xo||JU t m k xo)=true:=hxy
 have hqx:gV xo=true:=by
  rw[Bool.or_eq_true] at hxy
  rcases hxy with h|h
  · exact vY h
  · cases xo<;>first|rfl|exact absurd (show false=true from h) (by decide)
 obtain⟨p,rfl,hp⟩:=quiet_step hrc hqx h1
 have hsame:∀ t∈Oper.looksAt ops ⟨yd,.mapEntry t (.tmp m) (.tmp k),yt,yp,ya,yg⟩,tm[t]? =(dL tm xd p)[t]? :=fun t ht=>(oZ fun e he=>by rintro rfl; exact a1 e he ht).symm
 have hgy:=lg (ops:=ops) (o:=⟨yd,.mapEntry t (.tmp m) (.tmp k),yt,yp,ya,yg⟩) hsame
 have hoy:∀ s∈(Op.mapEntry t (.tmp m) (.tmp k)).operands,∀ i,s= .tmp i→tm[i]? =(dL tm xd p)[i]? :=fun s hs i hi=>hsame i (jv (hi ▸ hs))
 have YG:∀ q:PV,∀ t∈Oper.looksAt ops ⟨xd,xo,xt,xp,xa,xg⟩,(dL tm yd q)[t]? =tm[t]? :=fun q t ht=>oZ fun e he=>by rintro rfl; exact a3 e he ht
 rw[dN] at h2
 cases hg:guardOf ops (dL tm xd p) ⟨yd,.mapEntry t (.tmp m) (.tmp k),yt,yp,ya,yg⟩ with
 |none=>rw[hg] at h2; cases h2
 |some b=>
  rw[hg] at h2
  cases b with
  |false=>
   simp only[bn,ah.ok.injEq] at h2
   subst h2
   refine⟨⟨dL tm yd dY,H⟩,by rw[dN,hgy,hg]; rfl,?_⟩
   rw[hp _ (YG dY),oI a2]
  |true=>
   simp only[kY] at h2
   obtain⟨pm,em,f1⟩:=aB (by rw[h2]; simp)
   rw[f1] at h2
   obtain⟨pk,ek,f2⟩:=aB (by rw[h2]; simp)
   rw[f2] at h2
   obtain⟨q,H2,m1,m2,m3⟩:=YR h2 (by simp)
   simp only[bn,ah.ok.injEq] at m2
   subst m2
   have em':bV E.P tm t (.tmp m)=some pm:=by rw[←em]; exact bZ fun i hi=>hoy _ (by simp[Op.operands]) i hi
   have ek':bV E.P tm 0 (.tmp k)=some pk:=by rw[←ek]; exact bZ fun i hi=>hoy _ (by simp[Op.operands]) i hi
   refine⟨⟨dL tm yd q,H2⟩,?_,?_⟩
   · rw[dN,hgy,hg]
     simp only[kY,em',ek',aS,m1,bn]
   ·
    have hx2:bn E rc ops [(⟨xd,xo,xt,xp,xa,xg⟩,true)] ⟨dL tm yd q,H2⟩ (fun s=>(.ok s:ah St))= .ok ⟨dL (dL tm yd q) xd p,H2⟩:=by
     have hx3:=hp _ (YG q)
     rw[dN] at hx3 ⊢
     cases hgx:guardOf ops (dL tm yd q) ⟨xd,xo,xt,xp,xa,xg⟩ with
     |none=>rw[hgx] at hx3; cases hx3
     |some b=>
      rw[hgx] at hx3
      cases b with
      |false=>
       simp only[bn,ah.ok.injEq,St.mk.injEq,and_true] at hx3 ⊢
       exact hx3
      |true=>
       have key:∀ K:PV→St→ah St,kY E rc true ⟨xd,xo,xt,xp,xa,xg⟩ ⟨dL tm yd q,H2⟩ K=kY E rc true ⟨xd,xo,xt,xp,xa,xg⟩ ⟨dL tm yd q,H⟩ fun r _=>K r ⟨dL tm yd q,H2⟩:=fun K=>by
        rw[Bool.or_eq_true] at hxy
        rcases hxy with h|h
        · exact EL h K H2
        · cases xo<;>try exact absurd (show false=true from h) (by decide)
          rename_i t' mo ko ok
          cases mo<;>try exact absurd (show false=true from h) (by decide)
          rename_i mm
          cases ko<;>try exact absurd (show false=true from h) (by decide)
          rename_i kk
          simp only[JU,Bool.and_eq_true,Bool.not_eq_true',beq_iff_eq] at h
          obtain⟨⟨⟨rfl,rfl⟩,rfl⟩,rfl⟩:=h
          simp only[kY]
          have em2:bV E.P (dL tm yd q) t' (.tmp mm)=some pm:=by rw[←em']; exact bZ fun i hi=>YG q i (jv (hi ▸ by simp[Op.operands]))
          have ek2:bV E.P (dL tm yd q) 0 (.tmp kk)=some pk:=by rw[←ek']; exact bZ fun i hi=>YG q i (jv (hi ▸ by simp[Op.operands]))
          simp only[em2,ek2,aS,m3]
       simp only[] at hx3 ⊢
       rw[key]
       rw[rP hrc hqx (tm:=dL tm yd q) (fun _ _ _ _=>rfl)] at hx3 ⊢
       cases hr:kY E rc true ⟨xd,xo,xt,xp,xa,xg⟩ ⟨dL tm yd q,H⟩ fun p _=>(.ok p:ah PV) with
       |ok p'=>
        rw[hr] at hx3
        simp only[ah.bind_ok,bn,ah.ok.injEq,St.mk.injEq,and_true] at hx3 ⊢
        exact hx3
       |absurd=>rw[hr] at hx3; cases hx3
       |stuck=>rw[hr] at hx3; cases hx3
    rw[hx2,oI a2]
theorem Wv {t:TypeId} {p v:PV} {r:ah β} {K:St→ah β} (hr:wU E ⟨tm,H⟩ t p v K=r) (h:r≠ .stuck):
 ∃ H1,r=K ⟨tm,H1⟩∧∀ (γ:Type) (tm':List PV) (K':St→ah γ),wU E ⟨tm',H⟩ t p v K'=K' ⟨tm',H1⟩:=by
 subst hr
 unfold wU at h ⊢
 cases hs:kJ E.P t with
 |none=>simp only[hs] at h; exact absurd rfl h
 |some s=>
 cases ha:lM E.P t with
 |none=>simp only[hs,ha] at h; exact absurd rfl h
 |some a=>
 simp only[hs,ha] at h ⊢
 cases h1: !((a&&decide (2≤s))||(!a&&s==1)) with
 |true=>rw[h1] at h; exact absurd rfl h
 |false=>
 rw[h1] at h
 simp only[cond_false] at h ⊢
 cases h2:v.okS s with
 |false=>rw[h2] at h; exact absurd rfl h
 |true=>
 rw[h2] at h
 simp only[chk,cond_true] at h ⊢
 cases p with
 |ptr l o=>
  simp only[] at h ⊢
  cases h3:H[l]? with
  |none=>rw[h3] at h; exact absurd rfl h
  |some ob=>
  rw[h3] at h
  cases ob<;>try exact absurd rfl h
  rename_i e n w
  simp only[] at h ⊢
  cases h4:o==0&&s==n with
  |true=>exact⟨_,rfl,fun _ _ _=>rfl⟩
  |false=>
  rw[h4] at h
  simp only[cond_false] at h ⊢
  cases h5:decide (o+s≤n) with
  |true=>exact⟨_,rfl,fun _ _ _=>rfl⟩
  |false=>rw[h5] at h; exact absurd rfl h
 |iC l k i o=>
  simp only[] at h ⊢
  cases h3:H[l]? with
  |none=>rw[h3] at h; exact absurd rfl h
  |some ob=>
  rw[h3] at h
  cases ob<;>try exact absurd rfl h
  rotate_left
  · rename_i e k' m xs
    simp only[] at h ⊢
    cases h4:k'==k&&decide (o+s≤k) with
    |true=>exact⟨_,rfl,fun _ _ _=>rfl⟩
    |false=>rw[h4] at h; exact absurd rfl h
  rename_i e k' xs
  simp only[] at h ⊢
  cases h4: !(k'==k) with
  |true=>rw[h4] at h; exact absurd rfl h
  |false=>
  rw[h4] at h
  simp only[cond_false] at h ⊢
  cases h5:v.o7 H with
  |none=>rw[h5] at h; exact absurd rfl h
  |some y=>
  rw[h5] at h
  simp only[aS] at h ⊢
  cases h6:v.rows.contains l with
  |true=>rw[h6] at h; exact absurd rfl h
  |false=>
  rw[h6] at h
  simp only[cond_false] at h ⊢
  cases h7:o==0&&s==k with
  |true=>
   rw[h7] at h
   simp only[cond_true] at h ⊢
   cases h8: !(k==1)|| !y.isAgg with
   |true=>exact⟨_,rfl,fun _ _ _=>rfl⟩
   |false=>rw[h8] at h; exact absurd rfl h
  |false=>
  rw[h7] at h
  simp only[cond_false] at h ⊢
  cases h8:decide (o+s≤k) with
  |true=>exact⟨_,rfl,fun _ _ _=>rfl⟩
  |false=>rw[h8] at h; exact absurd rfl h
 |_=>exact absurd rfl h
theorem KL {k:Nat} {x:PV} {ys:ah β} {K:List T→ah β} {z:β} (h:sK ⟨tm,H⟩ k x K= .ok z):∃ xs,K xs= .ok z∧∀ (γ:Type) (tm':List PV) (K':List T→ah γ),sK ⟨tm',H⟩ k x K'=K' xs:=by
 unfold sK at h ⊢
 cases x with
 |nil=>exact⟨[],h,fun _ _ _=>rfl⟩
 |own l=>
  simp only[] at h ⊢
  cases h1:H[l]? with
  |none=>rw[h1] at h; cases h
  |some ob=>
  rw[h1] at h
  cases ob<;>try cases h
  all_goals
   rename_i e k' xs
   simp only[] at h ⊢
   cases h2:k'==k with
   |true=>rw[h2] at h; exact⟨xs,h,fun _ _ _=>rfl⟩
   |false=>rw[h2] at h; cases h
 |view l k0 lo hi=>
  simp only[] at h ⊢
  cases h1:H[l]? with
  |none=>rw[h1] at h; cases h
  |some ob=>
  rw[h1] at h
  cases ob<;>try cases h
  all_goals
   rename_i e k' xs
   simp only[] at h ⊢
   cases h2:k'==k&&k0==k&&decide (lo≤hi)&&decide (hi≤xs.length) with
   |true=>rw[h2] at h; exact⟨_,h,fun _ _ _=>rfl⟩
   |false=>rw[h2] at h; cases h
 |full k' xs=>
  simp only[] at h ⊢
  cases h2:k'==k with
  |true=>rw[h2] at h; exact⟨_,h,fun _ _ _=>rfl⟩
  |false=>rw[h2] at h; cases h
 |t y=>
  simp only[] at h ⊢
  unfold qW at h ⊢
  cases y<;>try cases h
  rename_i k' xs
  simp only[] at h ⊢
  split at h
  · rename_i h2
    subst h2
    exact⟨_,h,fun _ _ _=>by rw[if_pos rfl]⟩
  · cases h
 |_=>cases h
theorem YP {t t':TypeId} {p x:PV} {K:PV→St→ah β} {z:β} (h:zh E ⟨tm,H⟩ t t' p x K= .ok z):
 ∃ q H1,K q ⟨tm,H1⟩= .ok z∧∀ (γ:Type) (tm':List PV) (K':PV→St→ah γ),zh E ⟨tm',H⟩ t t' p x K'=K' q ⟨tm',H1⟩:=by
 unfold zh at h ⊢
 cases he:AY E.P t with
 |none=>simp only[he] at h; cases h
 |some e=>
 cases hs:kJ E.P e with
 |none=>simp only[he,hs] at h; cases h
 |some s=>
 cases s with
 |zero=>simp only[he,hs] at h; cases h
 |succ k=>
 simp only[he,hs] at h ⊢
 cases h1:t==t' with
 |false=>rw[h1] at h; cases h
 |true=>
 rw[h1] at h
 simp only[cond_true] at h ⊢
 obtain⟨ys,h2,h3⟩:=KL (ys:= .stuck) h
 simp only[h3]
 cases hr:qJ H p with
 |none=>simp only[hr] at h2; cases h2
 |some v=>
 obtain⟨l,k',a,b,f⟩:=v
 simp only[hr] at h2 ⊢
 cases h4:H[l]? with
 |none=>rw[h4] at h2; cases h2
 |some ob=>
 rw[h4] at h2
 cases ob<;>try cases h2
 rename_i e0 k0 xs
 simp only[] at h2 ⊢
 cases h5:e0==e&&k0==k+1&&k'==k+1 with
 |false=>rw[h5] at h2; cases h2
 |true=>
 rw[h5] at h2
 simp only[cond_true] at h2 ⊢
 cases h6:decide (a≤b)&&decide (b≤xs.length) with
 |false=>rw[h6] at h2; cases h2
 |true=>
 rw[h6] at h2
 exact⟨_,_,h2,fun _ _ _=>rfl⟩
theorem builtin_copy {tys:List TypeId} {args:List PV} {st:St} {K:PV→St→ah β} {z:β} (h:lH E .copy tys args st K= .ok z):∃ t t' p x,tys= [t,t']∧args= [p,x]:=by
 match tys,args with
 | [t,t'],[p,x]=>exact⟨t,t',p,x,rfl,rfl⟩
 | [],_=>cases h
 | [_],_=>cases h
 |_::_::_::_,_=>cases h
 | [_,_],[]=>cases h
 | [_,_],[_]=>cases h
 | [_,_],_::_::_::_=>cases h
theorem CQ {t t':TypeId} {p x:PV} {st:St} {K:PV→St→ah β}:lH E .copy [t,t'] [p,x] st K=zh E st t t' p x K:=rfl
theorem L6 {o:Oper} (hq:DT o.op=true) {st1:St} (h:bn E rc ops [(o,true)] ⟨tm,H⟩ (fun s=>(.ok s:ah St))= .ok st1):
 ∃ p H1,st1=⟨dL tm o.dst p,H1⟩∧∀ tm',(∀ t∈o.looksAt ops,tm'[t]? =tm[t]?)→bn E rc ops [(o,true)] ⟨tm',H⟩ (fun s=>(.ok s:ah St))= .ok ⟨dL tm' o.dst p,H1⟩:=by
 rw[dN] at h
 cases hg:guardOf ops tm o with
 |none=>rw[hg] at h; cases h
 |some b=>
  rw[hg] at h
  cases b with
  |false=>
   simp only[bn,ah.ok.injEq] at h
   refine⟨dY,H,h.symm,fun tm' hs=>?_⟩
   rw[dN,lg hs,hg]
   rfl
  |true=>
   obtain⟨dst,op,type,pos,after,guard⟩:=o
   cases op
   case store t a x=>
    simp only[kY] at h
    obtain⟨pa,ea,f1⟩:=aB (by rw[h]; simp)
    rw[f1] at h
    obtain⟨px,ex,f2⟩:=aB (by rw[h]; simp)
    rw[f2] at h
    obtain⟨H1,m1,m2⟩:=Wv h (by simp)
    simp only[bn,ah.ok.injEq] at m1
    refine⟨dY,H1,m1,fun tm' hs=>?_⟩
    have ea':bV E.P tm' 0 a=some pa:=by rw[←ea]; exact bZ fun i hi=>hs i (jv (hi ▸ by simp[Op.operands]))
    have ex':bV E.P tm' t x=some px:=by rw[←ex]; exact bZ fun i hi=>hs i (jv (hi ▸ by simp[Op.operands]))
    rw[dN,lg hs,hg]
    simp only[kY,ea',ex',aS,m2,bn]
   case call c=>
    obtain⟨callee,args,argTypes⟩:=c
    cases callee<;>try exact absurd (show false=true from hq) (by decide)
    rename_i bi
    cases bi<;>try exact absurd (show false=true from hq) (by decide)
    simp only[kY] at h
    obtain⟨ps,es,f1⟩:=aB (by rw[h]; simp)
    rw[f1] at h
    have es':∀ tm':List PV,(∀ t∈Oper.looksAt ops ⟨dst,.call ⟨.builtin .copy,args,argTypes⟩,type,pos,after,guard⟩,tm'[t]? =tm[t]?)→jF E.P tm' (fun i=>argTypes.getD i 0) 0 args.toList=some ps:=fun tm' hs=>by
     rw[←es]; exact qy fun x hx i hi=>hs i (jv (hi ▸ by simpa[Op.operands,Call.operands] using hx))
    obtain⟨t,t',p,x,e1,e2⟩:=builtin_copy h
    subst e2
    rw[e1,CQ] at h
    obtain⟨q,H1,m1,m2⟩:=YP h
    simp only[bn,ah.ok.injEq] at m1
    refine⟨q,H1,m1.symm,fun tm' hs=>?_⟩
    rw[dN,lg hs,hg]
    simp only[kY,es' tm' hs,aS,e1]
    rw[CQ,m2]
    rfl
   all_goals exact absurd (show false=true from hq) (by decide)
theorem CU (hrc:rc.Nat) {o:Oper} (hq:qM o.op=true) {st1:St} (h:bn E rc ops [(o,true)] ⟨tm,H⟩ (fun s=>(.ok s:ah St))= .ok st1):
 ∃ p,st1=⟨dL tm o.dst p,H⟩∧∀ tm' H',(∀ t∈o.looksAt ops,tm'[t]? =tm[t]?)→bn E rc ops [(o,true)] ⟨tm',H'⟩ (fun s=>(.ok s:ah St))= .ok ⟨dL tm' o.dst p,H'⟩:=by
 obtain⟨p,e,hp⟩:=quiet_step hrc (vY hq) h
 refine⟨p,e,fun tm' H' hs=>?_⟩
 have h2:=hp tm' hs
 rw[dN] at h2 ⊢
 cases hg:guardOf ops tm' o with
 |none=>rw[hg] at h2; cases h2
 |some b=>
  rw[hg] at h2
  cases b with
  |false=>
   simp only[bn,ah.ok.injEq,St.mk.injEq,and_true] at h2 ⊢
   exact h2
  |true=>
   simp only[] at h2 ⊢
   rw[EL hq _ H']
   rw[rP hrc (vY hq) (tm:=tm') (fun _ _ _ _=>rfl)] at h2 ⊢
   cases hr:kY E rc true o ⟨tm',H⟩ fun p _=>(.ok p:ah PV) with
   |ok p'=>
    rw[hr] at h2
    simp only[ah.bind_ok,bn,ah.ok.injEq,St.mk.injEq,and_true] at h2 ⊢
    exact h2
   |absurd=>rw[hr] at h2; cases h2
   |stuck=>rw[hr] at h2; cases h2
theorem NT (hrc:rc.Nat) {x y:Oper} (hxy:(DT y.op&&qM x.op||DT x.op&&qM y.op)=true) (hap:x.apart ops y=true) {st st1 st2:St} (h1:bn E rc ops [(x,true)] st (fun s=>(.ok s:ah St))= .ok st1)
 (h2:bn E rc ops [(y,true)] st1 (fun s=>(.ok s:ah St))= .ok st2):
 ∃ st1',bn E rc ops [(y,true)] st (fun s=>(.ok s:ah St))= .ok st1'∧bn E rc ops [(x,true)] st1' (fun s=>(.ok s:ah St))= .ok st2:=by
 obtain⟨tm,H⟩:=st
 obtain⟨a1,a2,a3⟩:=Oper.apart_spec hap
 have g1:∀ p,∀ t∈y.looksAt ops,tm[t]? =(dL tm x.dst p)[t]? :=fun p t ht=>(oZ fun e he=>by rintro rfl; exact a1 e he ht).symm
 have g3:∀ q,∀ t∈x.looksAt ops,(dL tm y.dst q)[t]? =tm[t]? :=fun q t ht=>oZ fun e he=>by rintro rfl; exact a3 e he ht
 rw[Bool.or_eq_true,Bool.and_eq_true,Bool.and_eq_true] at hxy
 rcases hxy with ⟨hy,hx⟩|⟨hx,hy⟩
 · obtain⟨p,rfl,hp⟩:=CU hrc hx h1
   obtain⟨q,H1,rfl,hq⟩:=L6 hy h2
   exact⟨⟨dL tm y.dst q,H1⟩,hq tm (g1 p),by rw[hp _ H1 (g3 q),oI a2]⟩
 · obtain⟨q,H1,rfl,hq⟩:=L6 hx h1
   obtain⟨p,rfl,hp⟩:=CU hrc hy h2
   exact⟨⟨dL tm y.dst p,H⟩,hp tm H (g1 q),by rw[hq _ (g3 p),oI a2]⟩
theorem xO {H:List aj} {b o:aj} {l:Nat} (h:H[l]? =some o):(H++ [b])[l]? =some o:=by
 rw[List.getElem?_append_left (List.getElem?_eq_some_iff.1 h).1]; exact h
theorem afq {H:List aj} {b:aj} {p:PV} {x:T} (h:p.o7 H=some x):p.o7 (H++ [b])=some x:=
 O3 (fun l=>⟨fun e k xs h=> .inl (xO h),fun o h _=>xO h⟩) p x h
theorem abu {H:List aj} {b:aj} {ps:List PV} {xs:List T} (h:PV.lF H ps=some xs):PV.lF (H++ [b]) ps=some xs:=by
 have h1:(PV.au ps).o7 H=some (.au xs):=by simp only[PV.o7,h,Option.map_some]
 have h2:=afq (b:=b) h1
 simp only[PV.o7,Option.map_eq_some_iff] at h2
 obtain⟨ys,h3,h4⟩:=h2
 injection h4 with h4
 rw[h3,h4]
theorem abG {t:TypeId} {p:PV} {K:PV→ah β} {z:β} {b:aj} (h:uj E ⟨tm,H⟩ t p K= .ok z):uj E ⟨tm,H++ [b]⟩ t p K= .ok z:=by
 unfold uj at h ⊢
 cases hs:kJ E.P t with
 |none=>simp only[hs] at h; cases h
 |some s=>
 cases ha:lM E.P t with
 |none=>simp only[hs,ha] at h; cases h
 |some a=>
 simp only[hs,ha] at h ⊢
 cases h1: !((a&&decide (2≤s))||(!a&&s==1)) with
 |true=>rw[h1] at h; cases h
 |false=>
 rw[h1] at h
 simp only[cond_false] at h ⊢
 cases p with
 |ptr l o=>
  simp only[] at h ⊢
  cases h3:H[l]? with
  |none=>rw[h3] at h; cases h
  |some ob=>rw[h3] at h; rw[xO h3]; exact h
 |iC l k i o=>
  simp only[] at h ⊢
  cases h3:H[l]? with
  |none=>rw[h3] at h; cases h
  |some ob=>rw[h3] at h; rw[xO h3]; exact h
 |_=>exact h
theorem YZ {t:TypeId} {p ix:PV} {K:PV→ah β} {z:β} {b:aj} (h:pY E ⟨tm,H⟩ t p ix K= .ok z):pY E ⟨tm,H++ [b]⟩ t p ix K= .ok z:=by
 unfold pY at h ⊢
 cases he:AY E.P t with
 |none=>simp only[he] at h; cases h
 |some e=>
 cases hs:kJ E.P e with
 |none=>simp only[he,hs] at h; cases h
 |some k=>
 simp only[he,hs] at h ⊢
 cases ix with
 |t iv=>
  simp only[] at h ⊢
  cases iv with
  |int kk i=>
   simp only[o9] at h ⊢
   cases p with
   |own l=>
    simp only[] at h ⊢
    cases h3:H[l]? with
    |none=>rw[h3] at h; cases h
    |some ob=>rw[h3] at h; rw[xO h3]; exact h
   |view l k0 lo hi=>
    simp only[] at h ⊢
    cases h3:H[l]? with
    |none=>rw[h3] at h; cases h
    |some ob=>rw[h3] at h; rw[xO h3]; exact h
   |_=>exact h
  |_=>exact h
 |_=>exact h
theorem YO {f:FuncId} {args:List PV} {z:PV} {b:aj} (h:mD E rc true f args ⟨tm,H⟩ (fun p _=>(.ok p:ah PV))= .ok z):mD E rc true f args ⟨tm,H++ [b]⟩ (fun p _=>(.ok p:ah PV))= .ok z:=by
 unfold mD at h ⊢
 cases hi:E.zM f with
 |some g=>
  simp only[hi] at h
  unfold BZ Ai at h
  simp only[Bool.not_true,Bool.false_and,cond_false] at h
  split at h
  · split at h<;>cases h
  · split at h
    · split at h<;>cases h
    · cases h
  · cases h
 |none=>
 simp only[hi] at h ⊢
 cases hf:(bif E.mode f==3 then none else PV.lF H args) with
 |none=>simp only[hf,Bool.true_or,cond_true] at h; cases h
 |some ts=>
  have hm:(E.mode f==3)=false:=by
   cases hm:E.mode f==3 with
   |true=>rw[hm] at hf; cases hf
   |false=>rfl
  rw[hm] at hf
  simp only[cond_false] at hf
  have hf2:(bif E.mode f==3 then none else PV.lF (H++ [b]) args)=some ts:=by rw[hm]; exact abu hf
  simp only[hm,cond_false,hf] at h
  simp only[hf2]
  split at h
  · rename_i hm0
    first|exact h|(simp only[hm0]; exact h)
  · cases h
  · cases h
theorem H6 {o:Op} (h:D5 o=true):gV o=true:=by
 cases o<;>first|rfl|cases h|skip
 rename_i c
 obtain⟨callee,args,tys⟩:=c
 cases callee<;>first|rfl|cases h
theorem Zk {o:Oper} (hq:D5 o.op=true) {z:PV} {b:aj} (h:kY E rc true o ⟨tm,H⟩ (fun p _=>(.ok p:ah PV))= .ok z):kY E rc true o ⟨tm,H++ [b]⟩ (fun p _=>(.ok p:ah PV))= .ok z:=by
 obtain⟨dst,op,type,pos,after,guard⟩:=o
 cases op
 case load t a=>
  simp only[kY] at h ⊢
  obtain⟨p,e,f1⟩:=aB (by rw[h]; simp)
  rw[f1] at h
  rw[e]
  exact abG h
 case indexAddr t x ix=>
  simp only[kY] at h ⊢
  obtain⟨p,e,f1⟩:=aB (by rw[h]; simp)
  rw[f1] at h
  obtain⟨q,e2,f2⟩:=aB (by rw[h]; simp)
  rw[f2] at h
  rw[e,e2]
  exact YZ h
 case call c=>
  obtain⟨callee,args,tys⟩:=c
  cases callee<;>try exact absurd (show false=true from hq) (by decide)
  rename_i fo
  cases fo<;>try exact absurd (show false=true from hq) (by decide)
  simp only[kY] at h ⊢
  obtain⟨ps,e,f1⟩:=aB (by rw[h]; simp)
  rw[f1] at h
  rw[e]
  exact YO h
 all_goals first|exact h|exact absurd (show false=true from hq) (by decide)
theorem Zl (hrc:rc.Nat) {o:Oper} (hq:D5 o.op=true) {p:PV} {b:aj} (h:bn E rc ops [(o,true)] ⟨tm,H⟩ (fun s=>(.ok s:ah St))= .ok ⟨dL tm o.dst p,H⟩):
 bn E rc ops [(o,true)] ⟨tm,H++ [b]⟩ (fun s=>(.ok s:ah St))= .ok ⟨dL tm o.dst p,H++ [b]⟩:=by
 rw[dN] at h ⊢
 cases hg:guardOf ops tm o with
 |none=>rw[hg] at h; cases h
 |some w=>
  rw[hg] at h
  cases w with
  |false=>
   simp only[bn,ah.ok.injEq,St.mk.injEq,and_true] at h ⊢
   exact h
  |true=>
   simp only[] at h ⊢
   rw[rP hrc (H6 hq) (tm:=tm) (fun _ _ _ _=>rfl)] at h ⊢
   cases hr:kY E rc true o ⟨tm,H⟩ fun p _=>(.ok p:ah PV) with
   |ok p'=>
    rw[hr] at h
    rw[Zk hq hr]
    simp only[ah.bind_ok,bn,ah.ok.injEq,St.mk.injEq,and_true] at h ⊢
    exact h
   |absurd=>rw[hr] at h; cases h
   |stuck=>rw[hr] at h; cases h
theorem YJ {o:Oper} (hq:QC o.op=true) {st1:St} (h:bn E rc ops [(o,true)] ⟨tm,H⟩ (fun s=>(.ok s:ah St))= .ok st1):
 ∃ p H1,st1=⟨dL tm o.dst p,H1⟩∧(H1=H∨∃ b,H1=H++ [b])∧∀ tm',(∀ t∈o.looksAt ops,tm'[t]? =tm[t]?)→bn E rc ops [(o,true)] ⟨tm',H⟩ (fun s=>(.ok s:ah St))= .ok ⟨dL tm' o.dst p,H1⟩:=by
 rw[dN] at h
 cases hg:guardOf ops tm o with
 |none=>rw[hg] at h; cases h
 |some b=>
  rw[hg] at h
  cases b with
  |false=>
   simp only[bn,ah.ok.injEq] at h
   refine⟨dY,H,h.symm,.inl rfl,fun tm' hs=>?_⟩
   rw[dN,lg hs,hg]
   rfl
  |true=>
   obtain⟨dst,op,type,pos,after,guard⟩:=o
   cases op
   case alloc e=>
    simp only[kY] at h
    obtain⟨n,e1,f1⟩:=aB (by rw[h]; simp)
    rw[f1] at h
    obtain⟨z,e2,f2⟩:=aB (by rw[h]; simp)
    rw[f2] at h
    cases hc:nJ E.P e n&&z.okS n with
    |false=>rw[hc] at h; cases h
    |true=>
     rw[hc] at h
     simp only[chk,cond_true,bn,ah.ok.injEq] at h
     refine⟨_,_,h.symm,.inr ⟨_,rfl⟩,fun tm' hs=>?_⟩
     rw[dN,lg hs,hg]
     simp only[kY,e1,e2,aS,hc,chk,cond_true,bn]
   all_goals exact absurd (show false=true from hq) (by decide)
theorem NR (hrc:rc.Nat) {x y:Oper} (hy:QC y.op=true) (hx:D5 x.op=true) (hap:x.apart ops y=true) {st st1 st2:St} (h1:bn E rc ops [(x,true)] st (fun s=>(.ok s:ah St))= .ok st1)
 (h2:bn E rc ops [(y,true)] st1 (fun s=>(.ok s:ah St))= .ok st2):
 ∃ st1',bn E rc ops [(y,true)] st (fun s=>(.ok s:ah St))= .ok st1'∧bn E rc ops [(x,true)] st1' (fun s=>(.ok s:ah St))= .ok st2:=by
 obtain⟨tm,H⟩:=st
 obtain⟨a1,a2,a3⟩:=Oper.apart_spec hap
 have g1:∀ p,∀ t∈y.looksAt ops,tm[t]? =(dL tm x.dst p)[t]? :=fun p t ht=>(oZ fun e he=>by rintro rfl; exact a1 e he ht).symm
 have g3:∀ q,∀ t∈x.looksAt ops,(dL tm y.dst q)[t]? =tm[t]? :=fun q t ht=>oZ fun e he=>by rintro rfl; exact a3 e he ht
 obtain⟨p,rfl,hp⟩:=quiet_step hrc (H6 hx) h1
 obtain⟨q,H1,rfl,hH,hq⟩:=YJ hy h2
 refine⟨⟨dL tm y.dst q,H1⟩,hq tm (g1 p),?_⟩
 have h3:=hp _ (g3 q)
 rw[oI a2]
 rcases hH with rfl|⟨b,rfl⟩
 · exact h3
 · exact Zl hrc hx h3
theorem commute (hrc:rc.Nat) {x y:Oper} (hxy:(gV x.op&&gV y.op||vM x.op y.op)=true) (hap:x.apart ops y=true) {st st1 st2:St} (h1:bn E rc ops [(x,true)] st (fun s=>(.ok s:ah St))= .ok st1)
 (h2:bn E rc ops [(y,true)] st1 (fun s=>(.ok s:ah St))= .ok st2):
 ∃ st1',bn E rc ops [(y,true)] st (fun s=>(.ok s:ah St))= .ok st1'∧bn E rc ops [(x,true)] st1' (fun s=>(.ok s:ah St))= .ok st2:=by
 rw[Bool.or_eq_true,Bool.and_eq_true] at hxy
 rcases hxy with ⟨hx,hy⟩|hxy
 · obtain⟨tm,H⟩:=st
   obtain⟨a1,a2,a3⟩:=Oper.apart_spec hap
   obtain⟨p,rfl,hp⟩:=quiet_step hrc hx h1
   obtain⟨q,rfl,hq⟩:=quiet_step hrc hy h2
   refine⟨⟨dL tm y.dst q,H⟩,hq tm (fun t ht=>(oZ fun e he=>?_).symm),?_⟩
   · rintro rfl; exact a1 e he ht
   · rw[hp (dL tm y.dst q) (fun t ht=>oZ fun e he=>?_),oI a2]
     rintro rfl; exact a3 e he ht
 · unfold vM at hxy
   rw[Bool.or_eq_true,Bool.or_eq_true] at hxy
   rcases hxy with (hxy|hxy)|hxy
   · exact NS hrc hxy hap h1 h2
   · exact NT hrc hxy hap h1 h2
   · rw[Bool.and_eq_true] at hxy
     exact NR hrc hxy.1 hxy.2 hap h1 h2
def runs (E:Env) (rc:Caller) (ops:Array Oper) (l:List (Oper×Bool)) (st st':St):Prop:=bn E rc ops l st (fun s=>(.ok s:ah St))= .ok st'
theorem vP (hrc:rc.Nat) (x:Oper×Bool) (r:List (Oper×Bool)) (st:St) (K:St→ah β):bn E rc ops (x::r) st K=(bn E rc ops [x] st (fun s=>(.ok s:ah St))).bind fun st'=>bn E rc ops r st' K:=by
 obtain⟨o,dr⟩:=x
 have:=nN (E:=E) (Strict.bind (β:=St) fun st'=>bn E rc ops r st' K) hrc ops [(o,dr)] st fun s=> .ok s
 rw[this,dN,dN]
 rfl
theorem Gv (hrc:rc.Nat) {x:Oper×Bool} {r:List (Oper×Bool)} {st st':St}:runs E rc ops (x::r) st st'↔∃ st1,runs E rc ops [x] st st1∧runs E rc ops r st1 st':=by
 unfold runs
 rw[vP hrc]
 constructor
 · intro h
   cases h1:bn E rc ops [x] st (fun s=>(.ok s:ah St)) with
   |ok s=>rw[h1] at h; exact⟨s,rfl,h⟩
   |absurd=>rw[h1] at h; cases h
   |stuck=>rw[h1] at h; cases h
 · rintro⟨s,h1,h2⟩
   rw[h1]; exact h2
theorem LK (hrc:rc.Nat) {y:Oper×Bool} {l2:List (Oper×Bool)}:∀ {l1:List (Oper×Bool)} {st st':St},(∀ x∈l1,x.2=true∧y.2=true∧(gV x.1.op&&gV y.1.op||vM x.1.op y.1.op)=true∧x.1.apart ops y.1=true)→
 runs E rc ops (l1++y::l2) st st'→∃ st1,runs E rc ops [y] st st1∧runs E rc ops (l1++l2) st1 st'
 | [],st,st',_,h=>(Gv hrc).1 h
 |x::l1,st,st',hx,h=>by
  obtain⟨s1,h1,h2⟩:=(Gv hrc).1 h
  obtain⟨s2,h3,h4⟩:=LK hrc (fun z hz=>hx z (List.mem_cons_of_mem _ hz)) h2
  obtain⟨g1,g2,g3,g5⟩:=hx x List.mem_cons_self
  obtain⟨x,bx⟩:=x
  obtain⟨y,bY⟩:=y
  simp only at g1 g2 g3 g5
  subst g1
  subst g2
  obtain⟨s1',h5,h6⟩:=commute hrc g3 g5 h1 h3
  exact⟨s1',h5,(Gv hrc).2 ⟨s2,h6,h4⟩⟩
end
end
section
open Go.RowKit
theorem KJ (acc:Array Nat) (j:Nat):∀ (es:List Edge) (s:Nat),(es.foldl (fun s e=>if Region.binds .any e then s|||2 ^ e.on|||acc.getD e.on 0 else s) s).testBit j=true→
 s.testBit j=true∨∃ e∈es,Region.binds .any e=true∧(e.on=j∨(acc.getD e.on 0).testBit j=true)
 | [],s,h=> .inl h
 |e::es,s,h=>by
  simp only[List.foldl_cons] at h
  rcases KJ acc j es _ h with h1|⟨e',h1,h2⟩
  · by_cases hb:Region.binds .any e=true
    · rw[if_pos hb] at h1
      simp only[Nat.testBit_or,Nat.testBit_two_pow,Bool.or_eq_true,decide_eq_true_eq] at h1
      rcases h1 with (h1|h1)|h1
      · exact .inl h1
      · exact .inr ⟨e,List.mem_cons_self,hb,.inl h1⟩
      · exact .inr ⟨e,List.mem_cons_self,hb,.inr h1⟩
    · rw[if_neg hb] at h1; exact .inl h1
  · exact .inr ⟨e',List.mem_cons_of_mem _ h1,h2⟩
def Xq (ops:Array Oper) (acc:Array Nat) (k:Nat):Prop:=acc.size=k∧∀ i,i < k→∀ j,(acc.getD i 0).testBit j=true→∃ o,ops[i]? =some o∧∃ e∈o.after.toList,Region.binds .any e=true∧(e.on=j∨(e.on < i∧(acc.getD e.on 0).testBit j=true))
theorem Ky (ops:Array Oper):∀ (rest:List Oper) (acc:Array Nat) (k:Nat),(∀ m,rest[m]? =ops[k+m]?)→Xq ops acc k→
 Xq ops (rest.foldl (fun acc o=>acc.push (o.after.foldl (fun s e=>if Region.binds .any e then s|||2 ^ e.on|||acc.getD e.on 0 else s) 0)) acc) (k+rest.length)
 | [],acc,k,_,h=>h
 |o::rest,acc,k,hr,h=>by
  simp only[List.foldl_cons,List.length_cons]
  rw[show k+(rest.length+1)=(k+1)+rest.length by omega]
  refine Ky ops rest _ (k+1) (fun m=>by have:=hr (m+1); simpa[Nat.add_assoc,Nat.add_comm 1 m] using this) ⟨by simp[h.1],fun i hi j hj=>?_⟩
  have hget:∀ x i,i < k→(acc.push x).getD i 0=acc.getD i 0:=fun x i hi=>by
   have:i < acc.size:=by rw[h.1]; exact hi
   simp[Array.getD_eq_getD_getElem?,Array.getElem?_push,Nat.ne_of_lt this]
  by_cases e0:i < k
  · rw[hget _ i e0] at hj
    obtain⟨o',g1,e,g2,g3,g4⟩:=h.2 i e0 j hj
    refine⟨o',g1,e,g2,g3,g4.imp id fun⟨a,b⟩=>⟨a,by rw[hget _ _ (by omega)]; exact b⟩⟩
  · have hik:i=k:=by omega
    subst hik
    have ho:ops[i]? =some o:=by simpa using(hr 0).symm
    have hlast:∀ x,(acc.push x).getD i 0=x:=fun x=>by simp[Array.getD_eq_getD_getElem?,←h.1]
    rw[hlast,←Array.foldl_toList] at hj
    rcases KJ acc j _ 0 hj with h1|⟨e,g2,g3,g4⟩
    · simp at h1
    · refine⟨o,ho,e,g2,g3,g4.imp id fun g=>?_⟩
      have hlt:e.on < i:=by
       rcases Nat.lt_or_ge e.on i with h1|h1
       · exact h1
       · rw[Array.getD_eq_getD_getElem?,Array.getElem?_eq_none (by rw[h.1]; exact h1)] at g; simp at g
      exact⟨hlt,by rw[hget _ _ hlt]; exact g⟩
theorem YM (ops:Array Oper):Xq ops (Region.before ops) ops.size:=by
 have:=Ky ops ops.toList #[] 0 (by simp) ⟨rfl,fun i hi=>by omega⟩
 simpa[Region.before] using this
def Closed (ops:Array Oper) (listed:Array Bool):Prop:=∀ i o,ops[i]? =some o→listed.getD i false=true→∀ e∈o.after.toList,Region.binds .any e=true→listed.getD e.on false=true
theorem xG {ops:Array Oper} {listed:Array Bool} (hcl:Closed ops listed):∀ n i,i < n→i < ops.size→∀ j,(∀ o,ops[i]? =some o→∀ e∈o.after.toList,Region.binds .any e=true→listed.getD e.on false=true)→
 ((Region.before ops).getD i 0).testBit j=true→listed.getD j false=true
 |0,i,hi,_,_,_,_=>by omega
 |n+1,i,hi,hs,j,he,hb=>by
  obtain⟨o,h1,e,h2,h3,h4⟩:=(YM ops).2 i hs j hb
  have hl:=he o h1 e h2 h3
  rcases h4 with rfl|⟨h4,h5⟩
  · exact hl
  · exact xG hcl n e.on (by omega) (by omega) j (fun o' ho'=>hcl e.on o' ho' hl) h5
section
variable {β:Type} {E:Env} {rc:Caller} {st:St} {F:Nat→Prop} {κ:Nat→Value} {w:World} {N0:Nat} {a:Act} {ops:Array Oper}
theorem Rel.drew (rel:Rel F κ st a w):Rel F κ st a {w with drawn:=w.drawn+1}:=by
 have mono:∀ {p:PV} {v:Value},RP F κ st.heap.length w p v→RP F κ st.heap.length {w with drawn:=w.drawn+1} p v:=fun {p v} h=>RP.mono (w:=w) (w':={w with drawn:=w.drawn+1}) (fun _ h=>h) (fun _ _=>rfl) h fun l hl=>⟨rfl,h.bound l hl⟩
 exact⟨rel.tl,fun i p v h1 h2=>mono (rel.tr i p v h1 h2),rel.dn,rel.si.fresh (Nat.le_refl _) (fun _ _=>rfl) (fun _ h=>h) (fun _ h=> .inl h) rel.si.fl⟩
def flagged (ops:Array Oper) (i:Nat):Oper×Bool:=(ops.getD i default,beside (Region.before ops) ops.size i)
theorem EG:dG ops=(List.range ops.size).map (flagged ops):=by
 unfold dG flagged
 apply List.ext_getElem
 · simp
 · intro i h1 h2
   have hi:i < ops.size:=by simpa using h2
   simp[Array.getD_eq_getD_getElem?,hi]
theorem VK (hd:sJ ops=true) {i j:Nat} (hi:i < ops.size) (hj:j < ops.size) (hij:i < j) (hb:((Region.before ops).getD j 0).testBit i=false):
 (flagged ops i).2=true∧(flagged ops j).2=true∧(gV (flagged ops i).1.op&&gV (flagged ops j).1.op||vM (flagged ops i).1.op (flagged ops j).1.op)=true∧(flagged ops i).1.apart ops (flagged ops j).1=true:=by
 unfold sJ at hd
 simp only[Bool.and_eq_true,List.all_eq_true] at hd
 have hm:∀ i,i < ops.size→(ops.getD i default,i)∈ops.toList.zipIdx:=fun i hi=>by
  rw[List.mem_zipIdx_iff_getElem?]
  simp[Array.getD_eq_getD_getElem?,hi]
 have:=hd.2 _ (hm j hj) _ (hm i hi)
 simp only[hij,decide_true,Bool.not_true,Bool.false_or,hb] at this
 rw[Bool.and_eq_true,Bool.and_eq_true,Bool.not_eq_true'] at this
 obtain⟨⟨h1,h2⟩,h4⟩:=this
 have hbs:∀ x y,y < ops.size→x≠y→ordered (Region.before ops) x y=false→beside (Region.before ops) ops.size x=true:=by
  intro x y hy hne ho
  unfold beside
  rw[List.any_eq_true]
  exact⟨y,List.mem_range.2 hy,by simp[hne,ho]⟩
 exact⟨hbs i j hj (by omega) (by unfold ordered; rw[h1,hb]; rfl),hbs j i hi (by omega) (by unfold ordered; rw[h1,hb]; rfl),h2,h4⟩
theorem abe (hc:fG E rc) (hd:sJ ops=true) {Q:Exit→Act→World→Prop} {st0 BO:St} {F0:Nat→Prop} {κ0:Nat→Value} {w0:World}
 (hq:∀ F' κ' a' w',Rel F' κ' BO a' w'→mX N0 F0 κ0 w0 st0.heap F' κ' w' BO.heap→Q .normal a' w'):∀ (fuel:Nat) (listed:Array Bool) (u:List Nat) (st:St) (F:Nat→Prop) (κ:Nat→Value) (a:Act) (w:World),
 listed.size=ops.size→u.Pairwise (· < ·)→(∀ i,i∈u↔i < ops.size∧listed.getD i true=false)→u.length≤fuel→Closed ops listed→runs E rc ops (u.map (flagged ops)) st BO→Rel F κ st a w→mX N0 F0 κ0 w0 st0.heap F κ w st.heap→
 wpAny E.P .any ops Q fuel listed a w:=by
 have done:∀ (st:St) (F:Nat→Prop) (κ:Nat→Value) (a:Act) (w:World),runs E rc ops [] st BO→Rel F κ st a w→mX N0 F0 κ0 w0 st0.heap F κ w st.heap→Q .normal a w:=by
  intro st F κ a w hr rel ev
  simp only[runs,bn,ah.ok.injEq] at hr
  subst hr
  exact hq F κ a w rel ev
 have BL:∀ (listed:Array Bool) (i:Nat),i∈Region.ready .any ops listed↔i < ops.size∧listed.getD i true=false∧∀ o,ops[i]? =some o→∀ e∈o.after.toList,Region.binds .any e=true→listed.getD e.on false=true:=by
  intro listed i
  simp only[Region.ready,List.mem_filter,List.mem_range,Bool.and_eq_true,Bool.not_eq_true']
  constructor
  · rintro⟨h1,h2,h3⟩
    refine⟨h1,h2,fun o ho e he hb=>?_⟩
    rw[ho] at h3
    simp only[Option.map_some,Option.getD_some,Array.all_eq_true_iff_forall_mem] at h3
    have:=h3 e (by simpa using he)
    simpa[hb] using this
  · rintro⟨h1,h2,h3⟩
    refine⟨h1,h2,?_⟩
    rw[Array.getElem?_eq_getElem h1]
    simp only[Option.map_some,Option.getD_some,Array.all_eq_true_iff_forall_mem]
    intro e he
    cases hb:Region.binds .any e with
    |false=>rfl
    |true=>simpa using h3 _ (Array.getElem?_eq_getElem h1) e (by simpa using he) hb
 have hmin:∀ (listed:Array Bool) (u:List Nat),listed.size=ops.size→u.Pairwise (· < ·)→(∀ i,i∈u↔i < ops.size∧listed.getD i true=false)→Region.ready .any ops listed= []→u= []:=by
  intro listed u hsz hp hu hr
  cases u with
  |nil=>rfl
  |cons i u=>
   exfalso
   have hi:=(hu i).1 List.mem_cons_self
   have:i∈Region.ready .any ops listed:=by
    rw[BL]
    refine⟨hi.1,hi.2,fun o ho e he hb=>?_⟩
    have hlt:e.on < i:=by
     unfold sJ at hd
     simp only[Bool.and_eq_true,List.all_eq_true] at hd
     have:=hd.1 (o,i) (by rw[List.mem_zipIdx_iff_getElem?]; simpa using ho)
     simp only[Array.all_eq_true_iff_forall_mem] at this
     have:=this e (by simpa using he)
     simpa[hb] using this
    have hs:e.on < listed.size:=by omega
    cases hl:listed.getD e.on false with
    |true=>rfl
    |false=>
     have hmem:e.on∈i::u:=(hu e.on).2 ⟨by omega,by
      rw[Array.getD_eq_getD_getElem?,Array.getElem?_eq_getElem hs] at hl ⊢; exact hl⟩
     rcases List.mem_cons.1 hmem with h1|h1
     · omega
     · have:=(List.pairwise_cons.1 hp).1 e.on h1; omega
   rw[hr] at this
   cases this
 intro fuel
 induction fuel with
 |zero=>
  intro listed u st F κ a w hsz hp hu hl hcl hr rel ev
  have:u= []:=List.eq_nil_of_length_eq_zero (by omega)
  subst this
  refine⟨?_,done st F κ a w hr rel ev⟩
  cases hrd:Region.ready .any ops listed with
  |nil=>rfl
  |cons i l=>
   have h1:i∈Region.ready .any ops listed:=by rw[hrd]; exact List.mem_cons_self
   rw[BL] at h1
   exact absurd ((hu i).2 ⟨h1.1,h1.2.1⟩) (by simp)
 |succ fuel ih=>
  intro listed u st F κ a w hsz hp hu hl hcl hr rel ev
  refine⟨fun hrd=>?_,fun i hi=>?_⟩
  · have:=hmin listed u hsz hp hu hrd
    subst this
    exact done st F κ a w hr rel ev
  · rw[BL] at hi
    obtain⟨hi1,hi2,hi3⟩:=hi
    obtain⟨u1,u2,rfl⟩:=List.append_of_mem ((hu i).2 ⟨hi1,hi2⟩)
    have hp':=List.pairwise_append.1 hp
    have hp2:=List.pairwise_cons.1 hp'.2.1
    have hlt1:∀ x∈u1,x < i:=fun x hx=>hp'.2.2 x hx i List.mem_cons_self
    rw[List.map_append,List.map_cons] at hr
    obtain⟨st1,r1,r2⟩:=LK hc.nat (fun x hx=>by
     obtain⟨j,hj,rfl⟩:=List.mem_map.1 hx
     have hju:=(hu j).1 (List.mem_append_left _ hj)
     refine VK hd hju.1 hi1 (hlt1 j hj) ?_
     cases hb:((Region.before ops).getD i 0).testBit j with
     |false=>rfl
     |true=>
      have:=xG hcl (i+1) i (Nat.lt_succ_self _) hi1 j hi3 hb
      have hs:j < listed.size:=by omega
      have h2:=hju.2
      rw[Array.getD_eq_getD_getElem?,Array.getElem?_eq_getElem hs] at this h2
      simp only[Option.getD_some] at this h2
      rw[this] at h2
      cases h2) hr
    have hop:ops[i]? =some (ops.getD i default):=by simp[Array.getD_eq_getD_getElem?,hi1]
    have next:∀ (F':Nat→Prop) (κ':Nat→Value) (a':Act) (w':World),Rel F' κ' st1 a' w'→mX N0 F0 κ0 w0 st0.heap F' κ' w' st1.heap→wpAny E.P .any ops Q fuel (listed.setIfInBounds i true) a' w':=by
     intro F' κ' a' w' rel' ev'
     refine ih (listed.setIfInBounds i true) (u1++u2) st1 F' κ' a' w' (by simp[hsz]) ?_ (fun j=>?_) (by simp at hl ⊢; omega) (fun j o ho hj e he hb=>?_) (by rw[List.map_append]; exact r2) rel' ev'
     · exact List.pairwise_append.2 ⟨hp'.1,hp2.2,fun x hx y hy=>hp'.2.2 x hx y (List.mem_cons_of_mem _ hy)⟩
     · have:=hu j
       simp only[List.mem_append,List.mem_cons] at this ⊢
       by_cases e:j=i
       · subst e
         rw[Array.getD_eq_getD_getElem?,Array.getElem?_setIfInBounds_self_of_lt (by omega)]
         simp only[Option.getD_some]
         constructor
         · rintro(h|h)
           · have:=hlt1 j h; omega
           · have:=hp2.1 j h; omega
         · rintro⟨_,h⟩; cases h
       · rw[Array.getD_eq_getD_getElem?,Array.getElem?_setIfInBounds_ne (fun h=>e h.symm),←Array.getD_eq_getD_getElem?,←this]
         constructor
         · rintro(h|h)
           · exact .inl h
           · exact .inr (.inr h)
         · rintro(h|h|h)
           · exact .inl h
           · exact absurd h e
           · exact .inr h
     · have keep:∀ m,listed.getD m false=true→(listed.setIfInBounds i true).getD m false=true:=fun m hm=>by
        by_cases e:m=i
        · subst e; rw[Array.getD_eq_getD_getElem?,Array.getElem?_setIfInBounds_self_of_lt (by omega)]; rfl
        · rw[Array.getD_eq_getD_getElem?,Array.getElem?_setIfInBounds_ne (fun h=>e h.symm),←Array.getD_eq_getD_getElem?]; exact hm
       by_cases e0:j=i
       · subst e0; exact keep _ (hi3 o ho e he hb)
       · rw[Array.getD_eq_getD_getElem?,Array.getElem?_setIfInBounds_ne (fun h=>e0 h.symm),←Array.getD_eq_getD_getElem?] at hj
         exact keep _ (hcl j o ho hj e he hb)
    unfold wpOp
    rw[hop]
    simp only[]
    have r1':bn E rc ops [((ops.getD i default),(flagged ops i).2)] st (fun s=>(.ok s:ah St))= .ok st1:=r1
    rw[dN] at r1'
    cases hg:guardOf ops st.tmps (ops.getD i default) with
    |none=>rw[hg] at r1'; cases r1'
    |some b=>
     rw[hg] at r1'
     rw[uO rel hg]
     cases b with
     |true=>
      simp only[if_true] at r1' ⊢
      refine .inl (Bl (N0:=N0) (K:=fun p st'=>bn E rc ops [] ⟨dL st'.tmps (ops.getD i default).dst p,st'.heap⟩ (fun s=>(.ok s:ah St))) hc (by rw[r1']; simp) (by exact ev.hl) rel fun p v st' F' κ' w' e hn hdr=>?_)
      rw[r1'] at e
      simp only[bn,ah.ok.injEq] at e
      subst e
      exact next F' κ' _ w' (hn.rel rel _) (ev.trans ⟨hn.ev,hdr⟩)
     |false=>
      simp only[Bool.false_eq_true,if_false,bn,ah.ok.injEq] at r1' ⊢
      subst r1'
      exact next F κ _ w (rel.skip _) ev
theorem Di (hm:E.P.follows .mixedOrders=true) (hc:fG E rc) (hd:sJ ops=true) {id:Nat} {Q:Exit→Act→World→Prop} {K:St→ah β} (h:bn E rc ops (dG ops) st K≠ .stuck) (h0:N0≤st.heap.length) (rel:Rel F κ st a w)
 (hq:∀ st' F' κ' a' w',bn E rc ops (dG ops) st K=K st'→Rel F' κ' st' a' w'→mX N0 F κ w st.heap F' κ' w' st'.heap→Q .normal a' w'):(Code.region id ops true).wp E.P Q a w:=by
 have hsplit:bn E rc ops (dG ops) st K=(bn E rc ops (dG ops) st (fun s=>(.ok s:ah St))).bind K:=by
  have:=nN (E:=E) (Strict.bind (β:=St) K) hc.nat ops (dG ops) st fun s=> .ok s
  rw[this]
  rfl
 have hne:bn E rc ops (dG ops) st (fun s=>(.ok s:ah St))≠ .stuck:=by
  intro e; rw[hsplit,e] at h; exact h rfl
 have aqK:(dG ops).map (·.1)=ops.toList:=by
  apply List.ext_getElem
  · simp[dG]
  · intro i h1 h2
    simp[dG]
 obtain⟨e,a',w',⟨BO,hf⟩,_⟩:=E8 (id:=id) (Q:=fun _ _ _=>∃ BO,bn E rc ops (dG ops) st (fun s=>(.ok s:ah St))= .ok BO) hc aqK hne h0 rel (fun st' F' κ' a' w' e _ _=>⟨st',e⟩) default [] []
 have hK:bn E rc ops (dG ops) st K=K BO:=by rw[hsplit,hf]; rfl
 refine wp_region_any hm ?_
 have hd0:mX N0 F κ w st.heap F κ {w with drawn:=w.drawn+1} st.heap:=⟨⟨rfl,rfl,rfl,Nat.le_refl _,fun _ _ _=>rfl,fun _ h=>h,fun _ h=> .inl h,fun _ h=> .inl h,h0,fun l o _ h1 h2=>⟨rfl,o,h1,h2⟩⟩,Nat.le_succ _⟩
 refine abe (N0:=N0) (st0:=st) (BO:=BO) (F0:=F) (κ0:=κ) (w0:=w) hc hd (fun F' κ' a' w' r ev=>hq BO F' κ' a' w' hK r ev) ops.size _ (List.range ops.size) st F κ a _ (by simp) (by simpa using List.pairwise_lt_range) (fun i=>?_) (by simp) (fun i o _ hi=>?_) (by rw[←EG]; exact hf) rel.drew hd0
 · simp only[List.mem_range]
   constructor
   · intro hi; exact⟨hi,by simp[Array.getD_eq_getD_getElem?,hi]⟩
   · exact fun h=>h.1
 · exfalso
   rw[Array.getD_eq_getD_getElem?] at hi
   rcases Nat.lt_or_ge i ops.size with h1|h1
   · simp[h1] at hi
   · rw[Array.getElem?_eq_none (by simpa using h1)] at hi; cases hi
end
end
section
open Go.RowKit
structure Turn (F:Nat→Prop) (κ:Nat→Value) (w:World) (H:List aj) (κ':Nat→Value) (H':List aj):Prop where
 si:SI F κ' w H'
 len:H.length≤H'.length
 kp:∀ l,l < H.length→κ' l=κ l
 on:∀ b,Own κ' H' b→Own κ H b
 nr:∀ (l:Nat) (o:aj),H[l]? =some o→o.lX→∃ o',H'[l]? =some o'∧o'.lX
section
variable {F:Nat→Prop} {κ κ' κ'':Nat→Value} {w:World} {H H' H'':List aj}
theorem Turn.refl (s:SI F κ w H):Turn F κ w H κ H:=⟨s,Nat.le_refl _,fun _ _=>rfl,fun _ h=>h,fun l o h h2=>⟨o,h,h2⟩⟩
theorem Turn.trans (a:Turn F κ w H κ' H') (b:Turn F κ' w H' κ'' H''):Turn F κ w H κ'' H'':=
 ⟨b.si,Nat.le_trans a.len b.len,fun l hl=>(b.kp l (Nat.lt_of_lt_of_le hl a.len)).trans (a.kp l hl),fun x h=>a.on x (b.on x h),fun l o h h2=>by
  obtain⟨o',h3,h4⟩:=a.nr l o h h2
  exact b.nr l o' h3 h4⟩
theorem Turn.rp (a:Turn F κ w H κ' H') {p:PV} {v:Value} (h:RP F κ H.length w p v):RP F κ' H'.length w p v:=
 h.mono (fun _ h=>h) (fun _ _=>rfl) fun l hl=>⟨a.kp l (h.bound l hl),Nat.lt_of_lt_of_le (h.bound l hl) a.len⟩
theorem Turn.nilRow (s:SI F κ w H) (e k:Nat):Turn F κ w H (upd κ H.length (.slice none 0 0)) (H++ [.row e k []]):=by
 refine⟨s.push _ _ (Nat.le_refl _) (fun _ _=>rfl) (fun _ h=>h) (fun _ h=> .inl h) s.fl ?_ (fun b hb=>?_),by simp,fun l hl=>kX κ _ (by omega),fun b hb=>?_,fun l o h h2=>?_⟩
 · exact⟨[],by rw[upd_same]; exact World.ownsRow_nil w 0 e k,by simp,by simp,by simp,by simp⟩
 · simp[blk,upd_same,Value.ownBlock] at hb
 · rcases hb.push with h|h
   · exact h
   · simp[blk,upd_same,Value.ownBlock] at h
 · refine⟨o,?_,h2⟩
   rw[List.getElem?_append_left (List.getElem?_eq_some_iff.1 h).1]; exact h
theorem Wj:∀ n:Nat,(∀ p:PV,SizeOf.sizeOf p < n→∀ H,∃ N,(p.prom H).2=H++N)∧(∀ ps:List PV,SizeOf.sizeOf ps < n→∀ H,∃ N,(PV.oK H ps).2=H++N):=by
 intro n
 induction n with
 |zero=>exact⟨fun p hp=>absurd hp (Nat.not_lt_zero _),fun p hp=>absurd hp (Nat.not_lt_zero _)⟩
 |succ n ih=>
  refine⟨fun p hp H=>?_,fun ps hp H=>?_⟩
  · cases p with
    |nil e k=>exact⟨_,rfl⟩
    |agg cs=>obtain⟨N,h⟩:=ih.2 cs (by simp at hp; omega) H; exact⟨N,by simpa[PV.prom] using h⟩
    |_=>exact⟨[],by simp[PV.prom]⟩
  · cases ps with
    |nil=>exact⟨[],by simp[PV.oK]⟩
    |cons p r=>
     obtain⟨N,h⟩:=ih.1 p (by simp at hp; omega) H
     obtain⟨M,h2⟩:=ih.2 r (by simp at hp; omega) (p.prom H).2
     exact⟨N++M,by simp only[PV.oK]; rw[h2,h,List.append_assoc]⟩
theorem LG:∀ n:Nat,(∀ p:PV,SizeOf.sizeOf p < n→∀ (κ:Nat→Value) (H:List aj) (v:Value),SI F κ w H→RP F κ H.length w p v→∃ κ',Turn F κ w H κ' (p.prom H).2∧RP F κ' (p.prom H).2.length w (p.prom H).1 v)∧
 (∀ ps:List PV,SizeOf.sizeOf ps < n→∀ (κ:Nat→Value) (H:List aj) (vs:List Value),SI F κ w H→vs.length=ps.length→(∀ (i:Nat) (p:PV) (v:Value),ps[i]? =some p→vs[i]? =some v→RP F κ H.length w p v)→
  ∃ κ',Turn F κ w H κ' (PV.oK H ps).2∧(PV.oK H ps).1.length=ps.length∧∀ (i:Nat) (p:PV) (v:Value),(PV.oK H ps).1[i]? =some p→vs[i]? =some v→RP F κ' (PV.oK H ps).2.length w p v):=by
 intro n
 induction n with
 |zero=>exact⟨fun p hp=>absurd hp (Nat.not_lt_zero _),fun p hp=>absurd hp (Nat.not_lt_zero _)⟩
 |succ n ih=>
  refine⟨fun p hp κ H v s h=>?_,fun ps hp κ H vs s hl h=>?_⟩
  · cases p with
    |nil e k=>
     cases h
     exact⟨_,Turn.nilRow s e k,.own (by simp[PV.prom]) (upd_same κ _ _)⟩
    |agg cs=>
     cases h with
     | @agg _ vs hl h1 hr=>
      obtain⟨κ',h2,h3,h4⟩:=ih.2 cs (by simp at hp; omega) κ H vs s hl hr
      exact⟨κ',by simpa[PV.prom] using h2,by simp only[PV.prom]; exact .agg (by omega) h1 h4⟩
    |_=>exact⟨κ,Turn.refl s,h⟩
  · cases ps with
    |nil=>exact⟨κ,Turn.refl s,rfl,by simp[PV.oK]⟩
    |cons p r=>
     match vs,hl with
     |v::vs,hl=>
      obtain⟨κ1,a1,a2⟩:=ih.1 p (by simp at hp; omega) κ H v s (h 0 p v rfl rfl)
      obtain⟨κ2,b1,b2,b3⟩:=ih.2 r (by simp at hp; omega) κ1 (p.prom H).2 vs a1.si (by simpa using hl) (fun i q u g1 g2=>a1.rp (h (i+1) q u (by simpa using g1) (by simpa using g2)))
      refine⟨κ2,by simpa[PV.oK] using a1.trans b1,by simp[PV.oK,b2],fun i q u g1 g2=>?_⟩
      cases i with
      |zero=>
       simp[PV.oK] at g1 g2
       subst g1
       subst g2
       exact b1.rp a2
      |succ i=>exact b3 i q u (by simpa[PV.oK] using g1) (by simpa using g2)
theorem Turn.box (s:SI F κ w H) {l e n:Nat} {p p':PV} (h:H[l]? =some (.box e n p)) (hp:∀ v,RP F κ H.length w p v→RP F κ H.length w p' v):Turn F κ w H κ (H.set l (.box e n p')):=by
 have hl:l < H.length:=(List.getElem?_eq_some_iff.1 h).1
 obtain⟨b,vs,vv,r1,r2,r3,r4,r5,r6⟩:=s.ro l _ h
 have hblk:∀ q,blk κ l (.box e n q)=some b:=fun q=>by simp[blk,r1,iY]
 refine⟨s.oQ h (hblk p) (hblk p') rfl (fun _ _=>rfl) ⟨b,vs,vv,r1,r2,r3,r4,r5,hp vv r6⟩,by simp,fun _ _=>rfl,fun c hc=>?_,fun i o hi hn=>?_⟩
 · obtain⟨i,o,hi,ho⟩:=hc
   rcases eu hl hi with ⟨rfl,rfl⟩|⟨hne,h2⟩
   · exact⟨i,_,h,by rw[hblk] at ho ⊢; exact ho⟩
   · exact⟨i,o,h2,ho⟩
 · by_cases e0:i=l
   · subst e0; exact⟨_,List.getElem?_set_self hl,fun _ _ _ h=>by cases h⟩
   · exact⟨o,by rw[List.getElem?_set_ne (fun h=>e0 h.symm)]; exact hi,hn⟩
theorem uF:∀ (n i:Nat) (κ:Nat→Value) (H:List aj),SI F κ w H→∃ κ',Turn F κ w H κ' (qh i n H)
 |0,i,κ,H,s=>⟨κ,Turn.refl s⟩
 |n+1,i,κ,H,s=>by
  simp only[qh]
  split
  · rename_i e m v ho
    obtain⟨b,vs,vv,r1,r2,r3,r4,r5,r6⟩:=s.ro i _ ho
    obtain⟨κ1,a1,a2⟩:=(LG (F:=F) (w:=w) (SizeOf.sizeOf v+1)).1 v (Nat.lt_succ_self _) κ H vv s r6
    obtain⟨N,hN⟩:=(Wj (SizeOf.sizeOf v+1)).1 v (Nat.lt_succ_self _) H
    have ho':(v.prom H).2[i]? =some (.box e m v):=by rw[hN,List.getElem?_append_left (List.getElem?_eq_some_iff.1 ho).1]; exact ho
    obtain⟨b',vs',vv',q1,q2,q3,q4,q5,q6⟩:=a1.si.ro i _ ho'
    have hvv:vv'.cells=vv.cells:=by
     rw[a1.kp i (List.getElem?_eq_some_iff.1 ho).1,r1] at q1
     injection q1 with q1; injection q1 with q1; injection q1 with q1
     subst q1
     rw[r2] at q2
     injection q2 with q2
     injection q2 with q2
     rw[←q3,←r3,q2]
    have hbox:Turn F κ1 w (v.prom H).2 κ1 ((v.prom H).2.set i (.box e m (v.prom H).1)):=by
     have hl:i < (v.prom H).2.length:=(List.getElem?_eq_some_iff.1 ho').1
     have hblk:∀ q,blk κ1 i (.box e m q)=some b':=fun q=>by simp[blk,q1,iY]
     refine⟨a1.si.oQ ho' (hblk _) (hblk _) rfl (fun _ _=>rfl) ⟨b',vs',vv,q1,q2,by rw[q3,hvv],q4,q5,a2⟩,by simp,fun _ _=>rfl,fun c hc=>?_,fun j o hj hn=>?_⟩
     · obtain⟨j,o,hj,ho2⟩:=hc
       rcases eu hl hj with ⟨rfl,rfl⟩|⟨hne,h2⟩
       · exact⟨j,_,ho',by rw[hblk] at ho2 ⊢; exact ho2⟩
       · exact⟨j,o,h2,ho2⟩
     · by_cases e0:j=i
       · subst e0; exact⟨_,List.getElem?_set_self hl,fun _ _ _ h=>by cases h⟩
       · exact⟨o,by rw[List.getElem?_set_ne (fun h=>e0 h.symm)]; exact hj,hn⟩
    obtain⟨κ2,c1⟩:=uF n (i+1) κ1 _ hbox.si
    exact⟨κ2,a1.trans (hbox.trans c1)⟩
  · exact uF n (i+1) κ H s
theorem QB:∀ {xs:List Nat} {l:Nat},l∈xs→xs[idx xs l]? =some l
 |x::xs,l,h=>by
  simp only[idx]
  cases hx:x==l with
  |true=>simp at hx; simp[hx]
  |false=>
   have hne:x≠l:=by simpa using hx
   have:=QB ((List.mem_cons.1 h).resolve_left fun e=>hne e.symm)
   simpa using this
theorem vJ (f:Nat→Nat):∀ (qs:List PV) (i:Nat),(PV.CB f qs)[i]? =(qs[i]?).map (PV.ren f)
 | [],i=>by simp[PV.CB]
 |q::r,0=>by simp[PV.CB]
 |q::r,i+1=>by simpa[PV.CB] using vJ f r i
theorem oD (f:Nat→Nat):∀ (qs:List PV),(PV.CB f qs).length=qs.length
 | []=>rfl
 |q::r=>by simp[PV.CB,oD f r]
theorem RP.ren {order:List Nat} {N:Nat} {p:PV} {v:Value} (h:RP F κ N w p v):(∀ l∈p.gq,l∈order)→RP F (fun i=>κ (order.getD i 0)) order.length w (p.ren (idx order)) v:=by
 have hk:∀ l,l∈order→κ (order.getD (idx order l) 0)=κ l∧idx order l < order.length:=fun l hl=>by
  have:=QB hl
  exact⟨by rw[List.getD_eq_getElem?_getD,this]; rfl,(List.getElem?_eq_some_iff.1 this).1⟩
 induction h with
 |t h=>exact fun _=> .t h
 |nil=>exact fun _=> .nil
 | @agg cs vs hl h1 _ ih=>
  intro ho
  simp only[PV.ren]
  refine .agg (by rw[oD]; exact hl) h1 fun i p v a b=>?_
  rw[vJ,Option.map_eq_some_iff] at a
  obtain⟨q,a,rfl⟩:=a
  exact ih i q v a b fun l hl=>ho l (by simp only[PV.gq]; exact lW (List.mem_of_getElem? a) hl)
 | @au cs vs hl _ ih=>
  intro ho
  simp only[PV.ren]
  refine .au (by rw[oD]; exact hl) fun i p v a b=>?_
  rw[vJ,Option.map_eq_some_iff] at a
  obtain⟨q,a,rfl⟩:=a
  exact ih i q v a b fun l hl=>ho l (by simp only[PV.gq]; exact lW (List.mem_of_getElem? a) hl)
 | @fn f fs cs vf vc h1 h2 r1 r2 i1 i2=>
  intro ho
  simp only[PV.ren]
  refine .fn (by rw[oD]; exact h1) (by rw[oD]; exact h2) (fun i p v a b=>?_) (fun i p v a b=>?_)
  · rw[vJ,Option.map_eq_some_iff] at a
    obtain⟨q,a,rfl⟩:=a
    exact i1 i q v a b fun l hl=>ho l (by simp only[PV.gq,List.mem_append]; exact .inl (lW (List.mem_of_getElem? a) hl))
  · rw[vJ,Option.map_eq_some_iff] at a
    obtain⟨q,a,rfl⟩:=a
    exact i2 i q v a b fun l hl=>ho l (by simp only[PV.gq,List.mem_append]; exact .inr (lW (List.mem_of_getElem? a) hl))
 | @ptr l o b _ h=>intro ho; obtain⟨a,c⟩:=hk l (ho l (by simp[PV.gq])); exact .ptr c (a.trans h)
 | @own l A n c _ h=>intro ho; obtain⟨a,c⟩:=hk l (ho l (by simp[PV.gq])); exact .own c (a.trans h)
 | @iC l k i o b n c _ h hi=>intro ho; obtain⟨a,c⟩:=hk l (ho l (by simp[PV.gq])); exact .iC c (a.trans h) hi
 | @view l k lo hi A n c _ h=>intro ho; obtain⟨a,c⟩:=hk l (ho l (by simp[PV.gq])); exact .view c (by rw[a]; exact h)
 | @mp l b _ h=>intro ho; obtain⟨a,c⟩:=hk l (ho l (by simp[PV.gq])); exact .mp c (a.trans h)
 |full h=>exact fun _=> .full h
 |rp val a b c d e f=>exact fun _=> .rp val a b c d e f
 |junk=>exact fun _=> .junk
theorem RO.ren {order:List Nat} {N l m:Nat} {o:aj} (h:RO F κ N w l o) (hl:order[m]? =some l) (ho:∀ l∈o.gq,l∈order):RO F (fun i=>κ (order.getD i 0)) order.length w m (o.ren (idx order)):=by
 have hk:κ (order.getD m 0)=κ l:=by rw[List.getD_eq_getElem?_getD,hl]; rfl
 cases o with
 |box e n v=>
  obtain⟨b,vs,vv,h1,h2,h3,h4,h5,h6⟩:=h
  exact⟨b,vs,vv,hk.trans h1,h2,h3,h4,h5,h6.ren ho⟩
 |ng e n v=>
  obtain⟨b,h1,h2,h3⟩:=h
  exact⟨b,hk.trans h1,by simp only[]; rw[hk]; exact h2,h3⟩
 |row e k xs=>
  obtain⟨cs,h1,h2⟩:=h
  exact⟨cs,by simp only[]; rw[hk]; exact h1,h2⟩
 |jT e k xs=>
  obtain⟨h1,h2⟩:=h
  exact⟨by simp only[]; rw[hk]; exact h1,by simp only[]; rw[hk]; exact h2⟩
 |vec e k n xs=>
  obtain⟨cs,h1,h2,h3,h4,h5⟩:=h
  refine⟨cs,by simp only[]; rw[hk]; exact h1,h2,by rw[oD]; exact h3,h4,fun i p v a d=>?_⟩
  rw[vJ,Option.map_eq_some_iff] at a
  obtain⟨q,a,rfl⟩:=a
  exact(h5 i q v a d).ren fun l' hl'=>ho l' (by simp only[aj.gq]; exact lW (List.mem_of_getElem? a) hl')
 |map es c=>
  obtain⟨b,ms,h1,h2⟩:=h
  exact⟨b,ms,hk.trans h1,h2⟩
 |iter a since seen last=>
  obtain⟨b,bm,h1,h2,h3,h4⟩:=h
  have hm:=ho a (by simp[aj.gq])
  have h5:=QB hm
  refine⟨b,bm,hk.trans h1,?_,(List.getElem?_eq_some_iff.1 h5).1,h4⟩
  simp only[]
  rw[List.getD_eq_getElem?_getD,h5]; exact h2
 |dead=>trivial
theorem Lj:∀ {xs:List Nat},nodupB xs=true→∀ (i j:Nat) (l:Nat),xs[i]? =some l→xs[j]? =some l→i=j
 | [],_,i,j,l,h,_=>by simp at h
 |x::xs,hn,i,j,l,hi,hj=>by
  simp only[nodupB,Bool.and_eq_true,Bool.not_eq_true'] at hn
  have hx:x∉xs:=fun h=>by have:=hn.1; rw[List.contains_iff_mem.2 h] at this; cases this
  cases i with
  |zero=>
   simp at hi
   subst hi
   cases j with
   |zero=>rfl
   |succ j=>exact absurd (List.mem_of_getElem? (show xs[j]? =some x by simpa using hj)) hx
  |succ i=>
   cases j with
   |zero=>
    simp at hj
    subst hj
    exact absurd (List.mem_of_getElem? (show xs[i]? =some x by simpa using hi)) hx
   |succ j=>rw[Lj hn.2 i j l (by simpa using hi) (by simpa using hj)]
theorem IK (f:Nat→Nat) {κ κ':Nat→Value} {l m:Nat} {o:aj} (h:κ' m=κ l):blk κ' m (o.ren f)=blk κ l o:=by
 cases o<;>simp[blk,aj.ren,h]
theorem Y9 (f:Nat→Nat) {o:aj} (h:o.lX):(o.ren f).lX:=by
 cases o with
 |row e k xs=>exact absurd rfl (h e k xs)
 |_=>intro e k xs h; cases h
theorem Tq {base:Nat} {order:List Nat} {tm:List PV} {a:Act} (rel:Rel F κ ⟨tm,H⟩ a w) (hb:base≤H.length):
 ∃ κ',Rel F κ' (Qh base order tm H) a w∧Ev base F κ w H F κ' w (Qh base order tm H).heap:=by
 unfold Qh
 cases hok:QI base order tm H with
 |false=>exact⟨κ,rel,Ev.refl hb⟩
 |true=>
  simp only[cond_true]
  unfold QI at hok
  simp only[Bool.and_eq_true,List.all_eq_true,decide_eq_true_eq,beq_iff_eq] at hok
  obtain⟨⟨⟨⟨h1,h2⟩,h3⟩,h4⟩,h5⟩:=hok
  have hget:∀ (m:Nat) (o:aj),(order.map fun l=>(H.getD l .dead).ren (idx order))[m]? =some o→∃ l o0,order[m]? =some l∧H[l]? =some o0∧o=o0.ren (idx order)∧(∀ l'∈o0.gq,l'∈order):=by
   intro m o h
   rw[List.getElem?_map,Option.map_eq_some_iff] at h
   obtain⟨l,g1,g2⟩:=h
   have hl:=h2 l (List.mem_of_getElem? g1)
   have hg:H[l]? =some (H.getD l .dead):=by rw[List.getD_eq_getElem?_getD,List.getElem?_eq_getElem hl.1]; rfl
   exact⟨l,_,g1,hg,g2.symm,fun l' hl'=>List.contains_iff_mem.1 (hl.2 l' hl')⟩
  have hkey:∀ m l,order[m]? =some l→κ (order.getD m 0)=κ l:=fun m l h=>by rw[List.getD_eq_getElem?_getD,h]; rfl
  have hbase:∀ l,l < base→order[l]? =some l:=fun l hl=>by
   have:=congrArg (fun x=>x[l]?) h4
   simp only[List.getElem?_take,if_pos hl,List.getElem?_range hl] at this
   exact this
  refine⟨fun i=>κ (order.getD i 0),⟨by simp only[]; rw[oD]; exact rel.tl,fun i p v g1 g2=>?_,rel.dn,⟨fun m o h=>?_,fun m o b h hb=>?_,fun m m' o o' b g1 g2 g3 g4=>?_,rel.si.fl⟩⟩,⟨rfl,rfl,rfl,Nat.le_refl _,fun _ _ _=>rfl,fun _ h=>h,fun _ h=> .inl h,fun b hb=>?_,by simpa using h5,fun l o hl g1 g2=>?_⟩⟩
  · simp only[] at g1
    rw[vJ,Option.map_eq_some_iff] at g1
    obtain⟨q,g1,rfl⟩:=g1
    simp only[List.length_map]
    exact(rel.tr i q v g1 g2).ren fun l hl=>List.contains_iff_mem.1 (h3 l (lW (List.mem_of_getElem? g1) hl))
  · obtain⟨l,o0,g1,g2,rfl,g4⟩:=hget m o h
    simp only[List.length_map]
    exact(rel.si.ro l o0 g2).ren g1 g4
  · obtain⟨l,o0,g1,g2,rfl,g4⟩:=hget m o h
    rw[IK (κ':=fun i=>κ (order.getD i 0)) (κ:=κ) (l:=l) _ (hkey m l g1)] at hb
    exact rel.si.lt l o0 b g2 hb
  · obtain⟨l,o0,a1,a2,rfl,a4⟩:=hget m o g1
    obtain⟨l',o0',b1,b2,rfl,b4⟩:=hget m' o' g2
    rw[IK (κ':=fun i=>κ (order.getD i 0)) (κ:=κ) (l:=l) _ (hkey m l a1)] at g3
    rw[IK (κ':=fun i=>κ (order.getD i 0)) (κ:=κ) (l:=l') _ (hkey m' l' b1)] at g4
    have:=rel.si.ne l l' o0 o0' b a2 b2 g3 g4
    subst this
    exact Lj h1 m m' l a1 b1
  · obtain⟨m,o,g1,g2⟩:=hb
    obtain⟨l,o0,a1,a2,rfl,a4⟩:=hget m o g1
    rw[IK (κ':=fun i=>κ (order.getD i 0)) (κ:=κ) (l:=l) _ (hkey m l a1)] at g2
    exact .inl ⟨l,o0,a2,g2⟩
  · have hl':=hbase l hl
    refine⟨hkey l l hl',o.ren (idx order),?_,Y9 _ g2⟩
    simp only[List.getElem?_map,hl',Option.map_some,List.getD_eq_getElem?_getD,g1,Option.getD_some]
theorem EM (live:List Nat) (tm:List PV) (i:Nat):(dP live tm)[i]? =(tm[i]?).map fun p=>bif live.contains i then p else .junk:=by
 unfold dP
 rw[List.getElem?_map,List.getElem?_zipIdx]
 cases tm[i]? <;>simp
theorem zn (live:List Nat) (tm:List PV):(dP live tm).length=tm.length:=by simp[dP]
theorem mJ {base:Nat} {live:List Nat} {st:St} {a:Act} (rel:Rel F κ st a w) (hb:base≤st.heap.length):
 ∃ κ',Rel F κ' (canon base live st) a w∧mX base F κ w st.heap F κ' w (canon base live st).heap:=by
 unfold canon
 simp only[]
 have hk:∀ (i:Nat) (p:PV) (v:Value),(dP live st.tmps)[i]? =some p→a.tmps.toList[i]? =some v→RP F κ st.heap.length w p v:=by
  intro i p v g1 g2
  rw[EM,Option.map_eq_some_iff] at g1
  obtain⟨q,g1,rfl⟩:=g1
  cases live.contains i with
  |true=>exact rel.tr i q v g1 (by simpa using g2)
  |false=>exact .junk
 obtain⟨κ1,a1,a2,a3⟩:=(LG (F:=F) (w:=w) (SizeOf.sizeOf (dP live st.tmps)+1)).2 _ (Nat.lt_succ_self _) κ st.heap a.tmps.toList rel.si (by rw[zn]; simpa using rel.tl) hk
 obtain⟨κ2,b1⟩:=uF st.heap.length 0 κ1 _ a1.si
 have ab:=a1.trans b1
 have Cm:Rel F κ2 ⟨(PV.oK st.heap (dP live st.tmps)).1,qh 0 st.heap.length (PV.oK st.heap (dP live st.tmps)).2⟩ a w:=
  ⟨by simp only[]; rw[a2,zn]; exact rel.tl,fun i p v g1 g2=>b1.rp (a3 i p v g1 (by simpa using g2)),rel.dn,b1.si⟩
 obtain⟨κ3,c1,c2⟩:=Tq (base:=base) (order:=reach (qh 0 st.heap.length (PV.oK st.heap (dP live st.tmps)).2) ((qh 0 st.heap.length (PV.oK st.heap (dP live st.tmps)).2).length+1) (PV.qR (PV.oK st.heap (dP live st.tmps)).1) (List.range base)) Cm (Nat.le_trans hb ab.len)
 refine⟨κ3,c1,⟨Ev.trans ?_ c2,Nat.le_refl _⟩⟩
 exact⟨rfl,rfl,rfl,Nat.le_refl _,fun _ _ _=>rfl,fun _ h=>h,fun _ h=> .inl h,fun b h=> .inl (ab.on b h),Nat.le_trans hb ab.len,fun l o hl g1 g2=>⟨ab.kp l (by omega),ab.nr l o g1 g2⟩⟩
end
end
end Go.aT
