/- The texts of a proof, one behind the other: an interpreter and its soundness, what the functions of the program answer, and plain laws on that. -/
import Derived.Test.YtjlpnhpfbgbkhaaGreatK7
import Derived.LoopN
import Derived.Scope
set_option linter.unusedVariables false
set_option linter.unusedSimpArgs false
set_option linter.unnecessarySimpa false
set_option linter.unusedSectionVars false
set_option maxRecDepth 100000
namespace Go.aT
section
open Go.RowKit
section
variable {E:Env} {rc:Caller} {f:FuncId} {fn:Func} {n base:Nat}
theorem adR {β γ:Type} {g:ah β→ah γ} (e:Ex) (a:ah β) (b:Nat→ah β) (c:ah β):g (e.k a b c)=e.k (g a) (fun i=>g (b i)) (g c):=by cases e<;>rfl
theorem kT (hrc:rc.Nat):∀ (c:Code) {β γ:Type} {g:ah β→ah γ},Strict g→∀ (st:St) (K:Ex→St→ah β),g (dA E rc f fn n base c st K)=dA E rc f fn n base c st fun e s=>g (K e s)
 | .skip,β,γ,g,hg,st,K=>rfl
 | .region id ops dr,β,γ,g,hg,st,K=>by
  simp only[dA]
  cases dr with
  |true=>simp only[cond_true,cZ hg,nN hg hrc,hg.stuck]
  |false=>simp only[cond_false,nN hg hrc]
 | .seq a b,β,γ,g,hg,st,K=>by
  simp only[dA]
  rw[kT hrc a hg]
  congr 1; funext e s
  rw[adR (g:=g),kT hrc b hg]
 | .cond c a b,β,γ,g,hg,st,K=>by
  simp only[dA,bM hg]
  congr 1; funext p
  cases p<;>first|exact hg.stuck|skip
  simp only[jR hg,cZ hg,kT hrc a hg,kT hrc b hg]
 | .block id c,β,γ,g,hg,st,K=>by
  simp only[dA]
  rw[kT hrc c hg]
  congr 1; funext e s
  rw[adR (g:=g)]
  cases e<;>first|rfl|skip
  simp only[Ex.k]
  split<;>rfl
 | .loop c,β,γ,g,hg,st,K=>by
  simp only[dA]
  rw[fV hg]
 | .exit id,β,γ,g,hg,st,K=>rfl
 | .scope c,β,γ,g,hg,st,K=>by simp only[dA]; exact kT hrc c hg st K
 | .label l,β,γ,g,hg,st,K=>rfl
 | .ret,β,γ,g,hg,st,K=>rfl
 | .rangeFunc ..,β,γ,g,hg,st,K=>hg.stuck
 | .goto ..,β,γ,g,hg,st,K=>hg.stuck
 | .refuse ..,β,γ,g,hg,st,K=>hg.stuck
theorem uQ {β γ:Type} {g:ah β→ah γ} (hg:Strict g) {st:St}:∀ (l:List ResultVar) (K:List PV→ah β),g (iZ E st l K)=iZ E st l fun ps=>g (K ps)
 | [],K=>rfl
 | .tmp t::r,K=>by simp only[iZ]; rw[uQ hg]
 | .cell a t::r,K=>by
  simp only[iZ,PE hg]
  congr 1; funext p
  exact uQ hg r _
theorem JW (hrc:rc.Nat) {β γ:Type} {g:ah β→ah γ} (hg:Strict g) (args:List PV) (H:List aj) (K:PV→List aj→ah β):g (fU E rc n f args H K)=fU E rc n f args H fun r H'=>g (K r H'):=by
 unfold fU
 split
 · exact hg.stuck
 · split
   · exact hg.stuck
   · rw[kT hrc _ hg]
     congr 1; funext e s
     rw[adR (g:=g),uQ hg,hg.stuck]
def Ex.out:Ex→Exit
 | .norm=> .normal
 | .exit i=> .exit i
 | .ret=> .ret
def alj (E:Env) (rc:Caller) (f:FuncId) (fn:Func) (n base:Nat) (c:Code):Prop:=∀ (β:Type) (st:St) (K:Ex→St→ah β) (F:Nat→Prop) (κ:Nat→Value) (a:Act) (w:World) (Q:Exit→Act→World→Prop),
 dA E rc f fn n base c st K≠ .stuck→base≤st.heap.length→Rel F κ st a w→
 (∀ e st' F' κ' a' w',dA E rc f fn n base c st K=K e st'→Rel F' κ' st' a' w'→mX base F κ w st.heap F' κ' w' st'.heap→Q e.out a' w')→c.wp E.P Q a w
theorem KT {B:St→ah (Ex×St)} {c:Code} {Q:Exit→Act→World→Prop} {P:Program}
 (hB:∀ (st:St) (F:Nat→Prop) (κ:Nat→Value) (a:Act) (w:World) (Q:Exit→Act→World→Prop),B st≠ .stuck→base≤st.heap.length→Rel F κ st a w→(∀ e st' F' κ' a' w',B st= .ok (e,st')→Rel F' κ' st' a' w'→mX base F κ w st.heap F' κ' w' st'.heap→Q e.out a' w')→c.wp P Q a w):
 ∀ (m:Nat) (st:St) (F:Nat→Prop) (κ:Nat→Value) (a:Act) (w:World),bF B m st≠ .stuck→base≤st.heap.length→Rel F κ st a w→
  (∀ e st' F' κ' a' w',bF B m st= .ok (e,st')→Rel F' κ' st' a' w'→mX base F κ w st.heap F' κ' w' st'.heap→Q e.out a' w')→Code.rounds P c Q m a w
 |0,st,F,κ,a,w,h,hb,rel,hq=>absurd rfl h
 |m+1,st,F,κ,a,w,h,hb,rel,hq=>by
  rw[rounds_succ]
  simp only[bF] at h hq
  refine hB st F κ a w _ (vw h) hb rel fun e st' F' κ' a' w' e1 r1 ev1=>?_
  rw[e1] at h hq
  simp only[ah.bind_ok] at h hq
  cases e with
  |norm=>exact KT hB m st' F' κ' a' w' h ev1.hl r1 fun e2 st2 F2 κ2 a2 w2 e3 r2 zB=>hq e2 st2 F2 κ2 a2 w2 e3 r2 (ev1.trans zB)
  |exit i=>exact hq (.exit i) st' F' κ' a' w' rfl r1 ev1
  |ret=>exact hq .ret st' F' κ' a' w' rfl r1 ev1
theorem mO (hm:E.P.follows .mixedOrders=true) (hc:fG E rc):∀ c:Code,alj E rc f fn n base c
 | .skip=>fun β st K F κ a w Q h hb rel hq=>Go.wp_skip (hq .norm st F κ a w rfl rel (mX.refl hb))
 | .region id ops dr=>fun β st K F κ a w Q h hb rel hq=>by
  simp only[dA] at h hq
  cases dr with
  |true=>
   simp only[cond_true] at h hq
   obtain⟨g1,e1⟩:=bD h
   rw[e1] at h hq
   exact Di (N0:=base) hm hc g1 h hb rel fun st' F' κ' a' w' e r ev=>hq .norm st' F' κ' a' w' e r ev
  |false=>
   simp only[cond_false] at h hq
   exact E8 (N0:=base) hc (by rw[List.map_map]; exact List.map_id' _) h hb rel fun st' F' κ' a' w' e r ev=>hq .norm st' F' κ' a' w' e r ev
 | .seq x y=>fun β st K F κ a w Q h hb rel hq=>by
  simp only[dA] at h hq
  refine wp_seq (mO hm hc x _ st _ F κ a w _ h hb rel fun e st' F' κ' a' w' e1 r1 ev1=>?_)
  rw[e1] at h hq
  cases e with
  |norm=>exact mO hm hc y _ st' K F' κ' a' w' Q h ev1.hl r1 fun e2 st2 F2 κ2 a2 w2 e3 r2 zB=>hq e2 st2 F2 κ2 a2 w2 e3 r2 (ev1.trans zB)
  |exit i=>exact hq (.exit i) st' F' κ' a' w' rfl r1 ev1
  |ret=>exact hq .ret st' F' κ' a' w' rfl r1 ev1
 | .cond c x y=>fun β st K F κ a w Q h hb rel hq=>by
  simp only[dA] at h hq
  obtain⟨p,e1,e2⟩:=aB h
  rw[e2] at h hq
  have hv:=iP rel.tl rel.tr e1
  cases p with
  |t z=>
   simp only[] at h hq
   obtain⟨b,rfl,e3⟩:=Xv h
   rw[e3] at h hq
   generalize hv':a.eval c=v at hv
   cases hv with
   |t hv=>
   cases hv with
   |bool=>
   refine wp_cond hv' ?_
   cases b with
   |true=>exact mO hm hc x _ st K F κ a w Q h hb rel hq
   |false=>exact mO hm hc y _ st K F κ a w Q h hb rel hq
  |_=>exact absurd rfl h
 | .block id c=>fun β st K F κ a w Q h hb rel hq=>by
  simp only[dA] at h hq
  refine wp_block (mO hm hc c _ st _ F κ a w _ h hb rel fun e st' F' κ' a' w' e1 r1 ev1=>?_)
  cases e with
  |norm=>exact hq .norm st' F' κ' a' w' e1 r1 ev1
  |exit i=>
   simp only[Ex.out,Exit.inBlock]
   simp only[Ex.k] at e1
   by_cases hi:i=id
   · rw[if_pos hi] at e1 ⊢; exact hq .norm st' F' κ' a' w' e1 r1 ev1
   · rw[if_neg hi] at e1 ⊢; exact hq (.exit i) st' F' κ' a' w' e1 r1 ev1
  |ret=>exact hq .ret st' F' κ' a' w' e1 r1 ev1
 | .loop c=>fun β st K F κ a w Q h hb rel hq=>by
  simp only[dA] at h hq
  obtain⟨κ1,akY,ev1⟩:=mJ (live:=(E.hint f (bG c)).1) rel hb
  refine wp_loop_rounds n (KT (base:=base) (fun st F κ a w Q h hb rel hq=>?_) n _ F κ1 a w (vw h) ev1.hl akY fun e st' F' κ' a' w' e1 r1 zB=>?_)
  · refine mO hm hc c _ st _ F κ a w Q h hb rel fun e st' F' κ' a' w' e1 r1 ev1=>?_
    cases e with
    |norm=>
     obtain⟨κ2,Cm,zB⟩:=mJ (base:=base) (live:=(E.hint f (bG c)).1) r1 ev1.hl
     exact hq .norm _ F' κ2 a' w' e1 Cm (ev1.trans zB)
    |exit i=>
     obtain⟨κ2,Cm,zB⟩:=mJ (base:=base) (live:=(E.hint f (bG c)).2) r1 ev1.hl
     exact hq (.exit i) _ F' κ2 a' w' e1 Cm (ev1.trans zB)
    |ret=>
     obtain⟨κ2,Cm,zB⟩:=mJ (base:=base) (live:=lD fn) r1 ev1.hl
     exact hq .ret _ F' κ2 a' w' e1 Cm (ev1.trans zB)
  · rw[e1] at hq
    exact hq e st' F' κ' a' w' rfl r1 (ev1.trans zB)
 | .exit id=>fun β st K F κ a w Q h hb rel hq=>wp_exit (hq (.exit id) st F κ a w rfl rel (mX.refl hb))
 | .scope c=>fun β st K F κ a w Q h hb rel hq=>by
  simp only[dA] at h hq
  refine wp_scope_straight (mO hm hc c _ st K F κ a w _ h hb rel fun e st' F' κ' a' w' e1 r1 ev1=>?_)
  have:=hq e st' F' κ' a' w' e1 r1 ev1
  cases e<;>exact this
 | .label l=>fun β st K F κ a w Q h hb rel hq=>wp_label (hq .norm st F κ a w rfl rel (mX.refl hb))
 | .ret=>fun β st K F κ a w Q h hb rel hq=>wp_ret (hq .ret st F κ a w rfl rel (mX.refl hb))
 | .rangeFunc .. =>fun β st K F κ a w Q h hb rel hq=>absurd rfl h
 | .goto .. =>fun β st K F κ a w Q h hb rel hq=>absurd rfl h
 | .refuse .. =>fun β st K F κ a w Q h hb rel hq=>absurd rfl h
end
end
section
open Go.RowKit
theorem NY {P:Program} {t:TypeId} {v u:Value} {w:World} (h:(Instr.loadAt t v).run P w= .ok u w):(do loadVar t (←asAddr v):Sem Value).run P w= .ok u w:=by
 unfold Instr.loadAt at h
 cases v with
 |pointer p=>
  cases p with
  |none=>simp[Instr.sureAddr,stuck] at h
  |some a=>simpa[Instr.sureAddr,asAddr] using h
 |_=>simp[Instr.sureAddr,stuck] at h
section
variable {E:Env} {rc:Caller} {F:Nat→Prop} {κ:Nat→Value} {w:World} {st:St} {a:Act}
def Jw (tm:Array Value):ResultVar→Sem Value
 | .tmp t=>pure (tm.getD t undef)
 | .cell x t=>do loadVar t (←asAddr (tm.getD x undef))
theorem H8 {N:Nat}:∀ {ps:List PV} {vs:List Value},vs.length=ps.length→(∀ (i:Nat) (p:PV) (v:Value),ps[i]? =some p→vs[i]? =some v→RP F κ N w p v)→RP F κ N w (wY ps) (if h:vs.length=1 then vs[0] else .tuple vs.toArray)
 | [p],[v],_,h=>h 0 p v rfl rfl
 | [],[],_,_=> .au (vs:=[]) rfl (by simp)
 |p::q::ps,v::u::vs,hl,h=>by
  rw[dif_neg (by simp)]
  exact .au hl h
 | [],_::_,hl,_=>by simp at hl
 | [_],[],hl,_=>by simp at hl
 | [_],_::_::_,hl,_=>by simp at hl
 |_::_::_,[],hl,_=>by simp at hl
 |_::_::_,[_],hl,_=>by simp at hl
theorem qY {β:Type} (rel:Rel F κ st a w):∀ {l:List ResultVar} {K:List PV→ah β},iZ E st l K≠ .stuck→
 ∃ ps vs,iZ E st l K=K ps∧(l.mapM (Jw a.tmps)).run E.P w= .ok vs w∧vs.length=ps.length∧
  ∀ (i:Nat) (p:PV) (v:Value),ps[i]? =some p→vs[i]? =some v→RP F κ st.heap.length w p v
 | [],K,h=>⟨[],[],rfl,by simp[List.mapM_nil],rfl,by simp⟩
 | .tmp t::r,K,h=>by
  simp only[iZ] at h ⊢
  obtain⟨ps,vs,e1,e2,e3,e4⟩:=qY rel h
  have hv:=iP (P:=E.P) rel.tl rel.tr (t:=0) (o:= .tmp t) (p:=st.tmps.getD t dY) rfl
  refine⟨_,a.tmps.getD t undef::vs,e1,by simp only[List.mapM_cons,Jw,Sem.run_bind,Sem.run_pure,e2,Result.andThen_ok],by simp[e3],fun i p v g1 g2=>?_⟩
  cases i with
  |zero=>simp only[List.getElem?_cons_zero,Option.some.injEq] at g1 g2; subst g1; subst g2; exact hv
  |succ i=>exact e4 i p v (by simpa using g1) (by simpa using g2)
 | .cell x t::r,K,h=>by
  simp only[iZ] at h ⊢
  have hv:=iP (P:=E.P) rel.tl rel.tr (t:=0) (o:= .tmp x) (p:=st.tmps.getD x dY) rfl
  obtain⟨q,u,e5,e6,e7⟩:=Hg h rel.si hv
  rw[e5] at h ⊢
  obtain⟨ps,vs,e1,e2,e3,e4⟩:=qY rel h
  have e8:=NY e6
  refine⟨_,u::vs,e1,?_,by simp[e3],fun i p v g1 g2=>?_⟩
  · have e8':(Jw a.tmps (.cell x t)).run E.P w= .ok u w:=e8
    simp only[List.mapM_cons,Sem.run_bind,e8',Sem.run_pure,e2,Result.andThen_ok]
  · cases i with
    |zero=>simp at g1 g2; subst g1; subst g2; exact e7
    |succ i=>exact e4 i p v (by simpa using g1) (by simpa using g2)
structure nK (E:Env):Prop where
 zM:∀ (f:FuncId) (g:List aj→List T→List PV→ah (List T)),E.zM f=some g→Je E f g
 mixed:E.P.follows .mixedOrders=true
 named:∀ (f:FuncId) (fn:Func),E.P.funcs[f]? =some fn→(fn.name== "runtime.NumGoroutine")=false
 ext:∀ (f:FuncId) (e:List T→ah T),E.ext f=some e→∀ ts,e ts≠ .stuck→∀ (F:Nat→Prop) (w:World) (vals:List Value),vals.length=ts.length→(∀ (i:Nat) (x:T) (v:Value),ts[i]? =some x→vals[i]? =some v→Rd F w x v)→
  (∀ b,F b→b < w.heap.size)→Invokes E.P f vals.toArray w fun v w'=>∃ x F',e ts= .ok x∧Out E f F' w.heap.size w' x v∧Grown F w F' w'
theorem YX (he:nK E) (hc:fG E rc) {β:Type} {n:Nat} {f:FuncId} {args:List PV} {H:List aj} {K:PV→List aj→ah β} (h:fU E rc n f args H K≠ .stuck) {vals:List Value} (hl:vals.length=args.length)
 (ha:∀ (i:Nat) (p:PV) (v:Value),args[i]? =some p→vals[i]? =some v→RP F κ H.length w p v) (s:SI F κ w H):
 Calls E.P f vals.toArray w fun e w'=>∃ v,e= .returned v∧∃ r H' F' κ',fU E rc n f args H K=K r H'∧RP F' κ' H'.length w' r v∧SI F' κ' w' H'∧mX H.length F κ w H F' κ' w' H':=by
 unfold fU at h ⊢
 cases hf:E.P.funcs[f]? with
 |none=>simp[hf] at h
 |some fn=>
  simp only[hf] at h ⊢
  cases hb:fn.body with
  |none=>simp[hb] at h
  |some c=>
   simp only[hb] at h ⊢
   refine calls_of_wp hf hb ?_
   have rel:Rel F κ ⟨args++List.replicate (fn.ntmps - args.length) dY,H⟩ {tmps:=vals.toArray++Array.replicate (fn.ntmps - vals.toArray.size) undef,defers:=[]} w:=by
    refine⟨by simp[hl],fun i p v g1 g2=>?_,rfl,s⟩
    simp only[] at g1 g2 ⊢
    rcases Nat.lt_or_ge i args.length with h1|h1
    · rw[List.getElem?_append_left h1] at g1
      rw[Array.getElem?_append_left (by simpa[hl] using h1)] at g2
      exact ha i p v g1 (by simpa using g2)
    · rw[List.getElem?_append_right h1] at g1
      rw[Array.getElem?_append_right (by simpa[hl] using h1)] at g2
      have g3:=List.mem_of_getElem? g1
      have g4:=Array.mem_of_getElem? g2
      rw[List.mem_replicate] at g3
      rw[Array.mem_replicate] at g4
      rw[g3.2,g4.2]
      exact kW
   have fin:∀ (st':St) (F':Nat→Prop) (κ':Nat→Value) (a':Act) (w':World),(iZ E st' fn.results.toList fun ps=>K (wY ps) st'.heap)≠ .stuck→Rel F' κ' st' a' w'→mX H.length F κ w H F' κ' w' st'.heap→
    a'.defers= []∧∃ v,(results fn a'.tmps).run E.P w'= .ok v w'∧∃ v',Ending.returned v= .returned v'∧∃ r H' F' κ',(iZ E st' fn.results.toList fun ps=>K (wY ps) st'.heap)=K r H'∧RP F' κ' H'.length w' r v'∧SI F' κ' w' H'∧mX H.length F κ w H F' κ' w' H':=by
    intro st' F' κ' a' w' hne r1 ev1
    obtain⟨ps,vs,e1,e2,e3,e4⟩:=qY r1 hne
    have hres:(results fn a'.tmps).run E.P w'= .ok (if h:vs.length=1 then vs[0] else .tuple vs.toArray) w':=by
     show(do let vs ←fn.results.mapM (Jw a'.tmps); pure (if h:vs.size=1 then vs[0] else .tuple vs):Sem Value).run E.P w'=_
     rw[Array.mapM_eq_mapM_toList]
     simp only[Sem.run_bind,map_eq_pure_bind,e2,Result.andThen_ok,Sem.run_pure,List.size_toArray]
     split<;>rfl
    exact⟨r1.dn,_,hres,_,rfl,wY ps,st'.heap,F',κ',e1,H8 e3 e4,r1.si,ev1⟩
   refine mO he.mixed hc c _ _ _ F κ _ w _ h (Nat.le_refl _) rel fun e st' F' κ' a' w' e1 r1 ev1=>?_
   rw[e1] at h ⊢
   cases e with
   |norm=>exact fin st' F' κ' a' w' h r1 ev1
   |exit i=>exact absurd rfl h
   |ret=>exact fin st' F' κ' a' w' h r1 ev1
theorem Lr {f:FuncId} {p:PV} {v:Value} {H:List aj} {w0:World} {F0:Nat→Prop} {κ0:Nat→Value} (hfl:∀ b,F0 b→b < w0.heap.size) (h:aW E f p H≠ .stuck) (hp:RP F κ H.length w p v) (s:SI F κ w H) (ev:Ev 0 F0 κ0 w0 [] F κ w H):
 ∃ x F',aW E f p H= .ok x∧Out E f F' w0.heap.size w x v∧Grown F0 w0 F' w:=by
 have hno:∀ b,¬ Own κ0 [] b:=fun b ⟨l,o,h,_⟩=>by simp at h
 have hown:∀ b,Own κ H b→w0.heap.size≤b:=fun b hb=>(ev.on b hb).resolve_left (hno b)
 have hFn:∀ b,F b→F0 b∨w0.heap.size≤b:=fun b hb=>(ev.fn b hb).elim .inl fun h=>h.elim (fun h=>absurd h (hno b)) .inr
 have grown:∀ {F':Nat→Prop} {H':List aj},SI F' κ w H'→(∀ b,F b→F' b)→(∀ b,F' b→F b∨Own κ H b)→Grown F0 w0 F' w:=fun s' a1 a2=>
  ⟨ev.os,ev.tape,ev.output,ev.size,fun b hb=>ev.frame b hb (hno b),fun b hb=>a1 b (ev.fm b hb),fun b hb=>(a2 b hb).elim (hFn b) (fun h=> .inr (hown b h)),s'.fl⟩
 have rowOf:∀ {F':Nat→Prop} {H':List aj} {l e k:Nat} {xs:List T},SI F' κ w H'→(∀ b,Own κ H' b→Own κ H b)→H'[l]? =some (.row e k xs)→Row F' w e k xs (κ l)∧∀ b,(κ l).ownBlock=some b→w0.heap.size≤b∧b < w.heap.size∧ ¬ F' b:=by
  intro F' H' l e k xs s' a3 ho
  obtain⟨cs,h1,h2⟩:=s'.ro l _ ho
  refine⟨⟨cs,h1,h2⟩,fun b hb=>?_⟩
  obtain⟨c1,c2⟩:=s'.lt l _ b ho (by simpa[blk] using hb)
  exact⟨hown b (a3 b ⟨l,_,ho,by simpa[blk] using hb⟩),c1,c2⟩
 have PX:∀ (F':Nat→Prop) (e k:Nat),Row F' w e k [] (.slice none 0 0)∧∀ b,(Value.slice none 0 0).ownBlock=some b→w0.heap.size≤b∧b < w.heap.size∧ ¬ F' b:=
  fun F' e k=>⟨⟨[],World.ownsRow_nil w 0 e k,by simp,by simp,by simp,by simp⟩,fun b hb=>by simp[Value.ownBlock] at hb⟩
 unfold aW at h ⊢
 match hm:E.mode f with
 |0=>
  simp only[hm] at h ⊢
  obtain⟨x,e1,e2⟩:=aB h
  obtain⟨F',s',a1,a2,a3,a4,a5,a6⟩:=jS p.rows s
  exact⟨x,F',e2,.frozen hm (kS s hp a1 e1 a4),grown s' a1 a2⟩
 |1=>
  simp only[hm] at h ⊢
  cases hp with
  | @own l A n c hN hk=>
   simp only[] at h ⊢
   cases ho:H[l]? with
   |none=>simp[ho] at h
   |some q=>
    cases q with
    |row e k xs=>
     simp only[ho] at h ⊢
     obtain⟨g1,e1⟩:=bD h
     obtain⟨b1,b2⟩:=rowOf s (fun _ h=>h) ho
     rw[hk] at b1 b2
     exact⟨_,F,e1,.row hm (by simpa using g1) b1 b2,grown s (fun _ h=>h) (fun _ h=> .inl h)⟩
    |_=>simp[ho] at h
  | @view l k lo hi A n c hN hv=>
   simp only[] at h ⊢
   cases ho:H[l]? with
   |none=>simp[ho] at h
   |some q=>
    cases q with
    |row e k' xs=>
     simp only[ho] at h ⊢
     obtain⟨g1,e1⟩:=bD h
     simp only[Bool.and_eq_true,beq_iff_eq,decide_eq_true_eq] at g1
     obtain⟨⟨⟨g1,rfl⟩,rfl⟩,g2⟩:=g1
     obtain⟨b1,b2⟩:=rowOf s (fun _ h=>h) ho
     obtain⟨b3,b4⟩:=Row.cut b1 hv g2
     exact⟨_,F,e1,.row hm g1 b3 (fun b hb=>b2 b (by rw[←b4]; exact hb)),grown s (fun _ h=>h) (fun _ h=> .inl h)⟩
    |_=>simp[ho] at h
  | @nil e k=>
   simp only[] at h ⊢
   obtain⟨g1,e1⟩:=bD h
   exact⟨_,F,e1,.row hm (by simpa using g1) (PX _ _ _).1 (PX F e k).2,grown s (fun _ h=>h) (fun _ h=> .inl h)⟩
  |_=>exact absurd rfl h
 |m+2=>
  simp only[hm] at h ⊢
  cases hp with
  | @au ps vs hl hr=>
   match ps,vs,hl with
   | [],_,_=>exact absurd rfl h
   |p::ps,v::vs,hl=>
    have hp0:=hr 0 p v rfl rfl
    have hps:∀ (i:Nat) (q:PV) (u:Value),ps[i]? =some q→vs[i]? =some u→RP F κ H.length w q u:=fun i q u g1 g2=>hr (i+1) q u (by simpa using g1) (by simpa using g2)
    obtain⟨F',s',a1,a2,a3,a4,a5,a6⟩:=jS (PV.dU ps) s
    cases hp0 with
    | @own l A n c hN hk=>
     simp only[] at h ⊢
     cases ho:H[l]? with
     |none=>simp[ho] at h
     |some q=>
      cases q with
      |row e k xs=>
       simp only[ho] at h ⊢
       obtain⟨g0,e0⟩:=jq h
       rw[e0] at h ⊢
       obtain⟨ys,e1,e2⟩:=aB h
       rw[e2] at h ⊢
       obtain⟨g1,e3⟩:=bD h
       simp only[Bool.and_eq_true,beq_iff_eq] at g1
       obtain⟨c1,c2⟩:=rY s hps e1 a1 a4
       have ho':(aI (PV.dU ps) H)[l]? =some (.row e k xs):=by
        rw[oL _ _ (fun hmm=>by rw[List.contains_iff_mem.2 hmm] at g0; cases g0)]; exact ho
       obtain⟨b1,b2⟩:=rowOf s' a3 ho'
       rw[hk] at b1 b2
       exact⟨_,F',e3,.au (by omega) g1.1 b1 b2 g1.2 (by simp at hl; omega) c2,grown s' a1 a2⟩
      |_=>simp[ho] at h
    | @nil e k=>
     simp only[] at h ⊢
     obtain⟨ys,e1,e2⟩:=aB h
     rw[e2] at h ⊢
     obtain⟨g1,e3⟩:=bD h
     simp only[Bool.and_eq_true,beq_iff_eq] at g1
     obtain⟨c1,c2⟩:=rY s hps e1 a1 a4
     exact⟨_,F',e3,.au (by omega) g1.1 (PX _ _ _).1 (PX F' e k).2 g1.2 (by simp at hl; omega) c2,grown s' a1 a2⟩
    |_=>exact absurd rfl h
  |_=>exact absurd rfl h
theorem oM (he:nK E) {f:FuncId} {args:Array Value} {R:Value→World→Prop} (hfn:∃ fn c,E.P.funcs[f]? =some fn∧fn.body=some c) (h:Calls E.P f args w fun e w'=>∃ v,e= .returned v∧R v w'∧w.drawn≤w'.drawn):Invokes E.P f args w R:=by
 obtain⟨fn,c,hf,hb⟩:=hfn
 have h1:fn.name≠ "runtime.NumGoroutine" :=by have:=he.named f fn hf; simpa using this
 unfold Invokes
 have:(callFunc f args).run E.P w= .ok (.enter f args) w:=by simp[callFunc,hf,h1,hb]
 rw[this]
 exact h
theorem abv {β:Type} {n:Nat} {f:FuncId} {args:List PV} {H:List aj} {K:PV→List aj→ah β} (h:fU E rc n f args H K≠ .stuck):∃ fn c,E.P.funcs[f]? =some fn∧fn.body=some c:=by
 unfold fU at h
 cases hf:E.P.funcs[f]? with
 |none=>simp[hf] at h
 |some fn=>
  cases hb:fn.body with
  |none=>simp[hf,hb] at h
  |some c=>exact⟨fn,c,rfl,hb⟩
def akF (E:Env) (run:(β:Type)→FuncId→List PV→List aj→(PV→List aj→ah β)→ah β):Prop:=∀ (β:Type) (f:FuncId) (args:List PV) (H:List aj) (K:PV→List aj→ah β),run β f args H K≠ .stuck→∀ (F:Nat→Prop) (κ:Nat→Value) (w:World) (vals:List Value),vals.length=args.length→
 (∀ (i:Nat) (p:PV) (v:Value),args[i]? =some p→vals[i]? =some v→RP F κ H.length w p v)→SI F κ w H→
 (∃ fn c,E.P.funcs[f]? =some fn∧fn.body=some c)∧Calls E.P f vals.toArray w fun e w'=>∃ v,e= .returned v∧∃ r H' F' κ',run β f args H K=K r H'∧RP F' κ' H'.length w' r v∧SI F' κ' w' H'∧mX H.length F κ w H F' κ' w' H'
theorem Dx (he:nK E) {run:(β:Type)→FuncId→List PV→List aj→(PV→List aj→ah β)→ah β} (hr:akF E run) {f:FuncId} {ts:List T} (hx:E.ext f=none) (h:jY E run f ts≠ .stuck) {vals:List Value} (hl:vals.length=ts.length)
 (ha:∀ (i:Nat) (x:T) (v:Value),ts[i]? =some x→vals[i]? =some v→Rd F w x v) (hfl:∀ b,F b→b < w.heap.size):
 (∃ fn c,E.P.funcs[f]? =some fn∧fn.body=some c)∧Calls E.P f vals.toArray w fun e w'=>∃ v,e= .returned v∧(∃ x F',jY E run f ts= .ok x∧Out E f F' w.heap.size w' x v∧Grown F w F' w')∧w.drawn≤w'.drawn:=by
 have hwf:T.wfs ts=true:=T.nC.2 fun x hx=>by
  obtain⟨i,hi,rfl⟩:=List.getElem_of_mem hx
  exact(ha i _ _ (List.getElem?_eq_getElem hi) (List.getElem?_eq_getElem (by omega))).wf
 unfold jY at h ⊢
 rw[hwf] at h ⊢
 simp only[cond_true,hx] at h ⊢
 obtain⟨g1,g2⟩:=hr T f (ts.map .t) [] (aW E f) h F (fun _=>undef) w vals (by simpa using hl) (fun i p v a b=>by
  rw[List.getElem?_map,Option.map_eq_some_iff] at a
  obtain⟨x,a,rfl⟩:=a
  exact .t (ha i x v a b)) ⟨by simp,by simp,by simp,hfl⟩
 refine⟨g1,Calls.mono g2 fun e w'=>?_⟩
 rintro⟨v,rfl,r,H',F',κ',e1,e2,e3,e4⟩
 rw[e1] at h ⊢
 exact⟨v,rfl,Lr hfl h e2 e3 e4.toEv,e4.drawn⟩
theorem tY (he:nK E) {run:(β:Type)→FuncId→List PV→List aj→(PV→List aj→ah β)→ah β} (hn:(⟨jY E run,run⟩:Caller).Nat) (hr:akF E run):fG E ⟨jY E run,run⟩ where
 nat:=hn
 zM:=he.zM
 pure:=fun f ts h F w vals hl ha hfl=>by
  cases hx:E.ext f with
  |some e=>
   have hwf:T.wfs ts=true:=T.nC.2 fun x hx=>by
    obtain⟨i,hi,rfl⟩:=List.getElem_of_mem hx
    exact(ha i _ _ (List.getElem?_eq_getElem hi) (List.getElem?_eq_getElem (by omega))).wf
   have e1:jY E run f ts=e ts:=by unfold jY; rw[hwf,hx]; rfl
   simp only[] at h ⊢
   rw[e1] at h ⊢
   exact he.ext f e hx ts h F w vals hl ha hfl
  |none=>
   obtain⟨g1,g2⟩:=Dx he hr hx h hl ha hfl
   exact oM he g1 g2
 go:=fun β f args H K h F κ w vals hl ha s=>by
  obtain⟨g1,g2⟩:=hr β f args H K h F κ w vals hl ha s
  exact oM he g1 (Calls.mono g2 fun e w' ⟨v,h0,r,H',F',κ',h1,h2,h3,h4⟩=>⟨v,h0,⟨r,H',F',κ',h1,h2,h3,h4.toEv⟩,h4.drawn⟩)
theorem yM (he:nK E):∀ n,(aJ E n).Nat∧akF E (runK E n)
 |0=>⟨fun β γ g hg f args H K=>hg.stuck,fun β f args H K h=>absurd rfl h⟩
 |n+1=>by
  obtain⟨h1,h2⟩:=yM he n
  have hc:=tY he h1 h2
  refine⟨fun β γ g hg f args H K=>JW hc.nat hg args H K,fun β f args H K h F κ w vals hl ha s=>⟨abv h,?_⟩⟩
  exact YX he hc h hl ha s
theorem GR (he:nK E) {n:Nat} {f:FuncId} {ts:List T} (hx:E.ext f=none) (h:ak E n f ts≠ .stuck) {vals:List Value} (hl:vals.length=ts.length)
 (ha:∀ (i:Nat) (x:T) (v:Value),ts[i]? =some x→vals[i]? =some v→Rd F w x v) (hfl:∀ b,F b→b < w.heap.size):
 Calls E.P f vals.toArray w fun e w'=>∃ v,e= .returned v∧∃ x F',ak E n f ts= .ok x∧Out E f F' w.heap.size w' x v∧Grown F w F' w':=
 Calls.mono (Dx he (yM he n).2 hx h hl ha hfl).2 fun e w' ⟨v,h0,h1,_⟩=>⟨v,h0,h1⟩
theorem FK (he:nK E) {n:Nat} {f:FuncId} {ts:List T} (hx:E.ext f=none) (h:ak E n f ts≠ .stuck) {vals:List Value} (hl:vals.length=ts.length)
 (ha:∀ (i:Nat) (x:T) (v:Value),ts[i]? =some x→vals[i]? =some v→Rd F w x v) (hfl:∀ b,F b→b < w.heap.size):
 Calls E.P f vals.toArray w fun e w'=>∃ v,e= .returned v∧(∃ x F',ak E n f ts= .ok x∧Out E f F' w.heap.size w' x v∧Grown F w F' w')∧w.drawn≤w'.drawn:=(Dx he (yM he n).2 hx h hl ha hfl).2
#print axioms GR
end
end
section
open Go.RowKit
inductive Frm where
 |seq (b:Code)
 |block (id:Nat)
def mV (r:Nat):Code→Option (Code×List Frm)
 | .seq a b=>match mV r a with
  |some (c,fs)=>some (c,fs++ [.seq b])
  |none=>mV r b
 | .block id c=>match mV r c with
  |some (c',fs)=>some (c',fs++ [.block id])
  |none=>none
 | .scope c=>mV r c
 | .cond _ a b=>match mV r a with
  |some x=>some x
  |none=>mV r b
 | .loop c=>bif Nat.beq (bG c) r then some (c,[]) else none
 |_=>none
section
variable {β:Type} (E:Env) (rc:Caller) (f:FuncId) (fn:Func) (n base:Nat)
def qG:List Frm→(Ex→St→ah β)→Ex→St→ah β
 | [],K=>K
 | .seq b::r,K=>fun e st=>e.k (dA E rc f fn n base b st (qG r K)) (fun i=>qG r K (.exit i) st) (qG r K .ret st)
 | .block id::r,K=>fun e st=>e.k (qG r K .norm st) (fun i=>if i=id then qG r K .norm st else qG r K (.exit i) st) (qG r K .ret st)
def zo (c:Code):St→ah (Ex×St):=fun st=>dA E rc f fn n base c st fun e st=>e.k (.ok (.norm,canon base (E.hint f (bG c)).1 st))
 (fun i=> .ok (.exit i,canon base (E.hint f (bG c)).2 st)) (.ok (.ret,canon base (lD fn) st))
def Fg (K:PV→List aj→ah β):Ex→St→ah β:=fun e st=>e.k (iZ E st fn.results.toList fun ps=>K (wY ps) st.heap) (fun _=> .stuck) (iZ E st fn.results.toList fun ps=>K (wY ps) st.heap)
end
def aF (E:Env) (n:Nat) (f:FuncId) (base r:Nat):St→ah (Ex×St):=match E.P.funcs[f]? with
 |some fn=>(match fn.body with
  |some c=>(match mV r c with
   |some (c',_)=>zo E (aJ E n) f fn n base c'
   |none=>fun _=> .stuck)
  |none=>fun _=> .stuck)
 |none=>fun _=> .stuck
def aP {β:Type} (E:Env) (n:Nat) (f:FuncId) (base r:Nat) (K:PV→List aj→ah β):Ex→St→ah β:=match E.P.funcs[f]? with
 |some fn=>(match fn.body with
  |some c=>(match mV r c with
   |some (_,fs)=>qG E (aJ E n) f fn n base fs (Fg E fn K)
   |none=>fun _ _=> .stuck)
  |none=>fun _ _=> .stuck)
 |none=>fun _ _=> .stuck
def pq (E:Env) (n:Nat) (f:FuncId) (base r q:Nat):St→ah (Ex×St):=match E.P.funcs[f]? with
 |some fn=>(match fn.body with
  |some c=>(match mV r c with
   |some (c1,_)=>(match mV q c1 with
    |some (c2,_)=>zo E (aJ E n) f fn n base c2
    |none=>fun _=> .stuck)
   |none=>fun _=> .stuck)
  |none=>fun _=> .stuck)
 |none=>fun _=> .stuck
def qF (E:Env) (n:Nat) (f:FuncId) (base r q:Nat):Ex→St→ah (Ex×St):=match E.P.funcs[f]? with
 |some fn=>(match fn.body with
  |some c=>(match mV r c with
   |some (c1,_)=>(match mV q c1 with
    |some (_,fs)=>qG E (aJ E n) f fn n base fs fun e st=>e.k (.ok (.norm,canon base (E.hint f (bG c1)).1 st))
     (fun i=> .ok (.exit i,canon base (E.hint f (bG c1)).2 st)) (.ok (.ret,canon base (lD fn) st))
    |none=>fun _ _=> .stuck)
   |none=>fun _ _=> .stuck)
  |none=>fun _ _=> .stuck)
 |none=>fun _ _=> .stuck
def bC (E:Env) (n:Nat) (f:FuncId) (r:Nat) (st:St):ah T:=(bF (aF E n f 0 r) n st).bind fun p=>aP E n f 0 r (aW E f) p.1 p.2
def qE (E:Env) (n:Nat) (f:FuncId) (r q:Nat) (st:St):ah (Ex×St):=(bF (pq E n f 0 r q) n st).bind fun p=>qF E n f 0 r q p.1 p.2
def XR:List (Nat×PV)→Nat→PV
 | [],_=> .junk
 |(j,p)::r,i=>bif Nat.beq j i then p else XR r i
def slots (n:Nat) (l:List (Nat×PV)):List PV:=(List.range n).map (XR l)
theorem bf {B:St→ah (Ex×St)} {n:Nat} {s s':St} (h:B s= .ok (.norm,s')):bF B (n+1) s=bF B n s':=by simp[bF,h,Ex.k]
theorem dV {B:St→ah (Ex×St)} {n:Nat} {s s':St} {i:Nat} (h:B s= .ok (.exit i,s')):bF B (n+1) s= .ok (.exit i,s'):=by simp[bF,h,Ex.k]
theorem dR {B:St→ah (Ex×St)} {n:Nat} {s s':St} (h:B s= .ok (.ret,s')):bF B (n+1) s= .ok (.ret,s'):=by simp[bF,h,Ex.k]
abbrev i64 (n:Int):T:= .int .i64 n
abbrev aV (n:Int):Bool:=kindOk .i64 n
theorem iH {n:Int}:aV n=true↔ -9223372036854775808≤n∧n≤9223372036854775807:=by
 have h1:IntKind.i64.min= -9223372036854775808:=by decide
 have h2:IntKind.i64.max=9223372036854775807:=by decide
 simp[aV,kindOk,h1,h2]
theorem wrap64 {n:Int} (h: -9223372036854775808≤n∧n≤9223372036854775807):IntKind.i64.wrap n=n:=by
 rw[IntKind.wrap_i64]; omega
theorem fZ {n:Nat} (h:n≤big):aV n=true:=yY h
theorem aU:big=140737488355328:=rfl
end
section
open Go.RowKit
section
variable {F F':Nat→Prop} {κ:Nat→Value} {w w':World} {H:List aj}
theorem SI.QG (s:SI F κ w H) {l b:Nat} {o o':aj} (h:H[l]? =some o) (hb:blk κ l o=some b) (hb':blk κ l o'=some b) (hsz:w.heap.size≤w'.heap.size) (hoth:∀ c,c < w.heap.size→c≠b→w'.heap[c]? =w.heap[c]?)
 (hro:RO F κ H.length w' l o'):SI F κ w' (H.set l o'):=by
 have hl:l < H.length:=(List.getElem?_eq_some_iff.1 h).1
 have hnF:=(s.lt l o b h hb).2
 have tZ:∀ c,F c→w'.heap[c]? =w.heap[c]? :=fun c hc=>hoth c (s.fl c hc) fun e=>hnF (e ▸ hc)
 refine⟨fun i q hi=>?_,fun i q c hi hc=>?_,fun i j q q' c hi hj hc hc'=>?_,fun c hc=>Nat.lt_of_lt_of_le (s.fl c hc) hsz⟩
 · rw[List.length_set]
   rcases eu hl hi with ⟨rfl,rfl⟩|⟨hne,hq⟩
   · exact hro
   · exact(s.ro i q hq).mono (fun _ h=>h) tZ (fun c hc=>hoth c (s.lt i q c hq hc).1 fun e=>hne (s.ne i l q o b hq h (e ▸ hc) hb)) rfl fun l' hl'=>⟨rfl,(s.ro i q hq).bound l' hl'⟩
 · rcases eu hl hi with ⟨rfl,rfl⟩|⟨hne,hq⟩
   · rw[hb'] at hc; injection hc with hc; subst hc; have:=s.lt i o b h hb; exact⟨Nat.lt_of_lt_of_le this.1 hsz,this.2⟩
   · have:=s.lt i q c hq hc; exact⟨Nat.lt_of_lt_of_le this.1 hsz,this.2⟩
 · rcases eu hl hi with ⟨rfl,rfl⟩|⟨hne,hq⟩<;>rcases eu hl hj with ⟨rfl,rfl⟩|⟨hne',hq'⟩
   · rfl
   · rw[hb'] at hc; injection hc with hc; subst hc; exact absurd (s.ne j i q' o b hq' h hc' hb) hne'
   · rw[hb'] at hc'; injection hc' with hc'; subst hc'; exact absurd (s.ne i j q o b hq h hc hb) hne
   · exact s.ne i j q q' c hq hq' hc hc'
theorem Ev.QG {N0 l b:Nat} {o o':aj} (s:SI F κ w H) (h:H[l]? =some o) (hb:blk κ l o=some b) (hb':blk κ l o'=some b) (hos:w'.os=w.os) (htp:w'.tape=w.tape) (hou:w'.output=w.output)
 (hsz:w.heap.size≤w'.heap.size) (hoth:∀ c,c < w.heap.size→c≠b→w'.heap[c]? =w.heap[c]?) (h0:N0≤H.length) (hk:(∃ e k xs,o= .row e k xs)∨∀ e k xs,o'≠ .row e k xs):Ev N0 F κ w H F κ w' (H.set l o'):=by
 have hl:l < H.length:=(List.getElem?_eq_some_iff.1 h).1
 refine⟨hos,htp,hou,hsz,fun c hc hn=>hoth c hc fun e=>hn ⟨l,o,h,e ▸ hb⟩,fun _ h=>h,fun _ h=> .inl h,fun c hc=>?_,by simpa using h0,fun i q _ hi hq=>⟨rfl,?_⟩⟩
 · obtain⟨i,q,hi,hq⟩:=hc
   rcases eu hl hi with ⟨rfl,rfl⟩|⟨hne,h2⟩
   · exact .inl ⟨i,o,h,by rw[hb]; rw[hb'] at hq; exact hq⟩
   · exact .inl ⟨i,q,h2,hq⟩
 · by_cases e:i=l
   · subst e
     rw[h] at hi
     injection hi with hi
     subst hi
     refine⟨o',List.getElem?_set_self hl,?_⟩
     rcases hk with ⟨e,k,xs,hk⟩|hk
     · exact absurd hk (hq e k xs)
     · exact hk
   · exact⟨q,by rw[List.getElem?_set_ne (fun h=>e h.symm)]; exact hi,hq⟩
end
def X3 (E:Env) (g:FuncId) (e k:Nat) (xs rest:List T) (R:List T→Prop):Prop:=∀ (F:Nat→Prop) (κ:Nat→Value) (w:World) (H:List aj) (l:Nat) (vals:List Value),SI F κ w H→H[l]? =some (.row e k xs)→
 vals.length=rest.length→(∀ (i:Nat) (x:T) (v:Value),rest[i]? =some x→vals[i]? =some v→Rd F w x v)→
 Invokes E.P g (κ l::vals).toArray w fun r w'=>r= .tuple #[]∧w.grownBy w' (κ l).ownBlock∧∃ ys,R ys∧Row F w' e k ys (κ l)
theorem acP {E:Env} {g:FuncId} {e k N0:Nat} {xs rest:List T} {R:List T→Prop} (hs:X3 E g e k xs rest R) {F:Nat→Prop} {κ:Nat→Value} {w:World} {st:St} {tm:Array Value} {l:Nat} {vals:List Value} (h0:N0≤st.heap.length) (s:SI F κ w st.heap) (ht:TR F κ w st tm)
 (ho:st.heap[l]? =some (.row e k xs)) (hne:xs≠ []) (hl:vals.length=rest.length) (hr:∀ (i:Nat) (x:T) (v:Value),rest[i]? =some x→vals[i]? =some v→Rd F w x v):
 Invokes E.P g (κ l::vals).toArray w fun r w'=>r= .tuple #[]∧∃ ys,R ys∧Next' N0 F κ w st tm (.t (.au [])) (.tuple #[]) F κ w' ⟨st.tmps,st.heap.set l (.row e k ys)⟩:=by
 refine(hs F κ w st.heap l vals s ho hl hr).mono fun r w'=>?_
 rintro⟨rfl,hg,ys,hR,hrow⟩
 refine⟨rfl,ys,hR,?_⟩
 obtain⟨b,hb⟩:∃ b,(κ l).ownBlock=some b:=by
  obtain⟨cs,h1,_⟩:=s.ro l _ ho
  rcases h1.2 with ⟨_,e2⟩|⟨g,cap,cur,e1,_⟩
  · exact absurd (List.eq_nil_of_length_eq_zero e2) hne
  · exact⟨g,by rw[e1]; rfl⟩
 have hoth:∀ c,c < w.heap.size→c≠b→w'.heap[c]? =w.heap[c]? :=fun c hc hn=>hg.block c hc (by rw[hb]; intro h; injection h with h; exact hn h)
 have hnF:=(s.lt l _ b ho hb).2
 have hro:RO F κ st.heap.length w' l (.row e k ys):=hrow.ro rfl
 refine⟨s.QG ho hb hb hg.size hoth hro,Ev.QG s ho hb hb hg.os hg.tape hg.output hg.size hoth h0 (.inl ⟨_,_,_,rfl⟩),.t (.au (vs:=[]) rfl fun i q v a1 a2=>by simp at a1),rfl,fun i q v a1 a2=>?_⟩
 simp only[] at a1
 show RP F κ (st.heap.set l (.row e k ys)).length w' q v
 rw[List.length_set]
 exact(ht i q v a1 a2).mono (fun _ h=>h) (fun c hc=>hoth c (s.fl c hc) fun e=>hnF (e ▸ hc)) fun l' hl'=>⟨rfl,(ht i q v a1 a2).bound l' hl'⟩
theorem KN {F:Nat→Prop} {w:World} {n:Nat} {e:T×T×Nat}:∀ {es:List (T×T×Nat)} {ms:List MapEntry},ms.length=es.length→
 (∀ (i:Nat) (x:T×T×Nat) (m:MapEntry),es[i]? =some x→ms[i]? =some m→Rd F w x.1 m.key∧Rd F w x.2.1 m.val∧m.born=x.2.2)→(es.find? fun x=>x.2.2==n)=some e→
 ∃ m,(ms.find? fun m=>m.born==n)=some m∧Rd F w e.1 m.key∧Rd F w e.2.1 m.val
 | [],_,_,_,h=>by simp at h
 |_::_,[],hl,_,_=>by simp at hl
 |x::es,m::ms,hl,hr,h=>by
  obtain⟨r1,r2,r3⟩:=hr 0 x m rfl rfl
  rw[List.find?_cons] at h ⊢
  rw[r3]
  cases hb:x.2.2==n with
  |true=>
   rw[hb] at h
   simp only[Option.some.injEq] at h
   subst h
   exact⟨m,rfl,r1,r2⟩
  |false=>
   rw[hb] at h
   exact KN (by simpa using hl) (fun i y q a b=>hr (i+1) y q (by simpa using a) (by simpa using b)) h
end
section
open Go.RowKit
section
variable (E:Env) (rc:Caller) (f:FuncId) (fn:Func) (base:Nat)
def Aj (seen:List Nat) (es:List (T×T×Nat)):List (T×T×Nat):=es.filter fun e=> !seen.contains e.2.2
def Yf (l m since:Nat) (seen:List Nat) (last:Nat) (es:List (T×T×Nat)) (c:Nat) (d:Option Tmp) (st:St) (Q:St→Prop):Prop:=
 (∀ e∈es,e.2.2 < since)∧(seen= []∨es= []∨∃ e∈es,e.2.2 < last)∧
  (Aj seen es= []→Q ⟨dL st.tmps d (.t (.au [.bool false])),st.heap⟩)∧∀ e∈Aj seen es,Q ⟨dL st.tmps d (.t (.au [.bool true,e.1,e.2.1])),st.heap.set l (.iter m since (seen++ [e.2.2]) c)⟩
def stepD (ops:Array Oper) (o:Oper) (st:St) (Q:St→Prop):Prop:=match o.guard,o.op with
 |none,.range t x=>∃ m es c,bV E.P st.tmps t x=some (.mp m)∧st.heap[m]? =some (.map es c)∧(IV E.P t).isSome=true∧Q ⟨dL st.tmps o.dst (.ptr st.heap.length 0),st.heap++ [.iter m c [] c]⟩
 |none,.next x false=>∃ l m since seen last es c,bV E.P st.tmps 0 x=some (.ptr l 0)∧st.heap[l]? =some (.iter m since seen last)∧st.heap[m]? =some (.map es c)∧Yf l m since seen last es c o.dst st Q
 |none,.entry x=>∃ l m since seen es c n e,bV E.P st.tmps 0 x=some (.ptr l 0)∧st.heap[l]? =some (.iter m since (seen++ [n]) c)∧st.heap[m]? =some (.map es c)∧(es.find? fun x=>x.2.2==n)=some e∧Q ⟨dL st.tmps o.dst (.t (.au [e.1,e.2.1])),st.heap⟩
 |none,.call ⟨.value (.func g),args,tys⟩=>(∃ l e k xs rest R,jF E.P st.tmps (fun i=>tys.getD i 0) 0 args.toList=some (.own l::rest.map .t)∧st.heap[l]? =some (.row e k xs)∧xs≠ []∧X3 E g e k xs rest R∧
  ∀ ys,R ys→Q ⟨dL st.tmps o.dst (.t (.au [])),st.heap.set l (.row e k ys)⟩)∨(∃ st',bn E rc ops [(o,false)] st (fun s=>(.ok s:ah St))= .ok st'∧Q st')
 |_,_=>∃ st',bn E rc ops [(o,false)] st (fun s=>(.ok s:ah St))= .ok st'∧Q st'
def Cj (ops:Array Oper):List Oper→St→(St→Prop)→Prop
 | [],st,Q=>Q st
 |o::r,st,Q=>stepD E rc ops o st fun st=>Cj ops r st Q
def Ex.kP (e:Ex) (n:Prop) (x:Nat→Prop) (r:Prop):Prop:=match e with
 | .norm=>n
 | .exit i=>x i
 | .ret=>r
def jg (c:Code) (st:St) (Q:St→Prop):Prop:=∀ (base:Nat) (F:Nat→Prop) (κ:Nat→Value) (a:Act) (w:World) (R:Exit→Act→World→Prop),base≤st.heap.length→Rel F κ st a w→
 (∀ st' F' κ' a' w',Q st'→Rel F' κ' st' a' w'→mX base F κ w st.heap F' κ' w' st'.heap→R .normal a' w')→c.wp E.P R a w
def ig:Code→St→(Ex→St→Prop)→Prop
 | .skip,st,Q=>Q .norm st
 | .region id ops dr,st,Q=>(bif dr then sJ ops=true∧∃ st',bn E rc ops (dG ops) st (fun s=>(.ok s:ah St))= .ok st'∧Q .norm st' else Cj E rc ops ops.toList st (Q .norm))∨jg E (.region id ops dr) st (Q .norm)
 | .seq a b,st,Q=>ig a st fun e st=>e.kP (ig b st Q) (fun i=>Q (.exit i) st) (Q .ret st)
 | .cond c a b,st,Q=>∃ v,bV E.P st.tmps 0 c=some (.t (.bool v))∧bif v then ig a st Q else ig b st Q
 | .block id c,st,Q=>ig c st fun e st=>e.kP (Q .norm st) (fun i=>if i=id then Q .norm st else Q (.exit i) st) (Q .ret st)
 | .loop c,st,Q=>∃ I:Nat→St→Prop,(∃ n,I n (canon base (E.hint f (bG c)).1 st))∧∀ n st,I n st→ig c st fun e st=>
  e.kP (∃ m,m < n∧I m (canon base (E.hint f (bG c)).1 st)) (fun i=>Q (.exit i) (canon base (E.hint f (bG c)).2 st)) (Q .ret (canon base (lD fn) st))
 | .exit id,st,Q=>Q (.exit id) st
 | .scope c,st,Q=>ig c st Q
 | .label _,st,Q=>Q .norm st
 | .ret,st,Q=>Q .ret st
 |_,_,_=>False
end
section
variable {E:Env} {rc:Caller} {f:FuncId} {fn:Func} {base:Nat} {ops:Array Oper}
theorem Ig (hc:fG E rc) {o:Oper} {st:St} {Q:St→Prop} {F:Nat→Prop} {κ:Nat→Value} {a:Act} {w:World} {rest:List Oper} {R:Exit→Act→World→Prop} (h:stepD E rc ops o st Q) (h0:base≤st.heap.length) (rel:Rel F κ st a w)
 (hq:∀ st' F' κ' a' w',Q st'→Rel F' κ' st' a' w'→mX base F κ w st.heap F' κ' w' st'.heap→wpList E.P ops R rest a' w'):wpList E.P ops R (o::rest) a w:=by
 have plain:(∃ st',bn E rc ops [(o,false)] st (fun s=>(.ok s:ah St))= .ok st'∧Q st')→wpList E.P ops R (o::rest) a w:=by
  rintro⟨st',e,hQ⟩
  rw[dN] at e
  simp only[wpList]
  cases hg:guardOf ops st.tmps o with
  |none=>rw[hg] at e; cases e
  |some b=>
   rw[hg] at e
   rw[uO rel hg]
   cases b with
   |true=>
    simp only[if_true] at e ⊢
    refine .inl (Bl (N0:=base) (K:=fun p st'=>bn E rc ops [] ⟨dL st'.tmps o.dst p,st'.heap⟩ (fun s=>(.ok s:ah St))) hc (by rw[e]; simp) h0 rel fun p u st2 F' κ' w' e2 hn hdr=>?_)
    rw[e] at e2
    simp only[bn,ah.ok.injEq] at e2
    subst e2
    exact hq _ F' κ' _ w' hQ (hn.rel rel _) ⟨hn.ev,hdr⟩
   |false=>
    simp only[Bool.false_eq_true,if_false,bn,ah.ok.injEq] at e ⊢
    subst e
    exact hq _ F κ _ w hQ (rel.skip _) (mX.refl h0)
 have s:=rel.si
 have ht:TR F κ w st a.tmps:=rel.tr
 obtain⟨dst,op,type,pos,after,guard⟩:=o
 unfold stepD at h
 split at h
 ·
  rename_i t x hgd hop
  simp only[] at hgd hop h
  subst hgd; subst hop
  obtain⟨m,es,c,e1,e2,e3,hQ⟩:=h
  have hv:=iP rel.tl ht e1
  generalize hve:a.eval x=v at hv
  cases hv with
  | @mp _ b hN hk=>
  obtain⟨b',ms,h1,h2,h3,h4⟩:=s.ro m _ e2
  rw[hk] at h1
  injection h1 with h1
  injection h1 with h1
  subst h1
  cases hmp:IV E.P t with
  |none=>rw[hmp] at e3; cases e3
  |some ke=>
  have hu:=zD (k:=ke.1) (e:=ke.2) hmp
  have nx:=Next'.push (N0:=base) (tm:=a.tmps) (o:= .iter m c [] c) (u:= .pointer (some ⟨w.heap.size,0,none⟩)) (w':=w.alloc (.mapIter (some b) c #[] c)) (F':=F) (p:= .ptr st.heap.length 0) h0 s ht rfl rfl rfl (by simp) (fun b hb=>Below.heap_alloc w _ b hb) (fun _ h=>h) (fun _ h=> .inl h) (fun b hb=>Nat.lt_of_lt_of_le (s.fl b hb) (by simp))
   ⟨w.heap.size,b,upd_same _ _ _,by rw[kX _ _ (by omega)]; exact hk,by omega,heap_alloc_new' w _⟩
   (fun b hb=>by
    simp only[blk,upd_same,iY,Option.some.injEq] at hb
    subst hb
    exact⟨Nat.le_refl _,by simp,fun hf=>by have:=s.fl _ hf; omega⟩)
   (.ptr (Nat.lt_succ_self _) (upd_same _ _ _))
  simp only[wpList]
  rw[if_pos (by rfl)]
  refine .inl (dK (u:= .pointer (some ⟨w.heap.size,0,none⟩)) (w':=w.alloc (.mapIter (some b) c #[] c)) ?_ (fun hdr=>hq _ _ _ _ _ hQ (nx.rel rel _) ⟨nx.ev,hdr⟩))
  simp only[execOp,hve,Sem.run_bind]
  simp[Instr.range,run_underlying hu,MapKept.run_getObj_map h2,Result.andThen_ok]
 ·
  rename_i x hgd hop
  simp only[] at hgd hop h
  subst hgd; subst hop
  obtain⟨l,m,since,seen,last,es,c,e1,e2,e3,n1,n2,n3,n4⟩:=h
  have hv:=iP rel.tl ht e1
  generalize hve:a.eval x=v at hv
  cases hv with
  | @ptr _ _ b hN hk=>
  obtain⟨b',bm,h1,h2,h3,h4⟩:=s.ro l _ e2
  rw[hk] at h1
  injection h1 with h1
  injection h1 with h1
  injection h1 with h1
  subst h1
  obtain⟨bm',ms,g1,g2,g3,g4⟩:=s.ro m _ e3
  rw[h2] at g1
  injection g1 with g1
  injection g1 with g1
  subst g1
  have en:vV F w es ms.toList:=⟨by simpa using g3,fun i x y a b=>g4 i x y a (by simpa using b)⟩
  have hborn:∀ mm∈ms,∃ (i:Nat) (e:T×T×Nat),es[i]? =some e∧ms[i]? =some mm∧Rd F w e.1 mm.key∧Rd F w e.2.1 mm.val∧mm.born=e.2.2:=fun mm hm=>by
   obtain⟨i,hi,rfl⟩:=Array.getElem_of_mem hm
   have hi':i < es.length:=by omega
   obtain⟨r1,r2,r3⟩:=en.2 i es[i] ms[i] (List.getElem?_eq_getElem hi') (by simp[hi])
   exact⟨i,es[i],List.getElem?_eq_getElem hi',Array.getElem?_eq_getElem hi,r1,r2,r3⟩
  have hnew:(ms.filter fun e:MapEntry=> !seen.toArray.contains e.born).filter (fun e:MapEntry=>decide (e.born≥since))= #[]:=by
   rw[Array.filter_eq_empty_iff]
   intro mm hm
   rw[Array.mem_filter] at hm
   obtain⟨i,e,q1,q2,_,_,q3⟩:=hborn mm hm.1
   have:=n1 e (List.mem_of_getElem? q1)
   simp; omega
  have hold:(ms.filter fun e:MapEntry=> !seen.toArray.contains e.born).filter (fun e:MapEntry=>decide (e.born < since))=ms.filter fun e:MapEntry=> !seen.toArray.contains e.born:=by
   rw[Array.filter_eq_self]
   intro mm hm
   rw[Array.mem_filter] at hm
   obtain⟨i,e,q1,q2,_,_,q3⟩:=hborn mm hm.1
   have:=n1 e (List.mem_of_getElem? q1)
   simp; omega
  have hcond:(!seen.toArray.isEmpty&& !ms.isEmpty&&ms.all (·.born≥last))=false:=by
   rcases n2 with rfl|rfl|⟨e,he,hlt⟩
   · rfl
   · have:ms= #[]:=Array.eq_empty_of_size_eq_zero (by simpa using g3)
     subst this; simp
   · rw[Bool.and_eq_false_iff]
     right
     rw[Bool.eq_false_iff]
     intro hall
     obtain⟨i,hi⟩:=List.getElem?_of_mem he
     have hi':i < ms.size:=by rw[g3]; exact(List.getElem?_eq_some_iff.1 hi).1
     have hb:=(en.2 i e ms[i] hi (by simp[hi'])).2.2
     have:=Array.all_eq_true_iff_forall_mem.1 hall ms[i] (Array.getElem_mem hi')
     simp at this; omega
  have hleft:∀ mm∈ms.filter (fun e:MapEntry=> !seen.toArray.contains e.born),∃ e∈Aj seen es,Rd F w e.1 mm.key∧Rd F w e.2.1 mm.val∧mm.born=e.2.2:=fun mm hm=>by
   rw[Array.mem_filter] at hm
   obtain⟨i,e,q1,q2,r1,r2,q3⟩:=hborn mm hm.1
   refine⟨e,List.mem_filter.2 ⟨List.mem_of_getElem? q1,?_⟩,r1,r2,q3⟩
   have:=hm.2
   simpa[q3] using this
  have hempty:(ms.filter fun e:MapEntry=> !seen.toArray.contains e.born)= #[]→Aj seen es= []:=fun he=>by
   unfold Aj
   rw[List.filter_eq_nil_iff]
   intro e hm hs
   obtain⟨i,hi⟩:=List.getElem?_of_mem hm
   have hi':i < ms.size:=by rw[g3]; exact(List.getElem?_eq_some_iff.1 hi).1
   have hb:=(en.2 i e ms[i] hi (by simp[hi'])).2.2
   have:ms[i]∈ms.filter fun e=> !seen.toArray.contains e.born:=Array.mem_filter.2 ⟨Array.getElem_mem hi',by simpa[hb] using hs⟩
   rw[he] at this; simp at this
  simp only[wpList]
  rw[if_pos (by rfl)]
  have hgi:(getObj b).run E.P w= .ok (.mapIter (some bm) since seen.toArray last) w:=by simp[getObj,Sem.run,h4]
  have auF:Rel F κ st a {w with drawn:=w.drawn+1}:=rel.drew
  have hnF:=(s.lt l _ b e2 (by simp[blk,hk,iY])).2
  have hblt:=(s.lt l _ b e2 (by simp[blk,hk,iY])).1
  have take:∀ (w1:World),w1.os=w.os→w1.tape=w.tape→w1.output=w.output→w1.heap=w.heap→w.drawn≤w1.drawn→∀ mm∈ms.filter (fun e:MapEntry=> !seen.toArray.contains e.born),
   ∃ w2,(setObj b (.mapIter (some bm) since (seen.toArray.push mm.born) c)).run E.P w1= .ok () w2∧wpList E.P ops R rest (a.put dst (.tuple #[.bool true,mm.key,mm.val])) w2:=fun w1 o1 o2 o3 o4 o5 mm hmm=>by
   obtain⟨e,he,r1,r2,r3⟩:=hleft mm hmm
   have hoth:∀ d,d≠b→(w1.heap.setIfInBounds b (.mapIter (some bm) since (seen.toArray.push mm.born) c))[d]? =w.heap[d]? :=fun d hd=>by rw[o4]; exact Array.getElem?_setIfInBounds_ne (fun h=>hd h.symm)
   have tZ:∀ d,F d→(w1.heap.setIfInBounds b (.mapIter (some bm) since (seen.toArray.push mm.born) c))[d]? =w.heap[d]? :=fun d hd=>hoth d fun e=>hnF (e ▸ hd)
   have hbl:∀ (a':Nat) (x':List Nat) (c':Nat),blk κ l (.iter m a' x' c')=some b:=fun a' x' c'=>by simp only[blk,hk,iY]
   refine⟨{w1 with heap:=w1.heap.setIfInBounds b (.mapIter (some bm) since (seen.toArray.push mm.born) c)},by simp[setObj,Sem.run,o4,h4],?_⟩
   refine hq _ F κ _ _ (n4 e he) ?_ ⟨Ev.oQ (w':={w1 with heap:=w1.heap.setIfInBounds b (.mapIter (some bm) since (seen.toArray.push mm.born) c)}) e2 (hbl _ _ _) (hbl _ _ _) o1 o2 o3 (by simp[o4]) hoth h0 (.inr fun _ _ _ h=>by cases h),o5⟩
   have hlen:l < st.heap.length:=(List.getElem?_eq_some_iff.1 e2).1
   have hsi:=s.oQ (w':={w1 with heap:=w1.heap.setIfInBounds b (.mapIter (some bm) since (seen.toArray.push mm.born) c)}) (o':= .iter m since (seen++ [e.2.2]) c) e2 (hbl _ _ _) (hbl _ _ _) (by simp[o4]) hoth
    ⟨b,bm,hk,h2,h3,by
     show(w1.heap.setIfInBounds b _)[b]? =_
     rw[Array.getElem?_setIfInBounds_self_of_lt (by rw[o4]; exact hblt),r3]; simp⟩
   have hval:RP F κ (st.heap.set l (.iter m since (seen++ [e.2.2]) c)).length {w1 with heap:=w1.heap.setIfInBounds b (.mapIter (some bm) since (seen.toArray.push mm.born) c)} (.t (.au [.bool true,e.1,e.2.1])) (.tuple #[.bool true,mm.key,mm.val]):=by
    refine .t (.au (vs:=[.bool true,mm.key,mm.val]) rfl fun i q r a1 a2=>?_)
    match i with
    |0=>simp at a1 a2; subst a1; subst a2; exact .bool
    |1=>simp at a1 a2; subst a1; subst a2; exact r1.mono (fun _ h=>h) tZ
    |2=>simp at a1 a2; subst a1; subst a2; exact r2.mono (fun _ h=>h) tZ
    |i+3=>simp at a1
   refine⟨by rw[Et,Ep]; exact rel.tl,Jc rel.tl (fun i q v a1 a2=>?_) hval dst,by rw[put_defers]; exact rel.dn,hsi⟩
   rw[List.length_set]
   exact(ht i q v a1 a2).mono (fun _ h=>h) tZ fun l hl=>⟨rfl,(ht i q v a1 a2).bound l hl⟩
  have hover:∀ (w1:World),w1.os=w.os→w1.tape=w.tape→w1.output=w.output→w1.heap=w.heap→w.drawn≤w1.drawn→Aj seen es= []→wpList E.P ops R rest (a.put dst (.tuple #[.bool false])) w1:=fun w1 o1 o2 o3 o4 o5 he=>by
   have hsi:SI F κ w1 st.heap:=⟨fun l o h=>(s.ro l o h).mono (fun _ h=>h) (fun b _=>by rw[o4]) (fun b _=>by rw[o4]) rfl (fun l' hl'=>⟨rfl,(s.ro l o h).bound l' hl'⟩),fun l o b h1 h2=>by rw[o4]; exact s.lt l o b h1 h2,s.ne,fun b hb=>by rw[o4]; exact s.fl b hb⟩
   refine hq _ F κ _ w1 (n3 he) ⟨by rw[Et,Ep]; exact rel.tl,Jc rel.tl (fun i q v a1 a2=>(ht i q v a1 a2).mono (fun _ h=>h) (fun b _=>by rw[o4]) fun l hl=>⟨rfl,(ht i q v a1 a2).bound l hl⟩) ?_ dst,by rw[put_defers]; exact rel.dn,hsi⟩ ⟨⟨o1,o2,o3,by rw[o4]; exact Nat.le_refl _,fun b _ _=>by rw[o4],fun _ h=>h,fun _ h=> .inl h,fun b h=> .inl h,h0,fun l o _ h1 h2=>⟨rfl,o,h1,h2⟩⟩,o5⟩
   refine .t (.au (vs:=[.bool false]) rfl fun i q r a1 a2=>?_)
   match i with
   |0=>simp at a1 a2; subst a1; subst a2; exact .bool
   |i+1=>simp at a1
  have hrun:∀ (nx:Act→World→Prop),(∀ w1:World,w1.os=w.os→w1.tape=w.tape→w1.output=w.output→w1.heap=w.heap→w.drawn≤w1.drawn→Aj seen es= []→nx (a.put dst (.tuple #[.bool false])) w1)→
   (∀ w1:World,w1.os=w.os→w1.tape=w.tape→w1.output=w.output→w1.heap=w.heap→w.drawn≤w1.drawn→∀ mm∈ms.filter (fun e:MapEntry=> !seen.toArray.contains e.born),∃ w2,(setObj b (.mapIter (some bm) since (seen.toArray.push mm.born) c)).run E.P w1= .ok () w2∧nx (a.put dst (.tuple #[.bool true,mm.key,mm.val])) w2)→
   Oper.wp E.P ⟨dst,.next x false,type,pos,after,none⟩ a w nx R:=fun nx hn1 hn2=>by
   have fin:∀ (w1:World) (i:Nat),w1.os=w.os→w1.tape=w.tape→w1.output=w.output→w1.heap=w.heap→w.drawn≤w1.drawn→
    (i < ((if (ms.filter fun e:MapEntry=> !seen.toArray.contains e.born).isEmpty then #[none] else #[])++(ms.filter fun e:MapEntry=> !seen.toArray.contains e.born).map some).size)→
    ∃ u w2,((match ((if (ms.filter fun e:MapEntry=> !seen.toArray.contains e.born).isEmpty then #[none] else #[])++(ms.filter fun e:MapEntry=> !seen.toArray.contains e.born).map some)[i]? with
     |some (some e)=>do setObj b (.mapIter (some bm) since (seen.toArray.push e.born) c); pure (.tuple #[.bool true,e.key,e.val])
     |some none=>pure (.tuple #[.bool false])
     |none=>stuck "Next: no such candidate" :Sem Value).run E.P w1)= .ok u w2∧nx (a.put dst u) w2:=fun w1 i o1 o2 o3 o4 o5 hi=>by
    generalize hL:(ms.filter fun e:MapEntry=> !seen.toArray.contains e.born)=L at hi hn2 hempty ⊢
    cases hLe:L.isEmpty with
    |true=>
     have:L= #[]:=by simpa using hLe
     subst this
     simp only[Array.isEmpty_empty,if_true,Array.map_empty,Array.append_empty] at hi ⊢
     obtain rfl:i=0:=by simpa using hi
     exact⟨_,w1,rfl,hn1 w1 o1 o2 o3 o4 o5 (hempty rfl)⟩
    |false=>
     simp only[hLe,Bool.false_eq_true,if_false,Array.empty_append,Array.size_map] at hi ⊢
     have hg:(L.map some)[i]? =some (some L[i]):=by simp[hi]
     rw[hg]
     obtain⟨w2,q1,q2⟩:=hn2 w1 o1 o2 o3 o4 o5 L[i] (Array.getElem_mem hi)
     exact⟨_,w2,by simp only[Sem.run_bind,q1,Result.andThen_ok,Sem.run_pure],q2⟩
   have hpos:0 < ((if (ms.filter fun e:MapEntry=> !seen.toArray.contains e.born).isEmpty then #[none] else #[])++(ms.filter fun e:MapEntry=> !seen.toArray.contains e.born).map some).size:=by
    cases hLe:(ms.filter fun e:MapEntry=> !seen.toArray.contains e.born).isEmpty with
    |true=>simp; omega
    |false=>simp at hLe ⊢; simpa[Array.size_pos_iff] using hLe
   have akc:(execOp a.eval ⟨dst,.next x false,type,pos,after,none⟩).run E.P w=((do
    let i ←choose (.mapNext ((if (ms.filter fun e:MapEntry=> !seen.toArray.contains e.born).isEmpty then #[none] else #[])++(ms.filter fun e:MapEntry=> !seen.toArray.contains e.born).map some).size)
    let u ←(match ((if (ms.filter fun e:MapEntry=> !seen.toArray.contains e.born).isEmpty then #[none] else #[])++(ms.filter fun e:MapEntry=> !seen.toArray.contains e.born).map some)[i]? with
     |some (some e)=>do setObj b (.mapIter (some bm) since (seen.toArray.push e.born) c); pure (.tuple #[.bool true,e.key,e.val])
     |some none=>pure (.tuple #[.bool false])
     |none=>stuck "Next: no such candidate" :Sem Value)
    pure (.value u):Sem Next)).run E.P w:=by
    simp only[execOp,hve,Instr.next,Sem.run_bind,hgi,Result.andThen_ok,MapKept.run_getObj_map g2,hcond,Bool.false_eq_true,if_false,hold,hnew,Array.append_empty]
    generalize (choose (.mapNext ((if (ms.filter fun e:MapEntry=> !seen.toArray.contains e.born).isEmpty then #[none] else #[])++(ms.filter fun e:MapEntry=> !seen.toArray.contains e.born).map some).size)).run E.P w=r
    cases r<;>rfl
   generalize auE:((if (ms.filter fun e:MapEntry=> !seen.toArray.contains e.born).isEmpty then #[none] else #[])++(ms.filter fun e:MapEntry=> !seen.toArray.contains e.born).map some)=cand at akc fin hpos
   have pick:∃ (i:Nat) (w1:World),(choose (.mapNext cand.size)).run E.P w= .ok i w1∧i < cand.size∧w1.os=w.os∧w1.tape=w.tape∧w1.output=w.output∧w1.heap=w.heap∧w.drawn≤w1.drawn:=by
    rw[run_choose]
    by_cases hf:(Question.mapNext cand.size).forced=true
    · exact⟨0,w,by rw[if_pos hf],hpos,rfl,rfl,rfl,rfl,Nat.le_refl _⟩
    · exact⟨w.tape w.drawn (.mapNext cand.size) % cand.size,{w with drawn:=w.drawn+1},by rw[if_neg hf]; rfl,Nat.mod_lt _ hpos,rfl,rfl,rfl,rfl,Nat.le_succ _⟩
   obtain⟨i,w1,p1,p2,p3,p4,p5,p6,p7⟩:=pick
   obtain⟨u,w2,q1,q2⟩:=fin w1 i p3 p4 p5 p6 p7 p2
   refine dK (u:=u) (w':=w2) ?_ (fun _=>q2)
   rw[akc]
   simp only[Sem.run_bind,p1,Result.andThen_ok,q1,Sem.run_pure]
  exact .inl (hrun _ hover take)
 ·
  rename_i x hgd hop
  simp only[] at hgd hop h
  subst hgd; subst hop
  obtain⟨l,m,since,seen,es,c,n,e,e1,e2,e3,e4,hQ⟩:=h
  have hv:=iP rel.tl ht e1
  generalize hve:a.eval x=v at hv
  cases hv with
  | @ptr _ _ b hN hk=>
  obtain⟨b',bm,h1,h2,h3,h4⟩:=s.ro l _ e2
  rw[hk] at h1
  injection h1 with h1
  injection h1 with h1
  injection h1 with h1
  subst h1
  obtain⟨bm',ms,g1,g2,g3,g4⟩:=s.ro m _ e3
  rw[h2] at g1
  injection g1 with g1
  injection g1 with g1
  subst g1
  obtain⟨mm,f1,f2,f3⟩:=KN (es:=es) (ms:=ms.toList) (by simpa using g3) (fun i x y a b=>g4 i x y a (by simpa using b)) e4
  rw[Array.find?_toList] at f1
  have hval:RP F κ st.heap.length w (.t (.au [e.1,e.2.1])) (.tuple #[mm.key,mm.val]):=by
   refine .t (.au (vs:=[mm.key,mm.val]) rfl fun i q r a1 a2=>?_)
   match i with
   |0=>simp at a1 a2; subst a1; subst a2; exact f2
   |1=>simp at a1 a2; subst a1; subst a2; exact f3
   |i+2=>simp at a1
  have hgi:(getObj b).run E.P w= .ok (.mapIter (some bm) since (seen++ [n]).toArray c) w:=by simp[getObj,Sem.run,h4]
  have hbk:((seen++ [n]).toArray:Array Nat).back? =some n:=by simp
  simp only[wpList]
  rw[if_pos (by rfl)]
  refine .inl (dK (u:= .tuple #[mm.key,mm.val]) (w':=w) ?_ (fun _=>hq _ _ _ _ _ hQ ((Next'.same (N0:=base) h0 s ht hval).rel rel _) (mX.refl h0)))
  simp only[execOp,hve,Instr.entry,Sem.run_bind,hgi,Result.andThen_ok,hbk,MapKept.run_getObj_map g2,bne_self_eq_false,Bool.false_eq_true,if_false,f1,Sem.run_pure]
 ·
  rename_i g args tys hgd hop
  rcases h with h|h
  · simp only[] at hgd hop h
    subst hgd; subst hop
    obtain⟨l,e,k,xs,rs,R',e1,e2,e3,e4,hQ⟩:=h
    obtain⟨a1,a2⟩:=zk rel.tl ht e1
    simp only[wpList]
    rw[if_pos (by rfl)]
    refine .inl ?_
    unfold Oper.wp
    rw[show execOp a.eval ⟨dst,.call ⟨.value (.func g),args,tys⟩,type,pos,after,none⟩=callFunc g (args.map a.eval) by simp[execOp,resolve,Act.eval,Deferred.ofValue,invoke]]
    cases hm:args.toList.map a.eval with
    |nil=>rw[List.map_eq_nil_iff] at hm; rw[hm] at a1; simp at a1
    |cons v vals=>
     rw[hm] at a2
     have hv:=a2 0 _ v rfl rfl
     have hlen:=congrArg List.length hm
     simp only[List.length_map,List.length_cons,Array.length_toList] at hlen a1
     have hvk:κ l=v:=by cases hv with|own hN hk=>exact hk
     have hargs:args.map a.eval=(κ l::vals).toArray:=by rw[hvk,←hm,←Array.toList_map]
     rw[hargs]
     refine(acP (N0:=base) (tm:=a.tmps) e4 h0 s ht e2 e3 (by omega) (fun i x v b1 b2=>?_)).upon fun v w'=>?_
     · have:=a2 (i+1) (.t x) v (by simp[b1]) (by simpa using b2)
       cases this with|t h=>exact h
     · rintro⟨rfl,ys,hR,hn⟩ hdr
       exact hq _ F κ _ w' (hQ ys hR) (hn.rel rel _) ⟨hn.ev,hdr⟩
  · exact plain h
 · exact plain h
end
end
section
open Go.RowKit
section
variable {E:Env} {rc:Caller} {f:FuncId} {fn:Func} {base:Nat} {ops:Array Oper}
theorem Lm (hc:fG E rc) {R:Exit→Act→World→Prop}:∀ {l:List Oper} {st:St} {Q:St→Prop} {F:Nat→Prop} {κ:Nat→Value} {a:Act} {w:World},Cj E rc ops l st Q→base≤st.heap.length→Rel F κ st a w→
 (∀ st' F' κ' a' w',Q st'→Rel F' κ' st' a' w'→mX base F κ w st.heap F' κ' w' st'.heap→R .normal a' w')→wpList E.P ops R l a w
 | [],st,Q,F,κ,a,w,h,h0,rel,hq=>hq st F κ a w h rel (mX.refl h0)
 |o::r,st,Q,F,κ,a,w,h,h0,rel,hq=>by
  refine Ig (base:=base) hc h h0 rel fun st' F' κ' a' w' h1 r1 ev1=>?_
  exact Lm hc h1 ev1.hl r1 fun st2 F2 κ2 a2 w2 h2 r2 zB=>hq st2 F2 κ2 a2 w2 h2 r2 (ev1.trans zB)
theorem mM (hm:E.P.follows .mixedOrders=true) (hc:fG E rc):∀ (c:Code) (st:St) (Q:Ex→St→Prop) (F:Nat→Prop) (κ:Nat→Value) (a:Act) (w:World) (R:Exit→Act→World→Prop),
 ig E rc f fn base c st Q→base≤st.heap.length→Rel F κ st a w→(∀ e st' F' κ' a' w',Q e st'→Rel F' κ' st' a' w'→mX base F κ w st.heap F' κ' w' st'.heap→R e.out a' w')→c.wp E.P R a w
 | .skip,st,Q,F,κ,a,w,R,h,hb,rel,hq=>Go.wp_skip (hq .norm st F κ a w h rel (mX.refl hb))
 | .region id ops dr,st,Q,F,κ,a,w,R,h,hb,rel,hq=>by
  simp only[ig] at h
  rcases h with h|h
  rotate_left
  · exact h base F κ a w R hb rel fun st' F' κ' a' w' h1 r1 ev1=>hq .norm st' F' κ' a' w' h1 r1 ev1
  cases dr with
  |true=>
   simp only[cond_true] at h
   obtain⟨g1,st1,e1,hQ⟩:=h
   refine Di (N0:=base) (K:=fun s=>(.ok s:ah St)) hm hc g1 (by rw[e1]; simp) hb rel fun st' F' κ' a' w' e r ev=>?_
   rw[e1] at e
   injection e with e
   subst e
   exact hq .norm _ F' κ' a' w' hQ r ev
  |false=>
   simp only[cond_false] at h
   exact wp_region_list (Lm (base:=base) hc h hb rel fun st' F' κ' a' w' h1 r1 ev1=>hq .norm st' F' κ' a' w' h1 r1 ev1)
 | .seq x y,st,Q,F,κ,a,w,R,h,hb,rel,hq=>by
  simp only[ig] at h
  refine wp_seq (mM hm hc x st _ F κ a w _ h hb rel fun e st' F' κ' a' w' e1 r1 ev1=>?_)
  cases e with
  |norm=>exact mM hm hc y st' Q F' κ' a' w' R e1 ev1.hl r1 fun e2 st2 F2 κ2 a2 w2 e3 r2 zB=>hq e2 st2 F2 κ2 a2 w2 e3 r2 (ev1.trans zB)
  |exit i=>exact hq (.exit i) st' F' κ' a' w' e1 r1 ev1
  |ret=>exact hq .ret st' F' κ' a' w' e1 r1 ev1
 | .cond c x y,st,Q,F,κ,a,w,R,h,hb,rel,hq=>by
  simp only[ig] at h
  obtain⟨b,e1,e2⟩:=h
  have hv:=iP rel.tl rel.tr e1
  generalize hv':a.eval c=v at hv
  cases hv with
  |t hv=>
  cases hv with
  |bool=>
  refine wp_cond hv' ?_
  cases b with
  |true=>exact mM hm hc x st Q F κ a w R e2 hb rel hq
  |false=>exact mM hm hc y st Q F κ a w R e2 hb rel hq
 | .block id c,st,Q,F,κ,a,w,R,h,hb,rel,hq=>by
  simp only[ig] at h
  refine wp_block (mM hm hc c st _ F κ a w _ h hb rel fun e st' F' κ' a' w' e1 r1 ev1=>?_)
  cases e with
  |norm=>exact hq .norm st' F' κ' a' w' e1 r1 ev1
  |exit i=>
   simp only[Ex.out,Exit.inBlock]
   simp only[Ex.kP] at e1
   by_cases hi:i=id
   · rw[if_pos hi] at e1 ⊢; exact hq .norm st' F' κ' a' w' e1 r1 ev1
   · rw[if_neg hi] at e1 ⊢; exact hq (.exit i) st' F' κ' a' w' e1 r1 ev1
  |ret=>exact hq .ret st' F' κ' a' w' e1 r1 ev1
 | .loop c,st,Q,F,κ,a,w,R,h,hb,rel,hq=>by
  simp only[ig] at h
  obtain⟨I,⟨n,hI⟩,step⟩:=h
  obtain⟨κ1,akY,ev1⟩:=mJ (live:=(E.hint f (bG c)).1) rel hb
  have main:∀ (k n:Nat) (st1:St) (F1:Nat→Prop) (κ1:Nat→Value) (a1:Act) (w1:World),n < k→I n st1→Rel F1 κ1 st1 a1 w1→mX base F κ w st.heap F1 κ1 w1 st1.heap→Code.rounds E.P c R k a1 w1:=by
   intro k
   induction k with
   |zero=>intro n st1 F1 κ1 a1 w1 hn; exact absurd hn (Nat.not_lt_zero _)
   |succ k ih=>
    intro n st1 F1 κ1 a1 w1 hn hI r1 ev1
    rw[rounds_succ]
    refine mM hm hc c st1 _ F1 κ1 a1 w1 _ (step n st1 hI) ev1.hl r1 fun e st' F' κ' a' w' e1 r2 zB=>?_
    cases e with
    |norm=>
     obtain⟨m,hm2,hI2⟩:=e1
     obtain⟨κ2,Cm,ev3⟩:=mJ (base:=base) (live:=(E.hint f (bG c)).1) r2 zB.hl
     exact ih m _ F' κ2 a' w' (by omega) hI2 Cm (ev1.trans (zB.trans ev3))
    |exit i=>
     obtain⟨κ2,Cm,ev3⟩:=mJ (base:=base) (live:=(E.hint f (bG c)).2) r2 zB.hl
     exact hq (.exit i) _ F' κ2 a' w' e1 Cm (ev1.trans (zB.trans ev3))
    |ret=>
     obtain⟨κ2,Cm,ev3⟩:=mJ (base:=base) (live:=lD fn) r2 zB.hl
     exact hq .ret _ F' κ2 a' w' e1 Cm (ev1.trans (zB.trans ev3))
  exact wp_loop_rounds (n+1) (main (n+1) n _ F κ1 a w (by omega) hI akY ev1)
 | .exit id,st,Q,F,κ,a,w,R,h,hb,rel,hq=>wp_exit (hq (.exit id) st F κ a w h rel (mX.refl hb))
 | .scope c,st,Q,F,κ,a,w,R,h,hb,rel,hq=>by
  simp only[ig] at h
  refine wp_scope_straight (mM hm hc c st Q F κ a w _ h hb rel fun e st' F' κ' a' w' e1 r1 ev1=>?_)
  have:=hq e st' F' κ' a' w' e1 r1 ev1
  cases e<;>exact this
 | .label l,st,Q,F,κ,a,w,R,h,hb,rel,hq=>wp_label (hq .norm st F κ a w h rel (mX.refl hb))
 | .ret,st,Q,F,κ,a,w,R,h,hb,rel,hq=>wp_ret (hq .ret st F κ a w h rel (mX.refl hb))
 | .rangeFunc ..,st,Q,F,κ,a,w,R,h,hb,rel,hq=>h.elim
 | .goto ..,st,Q,F,κ,a,w,R,h,hb,rel,hq=>h.elim
 | .refuse ..,st,Q,F,κ,a,w,R,h,hb,rel,hq=>h.elim
end
end
section
open Go.RowKit
section
variable {E:Env} {rc:Caller} {f:FuncId} {fn:Func} {n base:Nat} {ops:Array Oper}
theorem bQ {α β:Type} {r:ah α} {K:α→ah β} {z:β} (h:r.bind K= .ok z):∃ x,r= .ok x∧K x= .ok z:=by
 cases r with
 |ok x=>exact⟨x,rfl,h⟩
 |_=>cases h
theorem I4 (hrc:rc.Nat) {β:Type} {l:List (Oper×Bool)} {st:St} {K:St→ah β} {z:β} (h:bn E rc ops l st K= .ok z):∃ st',bn E rc ops l st (fun s=>(.ok s:ah St))= .ok st'∧K st'= .ok z:=by
 have:=nN (E:=E) (Strict.bind (β:=St) K) hrc ops l st fun s=> .ok s
 simp only[ah.bind_ok] at this
 rw[←this] at h
 exact bQ h
theorem zT (hrc:rc.Nat) {β:Type} {c:Code} {st:St} {K:Ex→St→ah β} {z:β} (h:dA E rc f fn n base c st K= .ok z):∃ e st',dA E rc f fn n base c st (fun e s=>(.ok (e,s):ah (Ex×St)))= .ok (e,st')∧K e st'= .ok z:=by
 have:=kT (E:=E) (f:=f) (fn:=fn) (n:=n) (base:=base) hrc c (Strict.bind (β:=Ex×St) fun p=>K p.1 p.2) st fun e s=> .ok (e,s)
 simp only[ah.bind_ok] at this
 rw[←this] at h
 obtain⟨⟨e,s⟩,h1,h2⟩:=bQ h
 exact⟨e,s,h1,h2⟩
theorem Ey {o:Oper} {st st':St} {Q:St→Prop} (h:bn E rc ops [(o,false)] st (fun s=>(.ok s:ah St))= .ok st') (hQ:Q st'):stepD E rc ops o st Q:=by
 unfold stepD
 split
 · rename_i t x hgd hop
   rw[dN] at h
   unfold guardOf at h
   rw[hgd] at h
   obtain⟨dst,op,type,pos,after,guard⟩:=o
   simp only[] at hop
   subst hop
   cases h
 · rename_i x hgd hop
   rw[dN] at h
   unfold guardOf at h
   rw[hgd] at h
   obtain⟨dst,op,type,pos,after,guard⟩:=o
   simp only[] at hop
   subst hop
   cases h
 · rename_i x hgd hop
   rw[dN] at h
   unfold guardOf at h
   rw[hgd] at h
   obtain⟨dst,op,type,pos,after,guard⟩:=o
   simp only[] at hop
   subst hop
   cases h
 · exact .inr ⟨st',h,hQ⟩
 · exact⟨st',h,hQ⟩
theorem IX (hrc:rc.Nat):∀ {l:List Oper} {st st':St} {Q:St→Prop},bn E rc ops (l.map fun o=>(o,false)) st (fun s=>(.ok s:ah St))= .ok st'→Q st'→Cj E rc ops l st Q
 | [],st,st',Q,h,hQ=>by
  simp only[List.map_nil,bn,ah.ok.injEq] at h
  subst h
  exact hQ
 |o::r,st,st',Q,h,hQ=>by
  rw[List.map_cons,vP hrc] at h
  obtain⟨st1,h1,h2⟩:=bQ h
  exact Ey h1 (IX hrc h2 hQ)
theorem qL (hrc:rc.Nat):∀ (c:Code) {st st':St} {e:Ex} {Q:Ex→St→Prop},dA E rc f fn n base c st (fun e s=>(.ok (e,s):ah (Ex×St)))= .ok (e,st')→Q e st'→ig E rc f fn base c st Q
 | .skip,st,st',e,Q,h,hQ=>by
  simp only[dA,ah.ok.injEq,Prod.mk.injEq] at h
  obtain⟨rfl,rfl⟩:=h
  exact hQ
 | .region id ops dr,st,st',e,Q,h,hQ=>by
  simp only[dA] at h
  simp only[ig]
  cases dr with
  |true=>
   simp only[cond_true] at h ⊢
   cases hd:sJ ops with
   |false=>rw[hd] at h; cases h
   |true=>
    rw[hd] at h
    simp only[cond_true] at h
    obtain⟨s1,h1,h2⟩:=I4 hrc h
    simp only[ah.ok.injEq,Prod.mk.injEq] at h2
    obtain⟨rfl,rfl⟩:=h2
    exact .inl ⟨rfl,s1,h1,hQ⟩
  |false=>
   simp only[cond_false] at h ⊢
   obtain⟨s1,h1,h2⟩:=I4 hrc h
   simp only[ah.ok.injEq,Prod.mk.injEq] at h2
   obtain⟨rfl,rfl⟩:=h2
   exact .inl (IX hrc h1 hQ)
 | .seq a b,st,st',e,Q,h,hQ=>by
  simp only[dA] at h
  simp only[ig]
  obtain⟨e1,s1,h1,h2⟩:=zT hrc h
  refine qL hrc a h1 ?_
  cases e1 with
  |norm=>exact qL hrc b h2 hQ
  |exit i=>
   simp only[Ex.k,ah.ok.injEq,Prod.mk.injEq] at h2
   obtain⟨rfl,rfl⟩:=h2
   exact hQ
  |ret=>
   simp only[Ex.k,ah.ok.injEq,Prod.mk.injEq] at h2
   obtain⟨rfl,rfl⟩:=h2
   exact hQ
 | .cond c a b,st,st',e,Q,h,hQ=>by
  simp only[dA] at h
  simp only[ig]
  obtain⟨p,e1,e2⟩:=aB (by rw[h]; simp)
  rw[e2] at h
  cases p with
  |t x=>
   cases x with
   |bool v=>
    refine⟨v,e1,?_⟩
    simp only[bT] at h
    cases v with
    |true=>exact qL hrc a h hQ
    |false=>exact qL hrc b h hQ
   |_=>cases h
  |_=>cases h
 | .block id c,st,st',e,Q,h,hQ=>by
  simp only[dA] at h
  simp only[ig]
  obtain⟨e1,s1,h1,h2⟩:=zT hrc h
  refine qL hrc c h1 ?_
  cases e1 with
  |norm=>
   simp only[Ex.k,ah.ok.injEq,Prod.mk.injEq] at h2
   obtain⟨rfl,rfl⟩:=h2
   exact hQ
  |exit i=>
   simp only[Ex.k] at h2
   simp only[Ex.kP]
   by_cases hi:i=id
   · rw[if_pos hi] at h2 ⊢
     simp only[ah.ok.injEq,Prod.mk.injEq] at h2
     obtain⟨rfl,rfl⟩:=h2
     exact hQ
   · rw[if_neg hi] at h2 ⊢
     simp only[ah.ok.injEq,Prod.mk.injEq] at h2
     obtain⟨rfl,rfl⟩:=h2
     exact hQ
  |ret=>
   simp only[Ex.k,ah.ok.injEq,Prod.mk.injEq] at h2
   obtain⟨rfl,rfl⟩:=h2
   exact hQ
 | .loop c,st,st',e,Q,h,hQ=>by
  simp only[dA] at h
  simp only[ig]
  obtain⟨⟨e0,s0⟩,h1,h2⟩:=bQ h
  simp only[ah.ok.injEq,Prod.mk.injEq] at h2
  obtain⟨rfl,rfl⟩:=h2
  refine⟨fun k s=>bF (fun st=>dA E rc f fn n base c st fun e st=>e.k (.ok (.norm,canon base (E.hint f (bG c)).1 st))
   (fun i=> .ok (.exit i,canon base (E.hint f (bG c)).2 st)) (.ok (.ret,canon base (lD fn) st))) k s= .ok (e0,s0),⟨n,h1⟩,fun k s hk=>?_⟩
  cases k with
  |zero=>cases hk
  |succ k=>
   simp only[bF] at hk
   obtain⟨⟨e1,s1⟩,h3,h4⟩:=bQ hk
   obtain⟨e2,s2,h5,h6⟩:=zT hrc h3
   refine qL hrc c h5 ?_
   cases e2 with
   |norm=>
    simp only[Ex.k,ah.ok.injEq,Prod.mk.injEq] at h6
    obtain⟨rfl,rfl⟩:=h6
    exact⟨k,Nat.lt_succ_self k,h4⟩
   |exit i=>
    simp only[Ex.k,ah.ok.injEq,Prod.mk.injEq] at h6
    obtain⟨rfl,rfl⟩:=h6
    simp only[Ex.k,ah.ok.injEq,Prod.mk.injEq] at h4
    obtain⟨rfl,rfl⟩:=h4
    exact hQ
   |ret=>
    simp only[Ex.k,ah.ok.injEq,Prod.mk.injEq] at h6
    obtain⟨rfl,rfl⟩:=h6
    simp only[Ex.k,ah.ok.injEq,Prod.mk.injEq] at h4
    obtain⟨rfl,rfl⟩:=h4
    exact hQ
 | .exit id,st,st',e,Q,h,hQ=>by
  simp only[dA,ah.ok.injEq,Prod.mk.injEq] at h
  obtain⟨rfl,rfl⟩:=h
  exact hQ
 | .scope c,st,st',e,Q,h,hQ=>by
  simp only[dA] at h
  simp only[ig]
  exact qL hrc c h hQ
 | .label l,st,st',e,Q,h,hQ=>by
  simp only[dA,ah.ok.injEq,Prod.mk.injEq] at h
  obtain⟨rfl,rfl⟩:=h
  exact hQ
 | .ret,st,st',e,Q,h,hQ=>by
  simp only[dA,ah.ok.injEq,Prod.mk.injEq] at h
  obtain⟨rfl,rfl⟩:=h
  exact hQ
 | .rangeFunc ..,st,st',e,Q,h,hQ=>by cases h
 | .goto ..,st,st',e,Q,h,hQ=>by cases h
 | .refuse ..,st,st',e,Q,h,hQ=>by cases h
end
end
section
open Go.RowKit
def AZ (E:Env) (fn:Func) (R:PV→List aj→Prop) (st:St):Prop:=∃ r H',iZ E st fn.results.toList (fun ps=>(.ok (wY ps,st.heap):ah (PV×List aj)))= .ok (r,H')∧R r H'
def O4 (E:Env) (rc:Caller) (f:FuncId) (args:List PV) (H:List aj) (R:PV→List aj→Prop):Prop:=match E.P.funcs[f]? with
 |some fn=>(match fn.body with
  |some c=>ig E rc f fn H.length c ⟨args++List.replicate (fn.ntmps - args.length) dY,H⟩ fun e st=>e.kP (AZ E fn R st) (fun _=>False) (AZ E fn R st)
  |none=>False)
 |none=>False
section
variable {E:Env} {rc:Caller} {F:Nat→Prop} {κ:Nat→Value} {w:World}
theorem YW (he:nK E) (hc:fG E rc) {f:FuncId} {args:List PV} {H:List aj} {R:PV→List aj→Prop} (h:O4 E rc f args H R) {vals:List Value} (hl:vals.length=args.length)
 (ha:∀ (i:Nat) (p:PV) (v:Value),args[i]? =some p→vals[i]? =some v→RP F κ H.length w p v) (s:SI F κ w H):
 (∃ fn c,E.P.funcs[f]? =some fn∧fn.body=some c)∧Calls E.P f vals.toArray w fun e w'=>∃ v,e= .returned v∧∃ r H' F' κ',R r H'∧RP F' κ' H'.length w' r v∧SI F' κ' w' H'∧mX H.length F κ w H F' κ' w' H':=by
 unfold O4 at h
 cases hf:E.P.funcs[f]? with
 |none=>simp[hf] at h
 |some fn=>
  simp only[hf] at h
  cases hb:fn.body with
  |none=>simp[hb] at h
  |some c=>
   simp only[hb] at h
   refine⟨⟨fn,c,rfl,hb⟩,calls_of_wp hf hb ?_⟩
   have rel:Rel F κ ⟨args++List.replicate (fn.ntmps - args.length) dY,H⟩ {tmps:=vals.toArray++Array.replicate (fn.ntmps - vals.toArray.size) undef,defers:=[]} w:=by
    refine⟨by simp[hl],fun i p v g1 g2=>?_,rfl,s⟩
    simp only[] at g1 g2 ⊢
    rcases Nat.lt_or_ge i args.length with h1|h1
    · rw[List.getElem?_append_left h1] at g1
      rw[Array.getElem?_append_left (by simpa[hl] using h1)] at g2
      exact ha i p v g1 (by simpa using g2)
    · rw[List.getElem?_append_right h1] at g1
      rw[Array.getElem?_append_right (by simpa[hl] using h1)] at g2
      have g3:=List.mem_of_getElem? g1
      have g4:=Array.mem_of_getElem? g2
      rw[List.mem_replicate] at g3
      rw[Array.mem_replicate] at g4
      rw[g3.2,g4.2]
      exact kW
   have fin:∀ (st':St) (F':Nat→Prop) (κ':Nat→Value) (a':Act) (w':World),AZ E fn R st'→Rel F' κ' st' a' w'→mX H.length F κ w H F' κ' w' st'.heap→
    a'.defers= []∧∃ v,(results fn a'.tmps).run E.P w'= .ok v w'∧∃ v',Ending.returned v= .returned v'∧∃ r H' F' κ',R r H'∧RP F' κ' H'.length w' r v'∧SI F' κ' w' H'∧mX H.length F κ w H F' κ' w' H':=by
    intro st' F' κ' a' w' hne r1 ev1
    obtain⟨r,H',h1,h2⟩:=hne
    obtain⟨ps,vs,e1,e2,e3,e4⟩:=qY (K:=fun ps=>(.ok (wY ps,st'.heap):ah (PV×List aj))) r1 (by rw[h1]; simp)
    have hres:(results fn a'.tmps).run E.P w'= .ok (if h:vs.length=1 then vs[0] else .tuple vs.toArray) w':=by
     show(do let vs ←fn.results.mapM (Jw a'.tmps); pure (if h:vs.size=1 then vs[0] else .tuple vs):Sem Value).run E.P w'=_
     rw[Array.mapM_eq_mapM_toList]
     simp only[Sem.run_bind,map_eq_pure_bind,e2,Result.andThen_ok,Sem.run_pure,List.size_toArray]
     split<;>rfl
    rw[h1] at e1
    injection e1 with e1
    injection e1 with e5 e6
    subst e5; subst e6
    exact⟨r1.dn,_,hres,_,rfl,_,st'.heap,F',κ',h2,H8 e3 e4,r1.si,ev1⟩
   refine mM he.mixed hc c _ _ F κ _ w _ h (Nat.le_refl _) rel fun e st' F' κ' a' w' e1 r1 ev1=>?_
   cases e with
   |norm=>exact fin st' F' κ' a' w' e1 r1 ev1
   |exit i=>exact e1.elim
   |ret=>exact fin st' F' κ' a' w' e1 r1 ev1
theorem Qp (he:nK E) {f:FuncId} {G:List T→ah T} (hG:∀ ts,T.wfs ts=true→G ts≠ .stuck→∃ N x,G ts= .ok x∧O4 E (aJ E N) f (ts.map .t) [] fun r H'=>aW E f r H'= .ok x):
 ∀ ts,G ts≠ .stuck→∀ (F:Nat→Prop) (w:World) (vals:List Value),vals.length=ts.length→(∀ (i:Nat) (x:T) (v:Value),ts[i]? =some x→vals[i]? =some v→Rd F w x v)→
 (∀ b,F b→b < w.heap.size)→Invokes E.P f vals.toArray w fun v w'=>∃ x F',G ts= .ok x∧Out E f F' w.heap.size w' x v∧Grown F w F' w':=by
 intro ts h F w vals hl ha hfl
 have hwf:T.wfs ts=true:=T.nC.2 fun x hx=>by
  obtain⟨i,hi,rfl⟩:=List.getElem_of_mem hx
  exact(ha i _ _ (List.getElem?_eq_getElem hi) (List.getElem?_eq_getElem (by omega))).wf
 obtain⟨N,x,h1,h2⟩:=hG ts hwf h
 obtain⟨n1,n2⟩:=yM he N
 have hc:fG E (aJ E N):=tY he n1 n2
 obtain⟨g1,g2⟩:=YW (F:=F) (κ:=fun _=>undef) (w:=w) he hc h2 (vals:=vals) (by simpa using hl) (fun i p v a b=>by
  rw[List.getElem?_map,Option.map_eq_some_iff] at a
  obtain⟨x,a,rfl⟩:=a
  exact .t (ha i x v a b)) ⟨by simp,by simp,by simp,hfl⟩
 refine oM he g1 (Calls.mono g2 fun e w'=>?_)
 rintro⟨v,rfl,r,H',F',κ',e1,e2,e3,e4⟩
 refine⟨v,rfl,?_⟩
 obtain⟨x',F2,q1,q2,q3⟩:=Lr hfl (by rw[e1]; simp) e2 e3 e4.toEv
 rw[e1] at q1
 injection q1 with q1
 subst q1
 exact⟨⟨x,F2,h1,q2,q3⟩,e4.drawn⟩
end
theorem Out.env {E E':Env} {f:FuncId} {F:Nat→Prop} {B:Nat} {w:World} {x:T} {v:Value} (hP:E'.P=E.P) (hm:E'.mode f=E.mode f) (h:Out E f F B w x v):Out E' f F B w x v:=by
 have hr:lu E' f=lu E f:=by unfold lu; rw[hP]
 have hn:sZ E' f=sZ E f:=by unfold sZ; rw[hP]
 cases h with
 |frozen h1 h2=>exact .frozen (hm.trans h1) h2
 |row h1 h2 h3 h4=>exact .row (hm.trans h1) (hr.trans h2) h3 h4
 |au h1 h2 h3 h4 h5 h6 h7=>exact .au (by rw[hm]; exact h1) (hr.trans h2) h3 h4 (hn ▸ h5) h6 h7
def xK (E:Env) (f:FuncId) (e:List T→ah T):Prop:=∀ ts,e ts≠ .stuck→∀ (F:Nat→Prop) (w:World) (vals:List Value),vals.length=ts.length→(∀ (i:Nat) (x:T) (v:Value),ts[i]? =some x→vals[i]? =some v→Rd F w x v)→
 (∀ b,F b→b < w.heap.size)→Invokes E.P f vals.toArray w fun v w'=>∃ x F',e ts= .ok x∧Out E f F' w.heap.size w' x v∧Grown F w F' w'
theorem xK.env {E E':Env} {f:FuncId} {e:List T→ah T} (hP:E'.P=E.P) (hm:E'.mode f=E.mode f) (h:xK E f e):xK E' f e:=fun ts hne F w vals hl ha hfl=>by
 have:=h ts hne F w vals hl ha hfl
 rw[←hP] at this
 exact this.mono fun v w' ⟨x,F',h1,h2,h3⟩=>⟨x,F',h1,h2.env hP hm,h3⟩
end
section
open Go.RowKit
def Iw (r:Nat):Code→Option ((Array Oper×Bool)×List Frm)
 | .region id ops dr=>bif Nat.beq id r then some ((ops,dr),[]) else none
 | .seq a b=>match Iw r a with
  |some (o,fs)=>some (o,fs++ [.seq b])
  |none=>Iw r b
 | .block id c=>match Iw r c with
  |some (o,fs)=>some (o,fs++ [.block id])
  |none=>none
 | .scope c=>Iw r c
 | .cond _ a b=>match Iw r a with
  |some x=>some x
  |none=>Iw r b
 |_=>none
section
variable {β:Type} (E:Env) (n:Nat) (f:FuncId) (base:Nat)
def aks (fn:Func) (c:Code) (r j:Nat) (st0:St) (args:List PV) (KE:Ex→St→ah β):PV→List aj→ah β:=match Iw r c with
 |some ((ops,dr),fs)=>fun p H'=>IE p ⟨PV.kills ((exposed args st0.heap).contains ·) st0.tmps,tu (exposed args st0.heap) st0.heap H'⟩ fun p st=>
  bn E (aJ E n) ops ((bif dr then dG ops else ops.toList.map fun o=>(o,false)).drop (j+1)) ⟨dL st.tmps ((ops[j]?).bind (·.dst)) p,st.heap⟩ fun st=>qG E (aJ E n) f fn n base fs KE .norm st
 |none=>fun _ _=> .stuck
def auC (r j:Nat) (K:PV→List aj→ah β) (st0:St) (args:List PV):PV→List aj→ah β:=match E.P.funcs[f]? with
 |some fn=>(match fn.body with
  |some c=>aks E n f base fn c r j st0 args (Fg E fn K)
  |none=>fun _ _=> .stuck)
 |none=>fun _ _=> .stuck
def ao1 (fn:Func) (c:Code):Ex→St→ah (Ex×St):=fun e st=>e.k (.ok (.norm,canon base (E.hint f (bG c)).1 st))
 (fun i=> .ok (.exit i,canon base (E.hint f (bG c)).2 st)) (.ok (.ret,canon base (lD fn) st))
def auB (r0 r j:Nat) (st0:St) (args:List PV):PV→List aj→ah (Ex×St):=match E.P.funcs[f]? with
 |some fn=>(match fn.body with
  |some c=>(match mV r0 c with
   |some (c1,_)=>aks E n f base fn c1 r j st0 args (ao1 E f base fn c1)
   |none=>fun _ _=> .stuck)
  |none=>fun _ _=> .stuck)
 |none=>fun _ _=> .stuck
end
end
end Go.aT
