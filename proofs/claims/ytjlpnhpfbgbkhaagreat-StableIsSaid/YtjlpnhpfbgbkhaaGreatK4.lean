/- The texts of a proof, one behind the other: an interpreter and its soundness, what the functions of the program answer, and plain laws on that. -/
import Derived.Test.YtjlpnhpfbgbkhaaGreatK3
import Derived.Great.BuildSlice
set_option linter.unusedVariables false
set_option linter.unusedSimpArgs false
set_option linter.unnecessarySimpa false
set_option linter.unusedSectionVars false
set_option maxRecDepth 100000
namespace Go.aT
section
open Go.RowKit
theorem vG {H:List aj}:∀ {cs:List PV} {ts:List T},PV.lF H cs=some ts→ts.length=cs.length∧∀ (i:Nat) (x:T),ts[i]? =some x→∃ p,cs[i]? =some p∧p.o7 H=some x
 | [],ts,h=>by simp[PV.lF] at h; subst h; simp
 |p::r,ts,h=>by
  simp only[PV.lF] at h
  cases h1:p.o7 H with
  |none=>simp[h1] at h
  |some x=>
   cases h2:PV.lF H r with
   |none=>simp[h1,h2] at h
   |some xs=>
    simp[h1,h2] at h
    subst h
    obtain⟨a,b⟩:=vG h2
    refine⟨by simp[a],fun i y hy=>?_⟩
    cases i with
    |zero=>simp at hy; subst hy; exact⟨p,rfl,h1⟩
    |succ i=>simpa using b i y (by simpa using hy)
section
variable {F F':Nat→Prop} {κ:Nat→Value} {w w':World} {H:List aj}
theorem kS (s:SI F κ w H) {p:PV} {v:Value} (h:RP F κ H.length w p v) (a:∀ b,F b→F' b):∀ {x:T},p.o7 H=some x→
 (∀ l∈p.rows,∀ (e:TypeId) (k:Nat) (xs:List T) (b:Nat),H[l]? =some (.row e k xs)→(κ l).ownBlock=some b→F' b)→Rd F' w x v:=by
 have mono:∀ {x:T} {v:Value},Rd F w x v→Rd F' w x v:=fun h=>h.mono a (fun _ _=>rfl)
 induction h with
 |t h=>intro x hx hr; simp[PV.o7] at hx; subst hx; exact mono h
 |nil=>intro x hx hr; simp[PV.o7] at hx; subst hx; exact .sl (xs:=[]) (c:=0) 0 0 (fun _ _=>undef) (by simp) (by simp) (by simp) (by simp) (fun i j hi=>by simp at hi) (fun i j hi=>by simp at hi) (fun i x j y hx=>by simp at hx)
 | @agg cs vs hl h1 hr ih=>
  intro x hx hq
  simp only[PV.o7,Option.map_eq_some_iff] at hx
  obtain⟨ts,h2,rfl⟩:=hx
  obtain⟨h3,h4⟩:=vG h2
  refine .agg (by omega) h1 fun i x v hx hv=>?_
  obtain⟨p,g1,g2⟩:=h4 i x hx
  exact ih i p v g1 hv g2 fun l hl=>hq l (by simp only[PV.rows]; exact uP (List.mem_of_getElem? g1) hl)
 | @au cs vs hl hr ih=>
  intro x hx hq
  simp only[PV.o7,Option.map_eq_some_iff] at hx
  obtain⟨ts,h2,rfl⟩:=hx
  obtain⟨h3,h4⟩:=vG h2
  refine .au (by omega) fun i x v hx hv=>?_
  obtain⟨p,g1,g2⟩:=h4 i x hx
  exact ih i p v g1 hv g2 fun l hl=>hq l (by simp only[PV.rows]; exact uP (List.mem_of_getElem? g1) hl)
 | @fn f fs cs vf vc h1 h2 r1 r2 i1 i2=>
  intro x hx hq
  simp only[PV.o7] at hx
  cases e1:PV.lF H fs with
  |none=>simp[e1] at hx
  |some ts=>
   cases e2:PV.lF H cs with
   |none=>simp[e1,e2] at hx
   |some us=>
    simp[e1,e2] at hx
    subst hx
    obtain⟨h3,h4⟩:=vG e1
    obtain⟨h5,h6⟩:=vG e2
    refine .fn (by omega) (by omega) (fun i x v hx hv=>?_) (fun i x v hx hv=>?_)
    · obtain⟨p,g1,g2⟩:=h4 i x hx
      exact i1 i p v g1 hv g2 fun l hl=>hq l (by simp only[PV.rows,List.mem_append]; exact .inl (uP (List.mem_of_getElem? g1) hl))
    · obtain⟨p,g1,g2⟩:=h6 i x hx
      exact i2 i p v g1 hv g2 fun l hl=>hq l (by simp only[PV.rows,List.mem_append]; exact .inr (uP (List.mem_of_getElem? g1) hl))
 | @ptr l o b hN hk=>
  intro x hx hq
  simp only[PV.o7] at hx
  cases ho:H[l]? with
  |none=>simp[ho] at hx
  |some obj=>
   cases obj with
   |ng e n v=>
    simp only[ho] at hx
    split at hx
    · rename_i h0
      subst h0
      injection hx with hx
      subst hx
      obtain⟨b',r1,r2,r3⟩:=s.ro l _ ho
      rw[hk] at r2
      exact mono r2
    · cases hx
   |_=>simp[ho] at hx
 | @own l A n c hN hk=>
  intro x hx hq
  simp only[PV.o7] at hx
  cases ho:H[l]? with
  |none=>simp[ho] at hx
  |some obj=>
   have hro:=s.ro l _ ho
   cases obj with
   |row e k xs=>
    simp only[ho,Option.some.injEq] at hx
    subst hx
    have:=xX.ER hro ho
    rw[hk] at this
    exact this.frozen a (by simpa[PV.rows] using hq)
   |jT e k xs=>
    simp only[ho,Option.some.injEq] at hx
    subst hx
    rw[←hk]
    exact mono hro.1
   |_=>simp[ho] at hx
 | @view l k lo hi A n c hN hk=>
  intro x hx hq
  simp only[PV.o7] at hx
  cases ho:H[l]? with
  |none=>simp[ho] at hx
  |some obj=>
   have hro:=s.ro l _ ho
   cases obj with
   |row e k' xs=>
    simp only[ho] at hx
    cases hg:(k'==k&&decide (lo≤hi)&&decide (hi≤xs.length)) with
    |false=>rw[hg] at hx; cases hx
    |true=>
     rw[hg] at hx
     simp only[cond_true,Option.some.injEq] at hx
     subst hx
     simp only[Bool.and_eq_true,beq_iff_eq,decide_eq_true_eq] at hg
     obtain⟨⟨rfl,_⟩,h3⟩:=hg
     exact(xX.view (l:=l) hk (xX.ER hro ho) (by simp[PV.rows]) h3).frozen a (by simpa[PV.rows] using hq)
   |jT e k' xs=>
    simp only[ho] at hx
    cases hg:(k'==k&&decide (lo≤hi)&&decide (hi≤xs.length)) with
    |false=>rw[hg] at hx; cases hx
    |true=>
     rw[hg] at hx
     simp only[cond_true,Option.some.injEq] at hx
     subst hx
     simp only[Bool.and_eq_true,beq_iff_eq,decide_eq_true_eq] at hg
     obtain⟨⟨rfl,_⟩,h3⟩:=hg
     exact(xX.view (H:=H) (l:=l) (p:= .own l) hk (xX.IB hro.1) (by simp[PV.rows]) h3).frozen a (by simpa[PV.rows] using hq)
   |_=>simp[ho] at hx
 |full h=>intro x hx hq; simp[PV.o7] at hx; subst hx; exact mono h
 |iC=>intro x hx; simp[PV.o7] at hx
 |rp=>intro x hx; simp[PV.o7] at hx
 |mp=>intro x hx; simp[PV.o7] at hx
 |junk=>intro x hx; simp[PV.o7] at hx
theorem RP.cells {N n:Nat} {p:PV} {v:Value} (h:RP F κ N w p v) (hn:v.cells.size=n) (h1:∀ c∈v.cells,c.oneCell'=true):
 (p.cells n).length=n∧∀ (i:Nat) (q:PV) (c:Value),(p.cells n)[i]? =some q→v.cells[i]? =some c→RP F κ N w q c:=by
 by_cases hv:v.oneCell'=true
 · rw[cells_one hv] at hn
   simp at hn
   subst hn
   have one:∀ (i:Nat) (q:PV) (c:Value),[p][i]? =some q→v.cells[i]? =some c→RP F κ N w q c:=by
    intro i q c hq hc
    rw[cells_one hv] at hc
    cases i with
    |zero=>simp at hq hc; subst hq; subst hc; exact h
    |succ i=>simp at hq
   cases h with
   |t h=>
    have:=tK (h.XM hv)
    simp only[PV.cells,List.range_one,List.map_cons,List.map_nil,T.cell,this,List.getD_cons_zero]
    exact⟨rfl,one⟩
   |agg hl _ _=>simp[Value.oneCell'] at hv
   |au hl _=>simp[Value.oneCell'] at hv
   |junk=>exact⟨rfl,one⟩
   |_=>exact⟨rfl,one⟩
 · cases v with
   |tuple vs=>exact absurd (h1 (.tuple vs) (by simp[Value.cells])) (by simp[Value.oneCell'])
   |agg vs=>
    simp only[Value.cells] at hn h1 ⊢
    cases h with
    |junk=>
     refine⟨by simp[PV.cells],fun i q c hq hc=>?_⟩
     simp only[PV.cells] at hq
     have:=List.mem_of_getElem? hq
     rw[List.mem_replicate] at this
     rw[this.2]; exact .junk
    | @t x _ h=>
     cases h with
     | @agg cs vs hl ha hr=>
      simp at hn
      refine⟨by simp[PV.cells],fun i q c hq hc=>?_⟩
      have hi:i < n:=by have:=(List.getElem?_eq_some_iff.1 hq).1; simpa[PV.cells] using this
      simp only[PV.cells,List.getElem?_map,List.getElem?_range hi,Option.map_some,Option.some.injEq] at hq
      subst hq
      have hi':i < cs.length:=by omega
      refine .t (hr i _ c ?_ (by simpa using hc))
      simp only[T.cell,T.cells,List.getD_eq_getElem?_getD,List.getElem?_eq_getElem hi',Option.getD_some]
    | @agg cs vs hl ha hr=>
     simp at hn
     exact⟨by simp only[PV.cells]; omega,fun i q c hq hc=>hr i q c hq (by simpa using hc)⟩
   |_=>exact absurd rfl hv
theorem qc {N s:Nat} {p:PV} {v:Value} (h:RP F κ N w p v) (ho:p.okS s=true):v.cells.size=s∧∀ c∈v.cells,c.oneCell'=true:=by
 have one:∀ v:Value,v.oneCell'=true→s=1→v.cells.size=s∧∀ c∈v.cells,c.oneCell'=true:=fun v hv hs=>by rw[cells_one hv]; simp[hs,hv]
 cases h with
 | @t x _ h=>
  simp only[PV.okS,Bool.and_eq_true,beq_iff_eq] at ho
  obtain⟨h2,h3⟩:=ho
  cases h with
  | @agg cs vs hl ha hr=>simp[T.cells] at h2; simp[Value.cells]; exact⟨by omega,ha⟩
  |au=>simp[T.aY] at h3
  |_=>exact one _ rfl (by simpa[T.cells] using h2.symm)
 | @agg cs vs hl ha hr=>simp[PV.okS] at ho; simp[Value.cells]; exact⟨by omega,ha⟩
 |au=>simp[PV.okS] at ho
 |junk=>simp[PV.okS] at ho
 |_=>exact one _ rfl (by simpa[PV.okS] using ho)
theorem rM {k:Nat} {x:T} {v:Value} (h:Rd F w x v) (ho:x.mF k=true):x.cells.length=k∧(k=1→x.isAgg=false)∧v.cells.size=k∧(∀ c∈v.cells,c.oneCell'=true)∧
 ∀ (j:Nat) (y:T) (c:Value),x.cells[j]? =some y→v.cells[j]? =some c→Rd F w y c:=by
 simp only[T.mF,Bool.and_eq_true,beq_iff_eq,Bool.or_eq_true,Bool.not_eq_true'] at ho
 obtain⟨⟨h1,h2⟩,h3⟩:=ho
 obtain⟨a,b⟩:=qc (κ:=fun _=>undef) (N:=0) (.t h) (show(PV.t x).okS k=true by simp[PV.okS,h1,h2])
 refine⟨h1,fun h=>?_,a,b,fun j y c hy hc=>?_⟩
 · rcases h3 with h3|h3
   · simp[h] at h3
   · exact h3
 · obtain⟨_,h5⟩:=RP.cells (κ:=fun _=>undef) (N:=0) (.t h) a b
   have hj:j < k:=by rw[←h1]; exact(List.getElem?_eq_some_iff.1 hy).1
   have:=h5 j (.t y) c (by simp[PV.cells,List.getElem?_range hj,T.cell,List.getD_eq_getElem?_getD,hy]) hc
   cases this with
   |t h=>exact h
theorem oL {l:Nat}:∀ (ls:List Nat) (H:List aj),l∉ls→(aI ls H)[l]? =H[l]? :=by
 unfold aI
 intro ls
 induction ls with
 |nil=>intro H _; rfl
 |cons a ls ih=>
  intro H hl
  simp only[List.mem_cons,not_or] at hl
  simp only[List.foldl_cons]
  rw[ih _ hl.2]
  split
  · rw[List.getElem?_set_ne (fun e=>hl.1 e.symm)]
  · rfl
end
end
section
open Go.RowKit
section
variable {P:Program}
theorem qo {w:World} {b o:Nat} {t e:TypeId} {s:Nat} {cur:Array Value} {v:Value} (hs:kJ P t=some s) (hg:w.heap[b]? =some (.cells cur e (0,0))) (hv:v.cells.size=s) (ho:o+s≤cur.size) (h1:∀ c∈v.cells,c.oneCell'=true):
 (Instr.storeAt t (.pointer (some ⟨b,o,none⟩)) v).run P w= .ok () (w.setRow b (cur.toList.take o++v.cells.toList++cur.toList.drop (o+s)).toArray):=by
 have:=run_storeCells_at P b o e v.cells.toList 0 cur w hg (by simpa[hv] using ho) (by simpa using h1)
 simp only[Nat.add_zero,Array.length_toList,hv] at this
 simp[Instr.storeAt,Instr.sureAddr,storeVar,jM hs,hv,this]
end
section
variable {β:Type} {E:Env} {st:St} {F:Nat→Prop} {κ:Nat→Value} {w:World} {N0:Nat} {tm:Array Value}
theorem kW {F:Nat→Prop} {κ:Nat→Value} {N:Nat} {w:World}:RP F κ N w dY undef:= .au (cs:=[]) (vs:=[]) rfl (fun i p v h=>by simp at h)
theorem RY {t:TypeId} {p q:PV} {K:St→ah β} {v u:Value} (h:wU E st t p q K≠ .stuck) (h0:N0≤st.heap.length) (s:SI F κ w st.heap) (ht:TR F κ w st tm) (hp:RP F κ st.heap.length w p v) (hq:RP F κ st.heap.length w q u):
 ∃ st' F' w',wU E st t p q K=K st'∧(Instr.storeAt t v u).run E.P w= .ok () w'∧Next' N0 F κ w st tm dY undef F' κ w' st':=by
 unfold wU at h ⊢
 cases hs:kJ E.P t with
 |none=>simp[hs] at h
 |some sz=>
  cases ha:lM E.P t with
  |none=>simp[hs,ha] at h
  |some a=>
   simp only[hs,ha] at h ⊢
   obtain⟨hg,he⟩:=jq h
   rw[he] at h ⊢
   clear he
   obtain⟨hok,he⟩:=dQ h
   rw[he] at h ⊢
   clear he
   obtain⟨u1,u2⟩:=qc hq hok
   obtain⟨u3,u4⟩:=hq.cells u1 u2
   cases hp with
   | @ptr l o b hN hl=>
    cases ho:st.heap[l]? with
    |none=>simp[ho] at h
    |some obj=>
     have hro:=s.ro l obj ho
     cases obj with
     |box e n p0=>
      simp only[ho] at h ⊢
      obtain⟨b',vs,vv,r1,r2,r3,r4,r5,r6⟩:=hro
      rw[hl] at r1
      injection r1 with r1; injection r1 with r1; injection r1 with r1
      subst r1
      subst r3
      have hblk:∀ p':PV,blk κ l (.box e n p')=some b:=fun p'=>by simp[blk,hl,iY]
      have fin:∀ (p':PV) (vv':Value) (cs:Array Value),cs=vv'.cells→cs.size=n→(∀ c∈cs,c.oneCell'=true)→RP F κ st.heap.length w p' vv'→
       Next' N0 F κ w st tm dY undef F κ (w.setRow b cs) ⟨st.tmps,st.heap.set l (.box e n p')⟩:=by
       intro p' vv' cs h1 h2 h3 h4
       have hoth:∀ c,c≠b→(w.setRow b cs).heap[c]? =w.heap[c]? :=fun c hc=>setRow_other w b c cs hc
       have tZ:∀ c,F c→(w.setRow b cs).heap[c]? =w.heap[c]? :=fun c hc=>hoth c fun e=>(s.lt l _ b ho (hblk p0)).2 (e ▸ hc)
       have mono:∀ {p:PV} {v:Value},RP F κ st.heap.length w p v→RP F κ st.heap.length (w.setRow b cs) p v:=fun h=>h.mono (fun _ h=>h) tZ fun l hl=>⟨rfl,h.bound l hl⟩
       refine⟨s.oQ ho (hblk p0) (hblk p') (by simp) hoth ⟨b,cs,vv',hl,setRow_heap w b _ _ _ _ r2,h1,h2,h3,mono h4⟩,
        Ev.oQ ho (hblk p0) (hblk p') rfl rfl rfl (by simp) hoth h0 (.inr (by simp)),kW,rfl,fun i q v g1 g2=>?_⟩
       simpa using mono (ht i q v g1 g2)
      cases hw:(o==0&&sz==n) with
      |true=>
       simp only[Bool.and_eq_true,beq_iff_eq] at hw
       obtain⟨rfl,rfl⟩:=hw
       refine⟨_,F,_,rfl,qo hs r2 u1 (by omega) u2,fin q u _ ?_ (by simp[u1,r4]) (fun c hc=>u2 c ?_) hq⟩
       · apply Array.ext'; simp[←r4]
       · have:((List.take 0 vv.cells.toList++u.cells.toList++List.drop (0+sz) vv.cells.toList).toArray)=u.cells:=by apply Array.ext'; simp[←r4]
         rwa [this] at hc
      |false=>
       rw[hw] at h
       simp only[cond_false] at h ⊢
       obtain⟨h5,h6⟩:=bD h
       rw[h6]
       have h5:o+sz≤n:=by simpa using h5
       obtain⟨c1,c2⟩:=r6.cells r4 r5
       refine⟨_,F,_,rfl,qo hs r2 u1 (by omega) u2,fin _ (.agg (vv.cells.toList.take o++u.cells.toList++vv.cells.toList.drop (o+sz)).toArray) _ rfl (by simp; omega) (fun c hc=>?_) (zX (by simp; omega) (fun c hc=>?_) fun i p' c hp' hc=>?_)⟩
       · simp only[List.mem_toArray,List.mem_append] at hc
         rcases hc with (hc|hc)|hc
         · exact r5 c (by simpa using List.mem_of_mem_take hc)
         · exact u2 c (by simpa using hc)
         · exact r5 c (by simpa using List.mem_of_mem_drop hc)
       · simp only[List.mem_append] at hc
         rcases hc with (hc|hc)|hc
         · exact r5 c (by simpa using List.mem_of_mem_take hc)
         · exact u2 c (by simpa using hc)
         · exact r5 c (by simpa using List.mem_of_mem_drop hc)
       · rw[iL _ _ u3 (by omega)] at hp'
         rw[iL _ _ (by simpa using u1) (by simp; omega)] at hc
         split at hp'
         · rename_i g; rw[if_pos g] at hc; exact c2 i p' c hp' (by simpa using hc)
         · rename_i g
           rw[if_neg g] at hc
           split at hp'
           · rename_i g2; rw[if_pos g2] at hc; exact u4 _ p' c hp' (by simpa using hc)
           · rename_i g2; rw[if_neg g2] at hc; exact c2 i p' c hp' (by simpa using hc)
     |_=>simp[ho] at h
   | @iC l k i o b n c hN hl hi=>
    cases ho:st.heap[l]? with
    |none=>simp[ho] at h
    |some obj=>
     have hro:=s.ro l obj ho
     cases obj with
     |vec e k' m xs=>
      simp only[ho] at h ⊢
      obtain⟨hk,e1⟩:=bD h
      rw[e1] at h ⊢
      simp only[Bool.and_eq_true,beq_iff_eq,decide_eq_true_eq] at hk
      obtain⟨rfl,hos⟩:=hk
      obtain⟨cs,o1,o2,o3,o4,o5⟩:=hro
      have hown:=o1
      rw[hl] at hown
      rcases hown.2 with ⟨hnil,_⟩|⟨g,cap,cur,q1,q2,q3,q4,q5,q6,q7⟩
      · cases hnil
      simp only[Value.slice.injEq,Option.some.injEq,Addr.mk.injEq,and_true,true_and] at q1
      obtain⟨rfl,rfl,rfl⟩:=q1
      have hcs:cs.length=n*k':=o1.1
      have hin:i*k'+o+sz≤n*k':=by
       calc i*k'+o+sz≤i*k'+k':=by omega
        _=(i+1)*k':=by rw[Nat.succ_mul]
        _≤n*k':=Nat.mul_le_mul_right _ hi
      have hcur:n*k'≤cur.size:=by rw[q6]; exact Nat.mul_le_mul_right _ q4
      have hfit:(i*k'+o)+sz≤cur.size:=Nat.le_trans hin hcur
      have hblk:∀ xs':List PV,blk κ l (.vec e k' n xs')=some b:=fun xs'=>by simp[blk,hl,Value.ownBlock]
      refine⟨_,F,_,rfl,qo hs q3 u1 hfit u2,?_⟩
      generalize EK:(cur.toList.take (i*k'+o)++u.cells.toList++cur.toList.drop (i*k'+o+sz)).toArray=cur'
      have hoth:∀ c,c≠b→(w.setRow b cur').heap[c]? =w.heap[c]? :=fun c hc=>setRow_other w b c cur' hc
      have tZ:∀ c,F c→(w.setRow b cur').heap[c]? =w.heap[c]? :=fun c hc=>hoth c fun e=>(s.lt l _ b ho (hblk xs)).2 (e ▸ hc)
      have mono:∀ {p:PV} {v:Value},RP F κ st.heap.length w p v→RP F κ st.heap.length (w.setRow b cur') p v:=fun h=>h.mono (fun _ h=>h) tZ fun l hl=>⟨rfl,h.bound l hl⟩
      have htake:cur'.toList.take (n*k')=cs.take (i*k'+o)++u.cells.toList++cs.drop (i*k'+o+sz):=by
       rw[←EK,←q7]
       apply List.ext_getElem?
       intro j
       rw[iL _ _ (by simpa using u1) (by simp; omega)]
       simp only[List.getElem?_take]
       by_cases hj:j < n*k'
       · simp only[if_pos hj]
         rw[iL _ _ (by simpa using u1) (by simpa using hfit)]
       · simp only[if_neg hj]
         rw[if_neg (by omega),if_neg (by omega)]
      have hlen':(cs.take (i*k'+o)++u.cells.toList++cs.drop (i*k'+o+sz)).length=n*k':=by rw[pV _ _ (by simpa using u1) (by omega)]; exact hcs
      have abC:RO F κ st.heap.length (w.setRow b cur') l (.vec e k' n (xs.take (i*k'+o)++q.cells sz++xs.drop (i*k'+o+sz))):=by
       refine⟨cs.take (i*k'+o)++u.cells.toList++cs.drop (i*k'+o+sz),?_,o2,?_,fun c hc=>?_,fun j p c hp hc=>?_⟩
       · rw[hl]
         exact⟨hlen',.inr ⟨b,_,cur',rfl,q2,setRow_heap w b _ _ _ _ q3,q4,q5,by rw[←EK]; simp; omega,htake⟩⟩
       · rw[pV _ _ u3 (by omega)]; exact o3
       · simp only[List.mem_append] at hc
         rcases hc with (hc|hc)|hc
         · exact o4 c (List.mem_of_mem_take hc)
         · exact u2 c (by simpa using hc)
         · exact o4 c (List.mem_of_mem_drop hc)
       · rw[iL _ _ u3 (by omega)] at hp
         rw[iL _ _ (by simpa using u1) (by omega)] at hc
         refine mono ?_
         split at hp
         · rename_i g; rw[if_pos g] at hc; exact o5 j p c hp hc
         · rename_i g
           rw[if_neg g] at hc
           split at hp
           · rename_i g2; rw[if_pos g2] at hc; exact u4 _ p c hp (by simpa using hc)
           · rename_i g2; rw[if_neg g2] at hc; exact o5 j p c hp hc
      refine⟨s.oQ ho (hblk _) (hblk _) (by simp) hoth abC,Ev.oQ ho (hblk _) (hblk _) rfl rfl rfl (by simp) hoth h0 (.inr (by simp)),kW,rfl,fun i q v g1 g2=>?_⟩
      simpa using mono (ht i q v g1 g2)
     |row e k' xs=>
      simp only[ho] at h ⊢
      obtain⟨hk,e1⟩:=jq h
      rw[e1] at h ⊢
      clear e1
      have hk':k'=k:=by simpa using hk
      subst hk'
      obtain⟨y,hy,e1⟩:=aB h
      rw[e1] at h ⊢
      clear e1
      obtain⟨hnr,e1⟩:=jq h
      rw[e1] at h ⊢
      clear e1
      obtain⟨F',s',a1,a2,a3,a4,a5,a6⟩:=jS q.rows s
      have hrd:=kS s hq a1 hy a4
      have hev:Ev N0 F κ w st.heap F' κ w (aI q.rows st.heap):=Ev.freeze q.rows h0 a1 a2 a3 a5
      have ho':(aI q.rows st.heap)[l]? =some (.row e k' xs):=by
       rw[oL]; · exact ho
       · intro hm; simp[List.contains_iff_mem] at hnr; exact hnr hm
      obtain⟨cs,o1,o2,o3,o4,o5⟩:=s'.ro l _ ho'
      have hown:=o1
      rw[hl] at hown
      rcases hown.2 with ⟨hnil,_⟩|⟨g,cap,cur,q1,q2,q3,q4,q5,q6,q7⟩
      · cases hnil
      simp only[Value.slice.injEq,Option.some.injEq,Addr.mk.injEq,and_true,true_and] at q1
      obtain⟨rfl,hn,rfl⟩:=q1
      subst hn
      have hcs:cs.length=xs.length*k':=o1.1
      have hblk:∀ xs':List T,blk κ l (.row e k' xs')=some b:=fun xs'=>by simp[blk,hl,Value.ownBlock]
      have hin:o+sz≤k'→i*k'+o+sz≤xs.length*k':=fun hle=>by
       calc i*k'+o+sz≤i*k'+k':=by omega
        _=(i+1)*k':=by rw[Nat.succ_mul]
        _≤xs.length*k':=Nat.mul_le_mul_right _ hi
      have fin:o+sz≤k'→∀ (y':T),y'.cells.length=k'→(k'=1→y'.isAgg=false)→
       (∀ (j:Nat) (z:T) (c:Value),y'.cells[j]? =some z→(if j < o then cs[i*k'+j]? else if j < o+sz then u.cells[j - o]? else cs[i*k'+j]?)=some c→Rd F' w z c)→
       ∃ w',(Instr.storeAt t (.pointer (some ⟨b,i*k'+o,none⟩)) u).run E.P w= .ok () w'∧Next' N0 F κ w st tm dY undef F' κ w' ⟨st.tmps,(aI q.rows st.heap).set l (.row e k' (xs.set i y'))⟩:=by
       intro hle y' g1 g2 g3
       have hcur:xs.length*k'≤cur.size:=by rw[q6]; exact Nat.mul_le_mul_right _ q4
       have hfit:(i*k'+o)+sz≤cur.size:=Nat.le_trans (hin hle) hcur
       refine⟨_,qo hs q3 u1 hfit u2,?_⟩
       generalize EK:(cur.toList.take (i*k'+o)++u.cells.toList++cur.toList.drop (i*k'+o+sz)).toArray=cur'
       have hoth:∀ c,c≠b→(w.setRow b cur').heap[c]? =w.heap[c]? :=fun c hc=>setRow_other w b c cur' hc
       have tZ:∀ c,F' c→(w.setRow b cur').heap[c]? =w.heap[c]? :=fun c hc=>hoth c fun e=>(s'.lt l _ b ho' (hblk xs)).2 (e ▸ hc)
       have mono:∀ {p:PV} {v:Value},RP F κ st.heap.length w p v→RP F' κ st.heap.length (w.setRow b cur') p v:=fun h=>(h.freeze a1).mono (fun _ h=>h) tZ fun l hl=>⟨rfl,h.bound l hl⟩
       have htake:cur'.toList.take (xs.length*k')=cs.take (i*k'+o)++u.cells.toList++cs.drop (i*k'+o+sz):=by
        rw[←EK,←q7]
        apply List.ext_getElem?
        intro j
        rw[iL _ _ (by simpa using u1) (by simp; have:=hin hle; omega)]
        simp only[List.getElem?_take]
        by_cases hj:j < xs.length*k'
        · simp only[if_pos hj]
          rw[iL _ _ (by simpa using u1) (by simpa using hfit)]
        · simp only[if_neg hj]
          rw[if_neg (by have:=hin hle; omega),if_neg (by have:=hin hle; omega)]
       have hlen':(cs.take (i*k'+o)++u.cells.toList++cs.drop (i*k'+o+sz)).length=xs.length*k':=by rw[pV _ _ (by simpa using u1) (by have:=hin hle; omega)]; exact hcs
       have abC:RO F' κ (aI q.rows st.heap).length (w.setRow b cur') l (.row e k' (xs.set i y')):=by
        refine⟨cs.take (i*k'+o)++u.cells.toList++cs.drop (i*k'+o+sz),?_,by simpa using o2,fun x hx=>?_,fun c hc=>?_,fun i' x j z c hx hz hc=>?_⟩
        · rw[hl,List.length_set]
          exact⟨hlen',.inr ⟨b,_,cur',rfl,q2,setRow_heap w b _ _ _ _ q3,q4,q5,by rw[←EK]; simp; omega,htake⟩⟩
        · rcases List.mem_or_eq_of_mem_set hx with hx|rfl
          · exact o3 x hx
          · exact⟨g1,g2⟩
        · simp only[List.mem_append] at hc
          rcases hc with (hc|hc)|hc
          · exact o4 c (List.mem_of_mem_take hc)
          · exact u2 c (by simpa using hc)
          · exact o4 c (List.mem_of_mem_drop hc)
        · refine Rd.mono (fun _ h=>h) tZ ?_
          rw[iL _ _ (by simpa using u1) (by have:=hin hle; omega)] at hc
          by_cases e0:i'=i
          · subst e0
            rw[List.getElem?_set_self hi] at hx
            injection hx with hx
            subst hx
            refine g3 j z c hz ?_
            simp only[Nat.add_assoc,Nat.add_lt_add_iff_left,Nat.add_sub_add_left] at hc
            simpa using hc
          · rw[List.getElem?_set_ne (fun h=>e0 h.symm)] at hx
            have hj:j < k':=by rw[←(o3 x (List.mem_of_getElem? hx)).1]; exact(List.getElem?_eq_some_iff.1 hz).1
            have hout:i'*k'+j < i*k'+o∨i*k'+o+sz≤i'*k'+j:=by
             rcases Nat.lt_or_gt_of_ne e0 with h1|h1
             · left
               calc i'*k'+j < i'*k'+k':=by omega
                _=(i'+1)*k':=by rw[Nat.succ_mul]
                _≤i*k':=Nat.mul_le_mul_right _ h1
                _≤i*k'+o:=by omega
             · right
               calc i*k'+o+sz≤i*k'+k':=by omega
                _=(i+1)*k':=by rw[Nat.succ_mul]
                _≤i'*k':=Nat.mul_le_mul_right _ h1
                _≤i'*k'+j:=by omega
            refine o5 i' x j z c hx hz ?_
            rcases hout with h1|h1
            · rw[if_pos h1] at hc; exact hc
            · rw[if_neg (by omega),if_neg (by omega)] at hc; exact hc
       refine⟨s'.oQ ho' (hblk _) (hblk _) (by simp) hoth abC,hev.trans (Ev.oQ ho' (hblk _) (hblk _) rfl rfl rfl (by simp) hoth (by rw[bU]; exact h0) (.inl ⟨_,_,_,rfl⟩)),kW,rfl,fun i q v g1 g2=>?_⟩
       simpa[bU] using mono (ht i q v g1 g2)
      have hyc:∀ (j:Nat) (z:T) (c:Value),y.cells[j]? =some z→u.cells[j]? =some c→Rd F' w z c:=fun j z c hz hc=>by
       obtain⟨b1,b2⟩:=RP.cells (κ:=κ) (N:=0) (.t hrd) u1 u2
       have hj:j < sz:=by have:=(Array.getElem?_eq_some_iff.1 hc).1; omega
       have:=b2 j (.t z) c (by simp[PV.cells,List.getElem?_range hj,T.cell,List.getD_eq_getElem?_getD,hz]) hc
       cases this with
       |t h=>exact h
      have hys:y.cells.length=sz:=by
       by_cases hv:u.oneCell'=true
       · rw[tK (hrd.XM hv)]
         rw[cells_one hv] at u1; simpa using u1
       · cases hrd with
         |agg hl' _ _=>simp[Value.cells] at u1; simp[T.cells]; omega
         | @au _ vs _ _=>exact absurd (u2 (.tuple vs.toArray) (by simp[Value.cells])) (by simp[Value.oneCell'])
         |_=>exact absurd rfl hv
      cases hw:(o==0&&sz==k') with
      |true=>
       rw[hw] at h
       simp only[Bool.and_eq_true,beq_iff_eq] at hw
       obtain⟨rfl,rfl⟩:=hw
       simp only[cond_true] at h ⊢
       obtain⟨h5,h6⟩:=dQ h
       rw[h6]
       obtain⟨w',f1,f2⟩:=fin (by omega) y hys (fun h=>by simpa[h] using h5) (fun j z c hz hc=>by
        rw[if_neg (by omega)] at hc
        have hj:j < sz:=by rw[←hys]; exact(List.getElem?_eq_some_iff.1 hz).1
        rw[if_pos (by omega)] at hc
        exact hyc j z c hz (by simpa using hc))
       exact⟨_,F',w',rfl,f1,f2⟩
      |false=>
       rw[hw] at h
       simp only[cond_false] at h ⊢
       obtain⟨h5,h6⟩:=bD h
       rw[h6]
       have h5:o+sz≤k':=by simpa using h5
       have hx:xs.getD i .dS∈xs:=by rw[List.getD_eq_getElem?_getD,List.getElem?_eq_getElem hi]; exact List.getElem_mem _
       have hxi:xs[i]? =some (xs.getD i .dS):=by rw[List.getD_eq_getElem?_getD,List.getElem?_eq_getElem hi]; rfl
       have hxl:=(o3 _ hx).1
       by_cases hk1:k'=1
       ·
        exfalso
        have:sz=1∧o=0:=by
         rcases guard_of hg with ⟨_,h2⟩|⟨_,h2⟩<;>omega
        obtain⟨rfl,rfl⟩:=this
        simp[hk1] at hw
       · have hpl:((xs.getD i .dS).cells.take o++y.cells++(xs.getD i .dS).cells.drop (o+y.cells.length)).length=k':=by
          rw[pV _ _ rfl (by omega)]; exact hxl
         obtain⟨w',f1,f2⟩:=fin h5 ((xs.getD i .dS).akW o y.cells) (by simpa[T.akW,T.cells] using hpl) (fun h=>absurd h hk1) (fun j z c hz hc=>by
          change ((xs.getD i .dS).cells.take o++y.cells++(xs.getD i .dS).cells.drop (o+y.cells.length))[j]? =some z at hz
          rw[iL _ _ rfl (by rw[hys]; omega),hys] at hz
          split at hz
          · rename_i g; rw[if_pos g] at hc; exact o5 i _ j z c hxi hz hc
          · rename_i g
            rw[if_neg g] at hc
            split at hz
            · rename_i g2; rw[if_pos g2] at hc; exact hyc _ z c hz hc
            · rename_i g2; rw[if_neg g2] at hc; exact o5 i _ j z c hxi hz hc)
         exact⟨_,F',w',rfl,f1,f2⟩
     |_=>simp[ho] at h
   |_=>exact absurd rfl h
end
end
section
open Go.RowKit
section
variable {F:Nat→Prop} {κ:Nat→Value} {N:Nat} {w:World} {P:Program}
theorem EZ {t:TypeId} {v:Value} {p:PV} (h:BM P t v=some p):RP F κ N w p v∧v.oneCell'=true:=by
 unfold BM at h
 split at h
 · rename_i k n
   cases hk:kindOk k n with
   |true=>simp[hk] at h; subst h; exact⟨.t (.int hk),rfl⟩
   |false=>simp[hk] at h
 · injection h with h; subst h; exact⟨.t .bool,rfl⟩
 · rename_i s
   cases hk:decide (s.size≤big) with
   |true=>simp[hk] at h; subst h; exact⟨.t (.str (by simpa using hk)),rfl⟩
   |false=>simp[hk] at h
 · injection h with h; subst h; exact⟨.t .dS,rfl⟩
 · injection h with h; subst h; exact⟨.t .mW,rfl⟩
 · injection h with h; subst h; exact⟨.t .qU,rfl⟩
 · split at h
   · simp only[Option.map_eq_some_iff] at h
     obtain⟨k,_,rfl⟩:=h
     exact⟨.nil,rfl⟩
   · cases h
 · cases h
theorem H9:∀ {ts:List TypeId} {vs:List Value} {ps:List PV},E5 (BM P) ts vs=some ps→vs.length=ps.length∧(∀ v∈vs,v.oneCell'=true)∧∀ (i:Nat) (p:PV) (v:Value),ps[i]? =some p→vs[i]? =some v→RP F κ N w p v
 | [],[],ps,h=>by simp[E5] at h; subst h; simp
 | [],_::_,ps,h=>by simp[E5] at h
 |_::_,[],ps,h=>by simp[E5] at h
 |t::ts,v::vs,ps,h=>by
  simp only[E5] at h
  cases h1:BM P t v with
  |none=>simp[h1] at h
  |some p=>
   cases h2:E5 (BM P) ts vs with
   |none=>simp[h1,h2] at h
   |some r=>
    simp[h1,h2] at h
    subst h
    obtain⟨a,b⟩:=EZ (F:=F) (κ:=κ) (N:=N) (w:=w) h1
    obtain⟨c,d,e⟩:=H9 h2
    refine⟨by simp[c],fun u hu=>?_,fun i p' u hp hu=>?_⟩
    · rcases List.mem_cons.1 hu with rfl|hu
      · exact b
      · exact d u hu
    · cases i with
      |zero=>simp at hp hu; subst hp; subst hu; exact a
      |succ i=>exact e i p' u (by simpa using hp) (by simpa using hu)
theorem lG {t:TypeId} {v:Value} {p:PV} (h:l9 P t v=some p):RP F κ N w p v:=by
 unfold l9 at h
 split at h
 · rename_i vs
   split at h
   · rename_i ts hts
     simp only[Option.map_eq_some_iff] at h
     obtain⟨ps,h1,rfl⟩:=h
     obtain⟨a,b,c⟩:=H9 (F:=F) (κ:=κ) (N:=N) (w:=w) h1
     have:=zX (κ:=κ) (N:=N) a b c
     simpa using this
   · cases h
 · rename_i vs
   cases hv:vs.isEmpty with
   |true=>
    simp[hv] at h
    subst h
    have:vs= #[]:=by simpa using hv
    subst this
    exact kW
   |false=>simp[hv] at h
 · exact(EZ h).1
def TRn (F:Nat→Prop) (κ:Nat→Value) (N:Nat) (w:World) (tm:List PV) (vs:Array Value):Prop:=∀ (i:Nat) (q:PV) (v:Value),tm[i]? =some q→vs[i]? =some v→RP F κ N w q v
theorem iP {tm:List PV} {a:Act} (hl:a.tmps.size=tm.length) (ht:TRn F κ N w tm a.tmps) {t:TypeId} {o:Operand} {p:PV} (h:bV P tm t o=some p):RP F κ N w p (a.eval o):=by
 cases o with
 |tmp i=>
  simp only[bV,Option.some.injEq] at h
  subst h
  simp only[Act.eval]
  by_cases hi:i < tm.length
  · have h2:i < a.tmps.size:=by rw[hl]; exact hi
    rw[List.getD_eq_getElem?_getD,List.getElem?_eq_getElem hi,Array.getD_eq_getD_getElem?,Array.getElem?_eq_getElem h2]
    exact ht i _ _ (List.getElem?_eq_getElem hi) (Array.getElem?_eq_getElem h2)
  · have h1:tm.length≤i:=Nat.le_of_not_lt hi
    have h2:a.tmps.size≤i:=by rw[hl]; exact h1
    rw[List.getD_eq_getElem?_getD,List.getElem?_eq_none h1,Array.getD_eq_getD_getElem?,Array.getElem?_eq_none h2]
    exact kW
 |const v=>exact lG h
 |global g=>simp[bV] at h
 |func f=>
  simp only[bV,Option.some.injEq] at h
  subst h
  exact .t (.fn (vf:=[]) (vc:=[]) rfl rfl (fun i x v h=>by simp at h) (fun i x v h=>by simp at h))
theorem Ut {a:Act} {o:Operand}:Is o (a.eval o):=fun c h=>by subst h; rfl
theorem zk {tm:List PV} {a:Act} (hl:a.tmps.size=tm.length) (ht:TRn F κ N w tm a.tmps) {ty:Nat→TypeId}:∀ {os:List Operand} {j:Nat} {ps:List PV},jF P tm ty j os=some ps→
 ps.length=os.length∧∀ (i:Nat) (p:PV) (v:Value),ps[i]? =some p→(os.map a.eval)[i]? =some v→RP F κ N w p v
 | [],j,ps,h=>by simp[jF] at h; subst h; simp
 |o::os,j,ps,h=>by
  simp only[jF] at h
  cases h1:bV P tm (ty j) o with
  |none=>simp[h1] at h
  |some p=>
   cases h2:jF P tm ty (j+1) os with
   |none=>simp[h1,h2] at h
   |some r=>
    simp[h1,h2] at h
    subst h
    obtain⟨a1,a2⟩:=zk hl ht h2
    refine⟨by simp[a1],fun i p' v hp hv=>?_⟩
    cases i with
    |zero=>simp at hp hv; subst hp; subst hv; exact iP hl ht h1
    |succ i=>exact a2 i p' v (by simpa using hp) (by simpa using hv)
theorem xH {tm:List PV} {a:Act} (hl:a.tmps.size=tm.length) (ht:TRn F κ N w tm a.tmps) {ty:Nat→TypeId}:∀ {os:List (Nat×Operand)} {ps:List (Nat×PV)},partsOf P tm ty os=some ps→
 ps.length=os.length∧∀ (i:Nat) (p:Nat×PV) (v:Nat×Value),ps[i]? =some p→(os.map fun x=>(x.1,a.eval x.2))[i]? =some v→p.1=v.1∧RP F κ N w p.2 v.2
 | [],ps,h=>by simp[partsOf] at h; subst h; simp
 |(k,o)::os,ps,h=>by
  simp only[partsOf] at h
  cases h1:bV P tm (ty k) o with
  |none=>simp[h1] at h
  |some p=>
   cases h2:partsOf P tm ty os with
   |none=>simp[h1,h2] at h
   |some r=>
    simp[h1,h2] at h
    subst h
    obtain⟨a1,a2⟩:=xH hl ht h2
    refine⟨by simp[a1],fun i p' v hp hv=>?_⟩
    cases i with
    |zero=>simp at hp hv; subst hp; subst hv; exact⟨rfl,iP hl ht h1⟩
    |succ i=>exact a2 i p' v (by simpa using hp) (by simpa using hv)
theorem Dv {tm:List PV} {a:Act} (hl:a.tmps.size=tm.length) (ht:TRn F κ N w tm a.tmps) {o:Option Operand} {p:Option PV} (h:MO P tm o=some p):aa7 F κ N w p (o.map a.eval):=by
 cases o with
 |none=>simp[MO] at h; subst h; trivial
 |some o=>
  simp only[MO,Option.map_eq_some_iff] at h
  obtain⟨q,h1,rfl⟩:=h
  exact iP hl ht h1
end
section
variable {β:Type} {E:Env} {st:St} {F:Nat→Prop} {κ:Nat→Value} {w:World} {N0:Nat} {tm:Array Value}
theorem EP {e:TypeId} {n:Nat} {p:PV} {v:Value} (h0:N0≤st.heap.length) (s:SI F κ w st.heap) (ht:TR F κ w st tm) (hp:RP F κ st.heap.length w p v) (ho:p.okS n=true):
 ∃ w' κ',(newVar e v).run E.P w= .ok ⟨w.heap.size,0,none⟩ w'∧Next' N0 F κ w st tm (.ptr st.heap.length 0) (.pointer (some ⟨w.heap.size,0,none⟩)) F κ' w' ⟨st.tmps,st.heap++ [.box e n p]⟩:=by
 obtain⟨a,b⟩:=qc hp ho
 refine⟨w.alloc (.cells v.cells e),upd κ st.heap.length (.pointer (some ⟨w.heap.size,0,none⟩)),by simp[newVar,newRow],?_⟩
 have hold:∀ b,b < w.heap.size→(w.alloc (.cells v.cells e)).heap[b]? =w.heap[b]? :=fun b hb=>heap_alloc_old' w _ b hb
 refine Next'.push h0 s ht rfl rfl rfl (by simp) hold (fun _ h=>h) (fun _ h=> .inl h) (fun b hb=>by have:=s.fl b hb; simp; omega) ?_ (fun b hb=>?_) (.ptr (by omega) (upd_same κ _ _))
 · exact⟨w.heap.size,v.cells,v,upd_same κ _ _,heap_alloc_new' w _,rfl,a,b,hp.push s _ hold (fun _ h=>h)⟩
 · simp only[blk,upd_same,iY,Option.some.injEq] at hb
   subst hb
   exact⟨Nat.le_refl _,by simp,fun hf=>absurd (s.fl _ hf) (by omega)⟩
theorem EO {e k cap:Nat} {xs:List T} {cells:Array Value} (h0:N0≤st.heap.length) (s:SI F κ w st.heap) (ht:TR F κ w st tm)
 (hcap:xs.length≤cap) (hmax:cap≤maxLen) (hsz:cells.size=cap*k) (hb:xs.length≤big) (hx:∀ x∈xs,x.cells.length=k∧(k=1→x.isAgg=false)) (h1:∀ c∈cells,c.oneCell'=true)
 (hr:∀ (i:Nat) (x:T) (j:Nat) (y:T) (v:Value),xs[i]? =some x→x.cells[j]? =some y→cells[i*k+j]? =some v→Rd F w y v):
 ∃ κ',Next' N0 F κ w st tm (.own st.heap.length) (.slice (some ⟨w.heap.size,0,none⟩) xs.length cap) F κ' (w.alloc (.cells cells e)) ⟨st.tmps,st.heap++ [.row e k xs]⟩:=by
 have hold:∀ b,b < w.heap.size→(w.alloc (.cells cells e)).heap[b]? =w.heap[b]? :=fun b hb=>heap_alloc_old' w _ b hb
 refine⟨upd κ st.heap.length (.slice (some ⟨w.heap.size,0,none⟩) xs.length cap),Next'.push h0 s ht rfl rfl rfl (by simp) hold (fun _ h=>h) (fun _ h=> .inl h) (fun b hb=>by have:=s.fl b hb; simp; omega) ?_ (fun b hb=>?_) (.own (by omega) (upd_same κ _ _))⟩
 · have hle:xs.length*k≤cells.size:=by rw[hsz]; exact Nat.mul_le_mul_right _ hcap
   refine⟨cells.toList.take (xs.length*k),?_,hb,hx,fun c hc=>h1 c (by simpa using List.mem_of_mem_take hc),fun i x j y v hi hy hv=>?_⟩
   · rw[upd_same]
     exact⟨by simp; omega,.inr ⟨w.heap.size,cap,cells,rfl,by omega,heap_alloc_new' w _,hcap,hmax,hsz,rfl⟩⟩
   · rw[List.getElem?_take] at hv
     split at hv
     · exact(hr i x j y v hi hy (by simpa using hv)).mono (fun _ h=>h) (fun b hb=>hold b (s.fl b hb))
     · cases hv
 · simp only[blk,upd_same,Value.ownBlock,Option.some.injEq] at hb
   subst hb
   exact⟨Nat.le_refl _,by simp,fun hf=>absurd (s.fl _ hf) (by omega)⟩
theorem AA {e:TypeId} {z:PV} (h:((E.P.info? e).bind (·.zero)).bind (l9 E.P e)=some z):∃ i zv,E.P.info? e=some i∧i.zero=some zv∧l9 E.P e zv=some z:=by
 cases h1:E.P.info? e with
 |none=>simp[h1] at h
 |some i=>
  cases h2:i.zero with
  |none=>simp[h1,h2] at h
  |some zv=>exact⟨i,zv,rfl,h2,by simpa[h1,h2] using h⟩
theorem GK {t:TypeId} {p q:PV} {K:PV→St→ah β} {v u:Value} (h:pO E st t p q K≠ .stuck) (h0:N0≤st.heap.length) (s:SI F κ w st.heap) (ht:TR F κ w st tm) (hp:RP F κ st.heap.length w p v) (hq:RP F κ st.heap.length w q u):
 ∃ r x st' F' κ' w',pO E st t p q K=K r st'∧(Instr.makeSlice t v u).run E.P w= .ok x w'∧Next' N0 F κ w st tm r x F' κ' w' st':=by
 unfold pO at h ⊢
 cases he:AY E.P t with
 |none=>simp[he] at h
 |some e=>
  cases hp with
  | @t n _ hn=>
   cases hq with
   | @t c _ hc=>
    simp only[he] at h ⊢
    cases hs:kJ E.P e with
    |none=>simp[hs] at h
    |some k=>
     cases k with
     |zero=>simp[hs] at h
     |succ k=>
      cases hb:Oq E.P e with
      |none=>simp[hs,hb] at h
      |some b=>
       cases b with
       |zero=>simp[hs,hb] at h
       |succ b=>
        cases hz:((E.P.info? e).bind (·.zero)).bind (l9 E.P e) with
        |none=>simp[hs,hb,hz] at h
        |some z=>
         simp only[hs,hb,hz] at h ⊢
         obtain⟨zt,g1,e1⟩:=aB h
         rw[e1] at h ⊢; clear e1
         obtain⟨nn,rfl,e1⟩:=sQ h
         rw[e1] at h ⊢; clear e1
         obtain⟨cc,rfl,e1⟩:=sQ h
         rw[e1] at h ⊢; clear e1
         obtain⟨g2,e1⟩:=dQ h
         rw[e1] at h ⊢; clear e1
         obtain⟨g3,e1⟩:=dQ h
         rw[e1] at h ⊢; clear e1
         simp only[Bool.and_eq_true,decide_eq_true_eq] at g2 g3
         obtain⟨g2,g2'⟩:=g2
         obtain⟨⟨g4,g5⟩,g6⟩:=g3
         cases hn
         cases hc
         obtain⟨i,zv,i1,i2,i3⟩:=AA hz
         have hsz:i.size=k+1:=by simpa[kJ,i1] using hs
         have hby:i.bytes=b+1:=by simpa[Oq,i1] using hb
         have hzs:zv.cells.size=k+1:=by unfold nJ at g2; simpa[i1,i2] using g2
         have hz0:Rd F w zt zv:=by
          have s0:SI F κ w []:=⟨by simp,by simp,by simp,s.fl⟩
          have h:=lG (F:=F) (κ:=κ) (N:=0) (w:=w) i3
          exact kS (F':=F) s0 h (fun _ h=>h) g1 (by simp)
         obtain⟨z1,z2,z3,z4,z5⟩:=rM hz0 g2'
         have hcb:cc.toNat≤big:=Nat.le_trans (Nat.le_mul_of_pos_right _ (by omega)) g6
         have hbig:big≤281474976710656:=by decide
         have hmax:=Af
         have hrun:=run_make (P:=E.P) w t e i zv (jO he) i1 i2 .i64 .i64 nn cc g4 g5 (by rw[hby]; have:((cc.toNat*(b+1):Nat):Int)≤281474976710656:=by omega
                                                                                         have e:(cc.toNat:Int)=cc:=Int.toNat_of_nonneg (by omega)
                                                                                         rw[Int.natCast_mul,e] at this
                                                                                         rw[Int.mul_comm]; exact this) (by omega)
         have hle:nn.toNat≤cc.toNat:=by omega
         have hnb:nn.toNat≤big:=by omega
         have hcell:∀ m v,(madeCells zv.cells (cc.toNat*i.size))[m]? =some v→zv.cells[m % (k+1)]? =some v:=by
          intro m v hv
          have hm:m < cc.toNat*i.size:=by have:=(Array.getElem?_eq_some_iff.1 hv).1; simpa[madeCells] using this
          have hmod:m % (k+1) < zv.cells.size:=by rw[hzs]; exact Nat.mod_lt _ (by omega)
          rw[Array.getElem?_eq_getElem (by simpa[madeCells] using hm)] at hv
          simp only[madeCells,Array.getElem_map,Array.getElem_range,Option.some.injEq,hzs] at hv
          rw[←hv,getElem!_pos zv.cells _ hmod,Array.getElem?_eq_getElem hmod]
         obtain⟨κ',hnext⟩:=EO (e:=e) (k:=k+1) (cap:=cc.toNat) (xs:=List.replicate nn.toNat zt) (cells:=madeCells zv.cells (cc.toNat*i.size)) h0 s ht (by simpa using hle) (by omega) (by rw[size_madeCells,hsz]) (by simpa using hnb)
          (fun x hx=>by rw[(List.mem_replicate.1 hx).2]; exact⟨z1,z2⟩)
          (fun c hc=>by
           obtain⟨m,hm,rfl⟩:=Array.getElem_of_mem hc
           exact z4 _ (Array.mem_of_getElem? (hcell m _ (Array.getElem?_eq_getElem hm))))
          (fun i' x j y v hx hy hv=>by
           have:=(List.mem_replicate.1 (List.mem_of_getElem? hx)).2
           subst this
           have hj:j < k+1:=by rw[←z1]; exact(List.getElem?_eq_some_iff.1 hy).1
           have h2:=hcell _ v hv
           rw[Nat.mul_comm,Nat.mul_add_mod,Nat.mod_eq_of_lt hj] at h2
           exact z5 j y v hy h2)
         rw[List.length_replicate] at hnext
         exact⟨_,_,_,F,κ',_,rfl,hrun,hnext⟩
   |_=>simp[he] at h
  |_=>simp[he] at h
end
end
section
open Go.RowKit
section
variable {β:Type} {E:Env} {st:St} {F:Nat→Prop} {κ:Nat→Value} {w:World} {N0 N:Nat} {tm:Array Value}
theorem GZ {n:Nat} {place:Nat→Option (Nat×Nat)} {K:List PV→ah β}:∀ {ps:List (Nat×PV)} {vs:List (Nat×Value)} {cs:List PV} {cells:Array Value},Ag n place cs ps K≠ .stuck→
 vs.length=ps.length→(∀ (i:Nat) (p:Nat×PV) (v:Nat×Value),ps[i]? =some p→vs[i]? =some v→p.1=v.1∧RP F κ N w p.2 v.2)→
 cs.length=n→cells.size=n→(∀ c∈cells,c.oneCell'=true)→(∀ (i:Nat) (p:PV) (c:Value),cs[i]? =some p→cells[i]? =some c→RP F κ N w p c)→
 ∃ cs' cells',Ag n place cs ps K=K cs'∧Instr.fill place cells vs=some cells'∧cs'.length=n∧cells'.size=n∧(∀ c∈cells',c.oneCell'=true)∧
  (∀ (i:Nat) (p:PV) (c:Value),cs'[i]? =some p→cells'[i]? =some c→RP F κ N w p c)
 | [],vs,cs,cells,h,hl,hp,h1,h2,h3,h4=>by
  have:vs= []:=List.eq_nil_of_length_eq_zero hl
  subst this
  exact⟨cs,cells,rfl,rfl,h1,h2,h3,h4⟩
 |(k,p)::ps,[],cs,cells,h,hl,hp,h1,h2,h3,h4=>by simp at hl
 |(k,p)::ps,(k',v)::vs,cs,cells,h,hl,hp,h1,h2,h3,h4=>by
  obtain⟨e0,hpv⟩:=hp 0 _ _ rfl rfl
  simp only at e0 hpv
  subst e0
  simp only[Ag] at h ⊢
  cases hpl:place k with
  |none=>simp[hpl] at h
  |some os=>
   obtain⟨o,s⟩:=os
   simp only[hpl] at h ⊢
   obtain⟨g1,e1⟩:=bD h
   rw[e1] at h ⊢
   clear e1
   obtain⟨g2,e1⟩:=dQ h
   rw[e1] at h ⊢
   clear e1
   have g1:o+s≤n:=by simpa using g1
   obtain⟨u1,u2⟩:=qc hpv g2
   obtain⟨u3,u4⟩:=hpv.cells u1 u2
   obtain⟨f1,f2⟩:=Great.foldl_set o v.cells.toList 0 cells
   have atI:(v.cells.zipIdx.foldl (fun cs (x:Value×Nat)=>cs.setIfInBounds (o+x.2) x.1) cells)=((v.cells.toList.zipIdx 0).foldl (fun cs (x:Value×Nat)=>cs.setIfInBounds (o+x.2) x.1) cells):=by
    rw[←Array.foldl_toList,Array.toList_zipIdx]
   generalize hnew:(v.cells.toList.zipIdx 0).foldl (fun cs (x:Value×Nat)=>cs.setIfInBounds (o+x.2) x.1) cells=new at*
   have hget:∀ i:Nat,new[i]? =if i < o then cells[i]? else if i < o+s then v.cells[i - o]? else cells[i]? :=by
    intro i
    rw[f2 i]
    simp only[Nat.add_zero,Array.length_toList,u1]
    by_cases a:i < o
    · rw[if_neg (by omega),if_pos a]
    · rw[if_neg a]
      by_cases b:i < o+s
      · rw[if_pos (by omega),if_pos b]; simp
      · rw[if_neg (by omega),if_neg b]
   obtain⟨cs',cells',r1,r2,r3,r4,r5,r6⟩:=GZ (ps:=ps) (vs:=vs) (cs:=cs.take o++p.cells s++cs.drop (o+s)) (cells:=new) h (by simpa using hl) (fun i p v a b=>hp (i+1) p v (by simpa using a) (by simpa using b))
    (by rw[pV _ _ u3 (by omega)]; exact h1) (by rw[f1]; exact h2) (fun c hc=>by
     obtain⟨i,hi,rfl⟩:=Array.getElem_of_mem hc
     have:=hget i
     rw[Array.getElem?_eq_getElem hi] at this
     split at this
     · exact h3 _ (Array.mem_of_getElem? this.symm)
     · split at this
       · exact u2 _ (Array.mem_of_getElem? this.symm)
       · exact h3 _ (Array.mem_of_getElem? this.symm))
    (fun i q c hq hc=>by
     rw[iL _ _ u3 (by omega)] at hq
     rw[hget i] at hc
     split at hq
     · rename_i a; rw[if_pos a] at hc; exact h4 i q c hq hc
     · rename_i a
       rw[if_neg a] at hc
       split at hq
       · rename_i b; rw[if_pos b] at hc; exact u4 _ q c hq hc
       · rename_i b; rw[if_neg b] at hc; exact h4 i q c hq hc)
   refine⟨cs',cells',r1,?_,r3,r4,r5,r6⟩
   unfold Instr.fill
   simp only[hpl,u1]
   rw[if_neg (by simp; omega)]
   rw[←r2]
   congr 1
theorem QZ {t:TypeId} {ps:List (Nat×PV)} {vs:Array (Nat×Value)} {K:PV→ah β} (h:BG E t ps K≠ .stuck) (hl:vs.toList.length=ps.length)
 (hp:∀ (i:Nat) (p:Nat×PV) (v:Nat×Value),ps[i]? =some p→vs.toList[i]? =some v→p.1=v.1∧RP F κ N w p.2 v.2):
 ∃ q u,BG E t ps K=K q∧(Instr.build t vs).run E.P w= .ok u w∧RP F κ N w q u:=by
 unfold BG at h ⊢
 cases hs:kJ E.P t with
 |none=>simp[hs] at h
 |some n=>
  cases hz:((E.P.info? t).bind (·.zero)).bind (l9 E.P t) with
  |none=>simp[hs,hz] at h
  |some z=>
   simp only[hs,hz] at h ⊢
   obtain⟨place,hpl,e1⟩:=aB h
   rw[e1] at h ⊢
   clear e1
   obtain⟨g1,e1⟩:=dQ h
   rw[e1] at h ⊢
   clear e1
   obtain⟨i,zv,i1,i2,i3⟩:=AA hz
   have hzr:RP F κ N w z zv:=lG i3
   obtain⟨z1,z2⟩:=qc hzr g1
   obtain⟨z3,z4⟩:=hzr.cells z1 z2
   have fin:∀ place:Nat→Option (Nat×Nat),Ag n place (z.cells n) ps (fun cs=>K (xR cs))≠ .stuck→(∀ cells,Instr.fill place zv.cells vs.toList=some cells→E.P.built t vs.toList=some cells)→
    ∃ q u,Ag n place (z.cells n) ps (fun cs=>K (xR cs))=K q∧(Instr.build t vs).run E.P w= .ok u w∧RP F κ N w q u:=by
    intro place hne hb
    obtain⟨cs',cells',r1,r2,r3,r4,r5,r6⟩:=GZ hne hl hp z3 z1 z2 z4
    refine⟨_,_,r1,run_build w t vs cells' (hb _ r2),?_⟩
    have:=zX (κ:=κ) (N:=N) (w:=w) (F:=F) (cs:=cs') (vs:=cells'.toList) (by simp; omega) (by simpa using r5) (fun i p v a b=>r6 i p v a (by simpa using b))
    simpa using this
   refine fin place h fun cells hc=>?_
   unfold aaT at hpl
   unfold Program.built
   cases hu:E.P.underlying t with
   |none=>simp[hu] at hpl
   |some d=>
    cases d with
    |struct fs=>
     simp only[hu,Option.map_eq_some_iff] at hpl
     obtain⟨places,e2,rfl⟩:=hpl
     simp only[i1,i2,e2]
     simpa using hc
    |array m e=>
     simp only[hu,Option.map_eq_some_iff] at hpl
     obtain⟨ie,e2,rfl⟩:=hpl
     simp only[i1,i2,e2]
     exact hc
    |_=>simp[hu] at hpl
theorem rY {H:List aj} (s:SI F κ w H) {F':Nat→Prop} {ps:List PV} {vs:List Value} {xs:List T} (hp:∀ (i:Nat) (p:PV) (v:Value),ps[i]? =some p→vs[i]? =some v→RP F κ H.length w p v) (hx:PV.lF H ps=some xs) (a:∀ b,F b→F' b)
 (hr:∀ l∈PV.dU ps,∀ (e:TypeId) (k:Nat) (xs:List T) (b:Nat),H[l]? =some (.row e k xs)→(κ l).ownBlock=some b→F' b):
 xs.length=ps.length∧∀ (i:Nat) (x:T) (v:Value),xs[i]? =some x→vs[i]? =some v→Rd F' w x v:=by
 obtain⟨h1,h2⟩:=vG hx
 refine⟨h1,fun i x v g1 g2=>?_⟩
 obtain⟨p,h3,h4⟩:=h2 i x g1
 exact kS s (hp i p v h3 g2) a h4 fun l hl=>hr l (uP (List.mem_of_getElem? h3) hl)
theorem Df {α:Type} {f:α→Bool} {r:ah β}:∀ {xs:List α},bW f xs r≠ .stuck→(∀ x∈xs,f x=true)∧bW f xs r=r
 | [],h=>⟨by simp,rfl⟩
 |x::xs,h=>by
  simp only[bW] at h ⊢
  obtain⟨h1,h2⟩:=dQ h
  rw[h2] at h ⊢
  obtain⟨h3,h4⟩:=Df h
  exact⟨fun y hy=>(List.mem_cons.1 hy).elim (fun e=>e ▸ h1) (h3 y),h4⟩
theorem FI {dr:Bool} {t:TypeId} {n:Nat} {ps:List (Nat×PV)} {vs:Array (Nat×Value)} {K:PV→St→ah β} (h:jX E dr st t n ps K≠ .stuck) (h0:N0≤st.heap.length) (s:SI F κ w st.heap) (ht:TR F κ w st tm) (hl:vs.toList.length=ps.length)
 (hp:∀ (i:Nat) (p:Nat×PV) (v:Nat×Value),ps[i]? =some p→vs.toList[i]? =some v→p.1=v.1∧RP F κ st.heap.length w p.2 v.2):
 ∃ q u st' F' κ' w',jX E dr st t n ps K=K q st'∧(Instr.buildSlice t n vs).run E.P w= .ok u w'∧Next' N0 F κ w st tm q u F' κ' w' st'∧(dr=true→st'=st):=by
 unfold jX at h ⊢
 cases he:AY E.P t with
 |none=>simp[he] at h
 |some e=>
  cases hs:kJ E.P e with
  |none=>simp[he,hs] at h
  |some k=>
   cases k with
   |zero=>simp[he,hs] at h
   |succ k=>
    simp only[he,hs] at h ⊢
    obtain⟨g1,e1⟩:=jq h
    rw[e1] at h ⊢
    clear e1
    simp only[Bool.not_eq_false',Bool.and_eq_true,decide_eq_true_eq,beq_iff_eq] at g1
    obtain⟨⟨g1,g2⟩,g3⟩:=g1
    obtain⟨i,i1,i2⟩:=pK hs
    cases hz:i.zero with
    |none=>unfold nJ at g2; simp[i1,hz] at g2
    |some zv=>
     have hzs:zv.cells.size=k+1:=by unfold nJ at g2; simpa[i1,hz] using g2
     have hpn:ps.length=n:=by have:=congrArg List.length g3; simpa using this
     have hparts:vs.toList=((vs.toList.map (·.2)).zipIdx 0).map fun x=>(x.2,x.1):=by
      apply List.ext_getElem
      · simp
      · intro j h1 h2
        have hj:j < ps.length:=by omega
        have h4:=(hp j _ _ (List.getElem?_eq_getElem hj) (List.getElem?_eq_getElem h1)).1
        have h5:(ps.map (·.1))[j]? =(List.range n)[j]? :=by rw[g3]
        rw[List.getElem?_map,List.getElem?_eq_getElem hj,List.getElem?_range (by omega)] at h5
        simp only[Option.map_some,Option.some.injEq] at h5
        simp only[List.getElem_map,List.getElem_zipIdx,Nat.zero_add]
        rw[h5] at h4
        exact Prod.ext h4.symm rfl
     have hvl:(vs.toList.map (·.2)).length=n:=by simp; simpa[hpn] using hl
     have hrun:(∀ v∈vs.toList.map (·.2),v.cells.size=k+1)→(Instr.buildSlice t n vs).run E.P w= .ok (.slice (some ⟨w.heap.size,0,none⟩) n n) (w.alloc (.cells ((vs.toList.map (·.2)).flatMap fun v=>v.cells.toList).toArray e)):=by
      intro hsz
      rcases Nat.eq_zero_or_pos n with e0|e0
      · subst e0
        have:vs= #[]:=by
         have:vs.toList.length=0:=by simpa using hvl
         apply Array.ext'; exact List.eq_nil_of_length_eq_zero this
        subst this
        simp[Instr.buildSlice,run_underlying (jO he),jM hs,Instr.fill,newRow,Array.range_zero']
      · have hf:=Great.fill_whole (s:=k+1) (by omega) (vs.toList.map (·.2)) ((Array.range (n*i.size)).map (zv.cells[· % zv.cells.size]!)) hsz (by rw[hvl,i2]; simp)
        rw[←hparts,←i2] at hf
        exact run_buildSlice w t e n vs _ i zv (jO he) i1 hz (by rw[i2]; omega) (by rw[i2]; exact Nat.ne_of_gt (Nat.mul_pos e0 (by omega))) hf
     have hp2:∀ (i:Nat) (p:PV) (v:Value),(ps.map (·.2))[i]? =some p→(vs.toList.map (·.2))[i]? =some v→RP F κ st.heap.length w p v:=by
      intro i p v a b
      rw[List.getElem?_map,Option.map_eq_some_iff] at a b
      obtain⟨p',a,rfl⟩:=a
      obtain⟨v',b,rfl⟩:=b
      exact(hp i p' v' a b).2
     have hlen:((vs.toList.map (·.2)).flatMap fun v=>v.cells.toList).length=n*(k+1)∨True:= .inr trivial
     cases hfr:PV.lF st.heap (ps.map (·.2)) with
     |some xs=>
      simp only[hfr] at h ⊢
      obtain⟨g4,e1⟩:=jq h
      rw[e1] at h ⊢
      clear e1
      obtain⟨g5,e1⟩:=Df h
      rw[e1] at h ⊢
      clear e1
      obtain⟨F',s',a1,a2,a3,a4,a5,a6⟩:=jS (PV.dU (ps.map (·.2))) s
      obtain⟨x1,x2⟩:=rY s hp2 hfr a1 a4
      have hxl:xs.length=n:=by rw[x1]; simpa using hpn
      have hsz:∀ v∈vs.toList.map (·.2),v.cells.size=k+1:=by
       intro v hv
       obtain⟨j,hj,rfl⟩:=List.getElem_of_mem hv
       have XH:j < xs.length:=by omega
       exact(rM (x2 j _ _ (List.getElem?_eq_getElem XH) (List.getElem?_eq_getElem hj)) (g5 _ (List.getElem_mem XH))).2.2.1
      have hcell:∀ m,((vs.toList.map (·.2)).flatMap fun v=>v.cells.toList)[m]? =((vs.toList.map (·.2))[m / (k+1)]?).bind fun v=>v.cells[m % (k+1)]? :=fun m=>Great.flat_get (by omega) _ hsz m
      have akd:((vs.toList.map (·.2)).flatMap fun v=>v.cells.toList).length=n*(k+1):=by
       have:∀ (l:List Value),(∀ v∈l,v.cells.size=k+1)→(l.flatMap fun v=>v.cells.toList).length=l.length*(k+1):=by
        intro l
        induction l with
        |nil=>simp
        |cons v l ih=>intro h; rw[List.flatMap_cons,List.length_append,ih (fun u hu=>h u (List.mem_cons_of_mem _ hu)),Array.length_toList,h v List.mem_cons_self,List.length_cons,Nat.succ_mul]; omega
       rw[this _ hsz,hvl]
      have hbig:n≤big:=by
       have:n≤n*(k+1):=Nat.le_mul_of_pos_right _ (by omega)
       have:(1024:Nat)≤big:=by decide
       omega
      have hmax:=Af
      have hone:∀ c∈((vs.toList.map (·.2)).flatMap fun v=>v.cells.toList).toArray,c.oneCell'=true:=by
       intro c hc
       simp only[List.mem_toArray,List.mem_flatMap] at hc
       obtain⟨v,hv,hc⟩:=hc
       obtain⟨j,hj,rfl⟩:=List.getElem_of_mem hv
       have XH:j < xs.length:=by omega
       exact(rM (x2 j _ _ (List.getElem?_eq_getElem XH) (List.getElem?_eq_getElem hj)) (g5 _ (List.getElem_mem XH))).2.2.2.1 c (by simpa using hc)
      have hel:∀ x∈xs,x.cells.length=k+1∧(k+1=1→x.isAgg=false):=by
       intro x hx
       obtain⟨j,hj,rfl⟩:=List.getElem_of_mem hx
       have XH:j < (vs.toList.map (·.2)).length:=by omega
       have:=rM (x2 j _ _ (List.getElem?_eq_getElem hj) (List.getElem?_eq_getElem XH)) (g5 _ (List.getElem_mem hj))
       exact⟨this.1,this.2.1⟩
      have hrd:∀ (i:Nat) (x:T) (j:Nat) (y:T) (v:Value),xs[i]? =some x→x.cells[j]? =some y→((vs.toList.map (·.2)).flatMap fun v=>v.cells.toList).toArray[i*(k+1)+j]? =some v→Rd F' w y v:=by
       intro i x j y v hx hy hv
       have hj:j < k+1:=by rw[←(hel x (List.mem_of_getElem? hx)).1]; exact(List.getElem?_eq_some_iff.1 hy).1
       have hi:i < (vs.toList.map (·.2)).length:=by have:=(List.getElem?_eq_some_iff.1 hx).1; omega
       rw[List.getElem?_toArray,hcell,Nat.mul_comm i,Nat.mul_add_div (by omega),Nat.mul_add_mod,Nat.div_eq_of_lt hj,Nat.mod_eq_of_lt hj,Nat.add_zero,List.getElem?_eq_getElem hi] at hv
       exact(rM (x2 i x _ hx (List.getElem?_eq_getElem hi)) (g5 x (List.mem_of_getElem? hx))).2.2.2.2 j y v hy hv
      cases dr with
      |false=>
       simp only[cond_false] at h ⊢
       have ht':TR F' κ w ⟨st.tmps,aI (PV.dU (ps.map (·.2))) st.heap⟩ tm:=fun i q v c d=>by simpa[bU] using(ht i q v c d).freeze a1
       obtain⟨κ',hn⟩:=EO (st:=⟨st.tmps,aI (PV.dU (ps.map (·.2))) st.heap⟩) (N0:=N0) (e:=e) (k:=k+1) (cap:=n) (xs:=xs) (cells:=((vs.toList.map (·.2)).flatMap fun v=>v.cells.toList).toArray) (by simpa[bU] using h0) s' ht' (by omega) (by omega) (by simpa using akd) (by omega) hel hone hrd
       have hev:Ev N0 F κ w st.heap F' κ w (aI (PV.dU (ps.map (·.2))) st.heap):=Ev.freeze _ h0 a1 a2 a3 a5
       rw[hxl] at hn
       refine⟨_,_,_,F',κ',_,rfl,hrun hsz,⟨hn.si,hev.trans hn.ev,?_,hn.tl,hn.tr⟩,by simp⟩
       simpa[bU] using hn.rp
      |true=>
       simp only[cond_true] at h ⊢
       have hnr:PV.dU (ps.map (·.2))= []:=by simpa using g4
       have x2':∀ (i:Nat) (x:T) (v:Value),xs[i]? =some x→(vs.toList.map (·.2))[i]? =some v→Rd F w x v:=(rY s hp2 hfr (fun _ h=>h) (by rw[hnr]; simp)).2
       have hold:∀ b,b < w.heap.size→(w.alloc (.cells ((vs.toList.map (·.2)).flatMap fun v=>v.cells.toList).toArray e)).heap[b]? =w.heap[b]? :=fun b hb=>heap_alloc_old' w _ b hb
       have an1:Rd (fun b=>F b∨b=w.heap.size) (w.alloc (.cells ((vs.toList.map (·.2)).flatMap fun v=>v.cells.toList).toArray e)) (.sl (k+1) xs) (.slice (some ⟨w.heap.size,0,none⟩) xs.length n):=by
        refine .sl w.heap.size 0 (fun i j=>((vs.toList.map (·.2)).flatMap fun v=>v.cells.toList).getD (i*(k+1)+j) undef) (by omega) (by omega) hel (fun _=>⟨rfl,.inr rfl⟩) (fun i j hi hj=>?_) (fun i j hi hj=>?_) (fun i x j y hx hy=>?_)
        all_goals
         have hlt:∀ i j,i < xs.length→j < k+1→i*(k+1)+j < ((vs.toList.map (·.2)).flatMap fun v=>v.cells.toList).length:=fun i j hi hj=>by
          rw[akd]
          calc i*(k+1)+j < i*(k+1)+(k+1):=by omega
           _=(i+1)*(k+1):=by rw[Nat.succ_mul]
           _≤n*(k+1):=Nat.mul_le_mul_right _ (by omega)
        · show(List.getD _ _ undef).oneCell'=true
          rw[List.getD_eq_getElem?_getD,List.getElem?_eq_getElem (hlt i j hi hj)]
          exact hone _ (by simp)
        · show World.cell? _ _=some (List.getD _ _ undef)
          rw[List.getD_eq_getElem?_getD,List.getElem?_eq_getElem (hlt i j hi hj)]
          simp only[World.cell?,heap_alloc_new',Nat.zero_add,List.getElem?_toArray,List.getElem?_eq_getElem (hlt i j hi hj),Option.getD_some,Option.isSome_none,Bool.false_eq_true,if_false]
        · have hi:i < xs.length:=(List.getElem?_eq_some_iff.1 hx).1
          have hj:j < k+1:=by rw[←(hel x (List.mem_of_getElem? hx)).1]; exact(List.getElem?_eq_some_iff.1 hy).1
          have hiv:i < (vs.toList.map (·.2)).length:=by omega
          have hg:((vs.toList.map (·.2)).flatMap fun v=>v.cells.toList)[i*(k+1)+j]? =some (((vs.toList.map (·.2)).flatMap fun v=>v.cells.toList).getD (i*(k+1)+j) undef):=by
           rw[List.getD_eq_getElem?_getD,List.getElem?_eq_getElem (hlt i j hi hj)]; rfl
          show Rd _ _ y (List.getD _ _ undef)
          generalize hvv:(((vs.toList.map (·.2)).flatMap fun v=>v.cells.toList).getD (i*(k+1)+j) undef)=vv at*
          rw[hcell,Nat.mul_comm i,Nat.mul_add_div (by omega),Nat.mul_add_mod,Nat.div_eq_of_lt hj,Nat.mod_eq_of_lt hj,Nat.add_zero,List.getElem?_eq_getElem hiv] at hg
          exact((rM (x2' i x _ hx (List.getElem?_eq_getElem hiv)) (g5 x (List.mem_of_getElem? hx))).2.2.2.2 j y vv hy hg).mono (fun _ h=> .inl h) (fun b hb=>hold b (s.fl b hb))
       have hrun':=hrun hsz
       rw[←hxl] at hrun' an1
       refine⟨_,_,_,fun b=>F b∨b=w.heap.size,κ,w.alloc (.cells ((vs.toList.map (·.2)).flatMap fun v=>v.cells.toList).toArray e),rfl,by rw[←hxl]; exact hrun',Next'.fresh h0 s ht rfl rfl rfl (by simp) hold (fun _ h=> .inl h) (fun b h=>h.imp id (by omega)) (fun b h=>?_) (.full an1),fun _=>rfl⟩
       rcases h with h|rfl
       · have:=s.fl b h; simp; omega
       · simp
     |none=>
      simp only[hfr] at h ⊢
      obtain⟨g4,e1⟩:=bD h
      rw[e1] at h ⊢
      clear e1
      simp only[Bool.and_eq_true,beq_iff_eq,Bool.not_eq_true'] at g4
      obtain⟨rfl,rfl⟩:=g4
      obtain⟨g5,e1⟩:=Df h
      rw[e1] at h ⊢
      clear e1
      have hone:∀ (j:Nat) (p:PV) (v:Value),(ps.map (·.2))[j]? =some p→(vs.toList.map (·.2))[j]? =some v→v.oneCell'=true:=by
       intro j p v a b
       have g:=g5 p (List.mem_of_getElem? a)
       simp only[Bool.and_eq_true,Bool.not_eq_true'] at g
       obtain⟨⟨g6,g7⟩,g8⟩:=g
       have hr:=hp2 j p v a b
       obtain⟨o1,o2⟩:=qc hr g6
       cases v with
       |agg us=>
        exfalso
        cases hr with
        |t h=>cases h; simp[T.isAgg] at g8
        |agg=>simp at g7
        |junk=>simp[PV.okS] at g6
       |tuple us=>have:=o2 (.tuple us) (by simp[Value.cells]); simp[Value.oneCell'] at this
       |_=>rfl
      have hcs:∀ v∈vs.toList.map (·.2),v.cells= #[v]:=by
       intro v hv
       obtain⟨j,hj,rfl⟩:=List.getElem_of_mem hv
       have hjp:j < (ps.map (·.2)).length:=by simp; simp at hj; omega
       exact cells_one (hone j _ _ (List.getElem?_eq_getElem hjp) (List.getElem?_eq_getElem hj))
      have Ri:((vs.toList.map (·.2)).flatMap fun v=>v.cells.toList)=vs.toList.map (·.2):=by
       have:∀ (l:List Value),(∀ v∈l,v.cells= #[v])→(l.flatMap fun v=>v.cells.toList)=l:=by
        intro l
        induction l with
        |nil=>simp
        |cons v l ih=>intro h; rw[List.flatMap_cons,ih (fun u hu=>h u (List.mem_cons_of_mem _ hu)),h v List.mem_cons_self]; rfl
       exact this _ hcs
      have hrun':=hrun (fun v hv=>by rw[hcs v hv]; rfl)
      rw[Ri] at hrun'
      have hold:∀ b,b < w.heap.size→(w.alloc (.cells (vs.toList.map (·.2)).toArray e)).heap[b]? =w.heap[b]? :=fun b hb=>heap_alloc_old' w _ b hb
      refine⟨_,_,_,F,upd κ st.heap.length (.slice (some ⟨w.heap.size,0,none⟩) n n),_,rfl,hrun',Next'.push h0 s ht rfl rfl rfl (by simp) hold (fun _ h=>h) (fun _ h=> .inl h) (fun b hb=>by have:=s.fl b hb; simp; omega) ?_ (fun b hb=>?_) (.own (by omega) (upd_same κ _ _)),by simp⟩
      · have hel:(ps.map (·.2)).length=n:=by simpa using hpn
        have hmax:=Af
        have hbig:n≤big:=by
         have:(1024:Nat)≤big:=by decide
         omega
        refine⟨vs.toList.map (·.2),?_,by omega,by omega,fun c hc=>?_,fun i p v a b=>?_⟩
        · rw[upd_same,hel]
          exact⟨by rw[hvl]; omega,.inr ⟨w.heap.size,n,(vs.toList.map (·.2)).toArray,rfl,by omega,heap_alloc_new' w _,Nat.le_refl _,by omega,by simpa using hvl,by rw[List.take_of_length_le (by simp; simp at hvl; omega)]⟩⟩
        · obtain⟨j,hj,rfl⟩:=List.getElem_of_mem hc
          have hjp:j < (ps.map (·.2)).length:=by simp; simp at hj; omega
          exact hone j _ _ (List.getElem?_eq_getElem hjp) (List.getElem?_eq_getElem hj)
        · exact(hp2 i p v a b).push s _ hold (fun _ h=>h)
      · simp only[blk,upd_same,Value.ownBlock,Option.some.injEq] at hb
        subst hb
        exact⟨Nat.le_refl _,by simp,fun hf=>absurd (s.fl _ hf) (by omega)⟩
end
end
end Go.aT
