/- The texts of a proof, one behind the other: an interpreter and its soundness, what the functions of the program answer, and plain laws on that. -/
import Derived.Test.YtjlpnhpfbgbkhaaGreatK2
set_option linter.unusedVariables false
set_option linter.unusedSimpArgs false
set_option linter.unnecessarySimpa false
set_option linter.unusedSectionVars false
set_option maxRecDepth 100000
namespace Go.aT
section
open Go.RowKit
section
variable {β:Type} {E:Env} {st:St} {F:Nat→Prop} {κ:Nat→Value} {w:World}
theorem YN {op:BinOp} {t t':TypeId} {x y:Operand} {px py:PV} {K:PV→ah β} {vx vy:Value} {N:Nat} (h:FW E op t t' x y px py K≠ .stuck) (hx:RP F κ N w px vx) (hy:RP F κ N w py vy) (ix:Is x vx) (iy:Is y vy):
 ∃ q u,FW E op t t' x y px py K=K q∧(do eqGuard op t x y vx vy; binOp op t vx vy:Sem Value).run E.P w= .ok u w∧RP F κ N w q u:=by
 unfold FW at h ⊢
 cases hk:qC E.P t with
 |some k=>
  simp only[hk] at h ⊢
  have hsh:(op= .shl∨op= .shr)→∃ q u,FW E op t t' x y px py K=K q∧(do eqGuard op t x y vx vy; binOp op t vx vy:Sem Value).run E.P w= .ok u w∧RP F κ N w q u:=by
   intro ho
   unfold FW
   simp only[hk]
   have key:∀ k',qC E.P t'=some k'→(match px,py with
    | .t a,.t b=>iT k a fun a=>iT k' b fun b=>wR op k a b fun r=>K (.t r)
    |_,_=> .stuck)≠ .stuck→∃ q u,(match px,py with
    | .t a,.t b=>iT k a fun a=>iT k' b fun b=>wR op k a b fun r=>K (.t r)
    |_,_=> .stuck)=K q∧(do eqGuard op t x y vx vy; binOp op t vx vy:Sem Value).run E.P w= .ok u w∧RP F κ N w q u:=by
    intro k' hk' h
    cases hx with
    | @t a _ r1=>
     cases hy with
     | @t b _ r2=>
      simp only[] at h ⊢
      obtain⟨n,rfl,e1⟩:=sQ h
      rw[e1] at h ⊢
      obtain⟨m,rfl,e2⟩:=sQ h
      rw[e2] at h ⊢
      cases r1 with
      |int h1=>
       cases r2 with
       |int h2=>
        obtain⟨q,u,e3,e4,e5⟩:=RQ (E:=E) (F:=F) (w:=w) (t:=t) (k':=k') h h1
        exact⟨_,u,e3,by simp only[Sem.run_bind,zG,Result.andThen_ok,e4],.t e5⟩
     |_=>exact absurd rfl h
    |_=>exact absurd rfl h
   rcases ho with rfl|rfl
   · simp only[] at h ⊢
     cases hk':qC E.P t' with
     |none=>simp[hk'] at h
     |some k'=>simp only[hk'] at h ⊢; exact key k' hk' h
   · simp only[] at h ⊢
     cases hk':qC E.P t' with
     |none=>simp[hk'] at h
     |some k'=>simp only[hk'] at h ⊢; exact key k' hk' h
  have har:(op≠ .shl∧op≠ .shr)→(match px,py with
   | .t a,.t b=>iT k a fun a=>iT k b fun b=>wF op k a b fun r=>K (.t r)
   |_,_=> .stuck)≠ .stuck→∃ q u,(match px,py with
   | .t a,.t b=>iT k a fun a=>iT k b fun b=>wF op k a b fun r=>K (.t r)
   |_,_=> .stuck)=K q∧(do eqGuard op t x y vx vy; binOp op t vx vy:Sem Value).run E.P w= .ok u w∧RP F κ N w q u:=by
   intro ho h
   cases hx with
   | @t a _ r1=>
    cases hy with
    | @t b _ r2=>
     simp only[] at h ⊢
     obtain⟨n,rfl,e1⟩:=sQ h
     rw[e1] at h ⊢
     obtain⟨m,rfl,e2⟩:=sQ h
     rw[e2] at h ⊢
     cases r1 with
     |int h1=>
      cases r2 with
      |int h2=>
       obtain⟨q,u,e3,e4,e5⟩:=QW (E:=E) (F:=F) (w:=w) (t:=t) ho h h1 h2
       exact⟨_,u,e3,by simp only[Sem.run_bind,zG,Result.andThen_ok,e4],.t e5⟩
    |_=>exact absurd rfl h
   |_=>exact absurd rfl h
  cases op with
  |shl=>have:=hsh (.inl rfl); unfold FW at this; simpa only[hk] using this
  |shr=>have:=hsh (.inr rfl); unfold FW at this; simpa only[hk] using this
  |_=>exact har ⟨by simp,by simp⟩ h
 |none=>
  simp only[hk] at h ⊢
  cases op with
  |eql=>
   obtain⟨b,e1,e2,_⟩:=OI h hx hy ix iy hk
   exact⟨_,_,e1,e2,.t .bool⟩
  |neq=>
   obtain⟨b,e1,_,e2⟩:=OI h hx hy ix iy hk
   exact⟨_,_,e1,e2,.t .bool⟩
  |_=>exact absurd rfl h
theorem adt {op:UnOp} {t:TypeId} {p:PV} {K:PV→ah β} {v:Value} {N:Nat} (h:unK E op t p K≠ .stuck) (hp:RP F κ N w p v):
 ∃ q u,unK E op t p K=K q∧(Op.unary op v).run E.P w= .ok u w∧RP F κ N w q u:=by
 unfold unK at h ⊢
 cases hp with
 | @t x _ r=>
  cases op with
  |not=>
   simp only[] at h ⊢
   obtain⟨b,rfl,e⟩:=Xv h
   rw[e]
   cases r
   exact⟨_,_,rfl,by simp[Op.unary],.t .bool⟩
  |neg=>
   simp only[] at h ⊢
   obtain⟨k,hk,e⟩:=aB h
   rw[e] at h ⊢
   obtain⟨n,rfl,e2⟩:=sQ h
   rw[e2]
   cases r
   exact⟨_,_,rfl,by simp[Op.unary,Op.intArith],.t (.int (Az _ _))⟩
  |_=>exact absurd rfl h
 |_=>cases op<;>exact absurd rfl h
theorem VI {s d:TypeId} {p:PV} {K:PV→ah β} {v:Value} {N:Nat} (h:Ir E s d p K≠ .stuck) (hp:RP F κ N w p v):
 ∃ q u,Ir E s d p K=K q∧(convert s d v).run E.P w= .ok u w∧RP F κ N w q u:=by
 unfold Ir at h ⊢
 cases hp with
 | @t x _ r=>
  simp only[] at h ⊢
  obtain⟨k,hk,e⟩:=aB h
  rw[e] at h ⊢
  obtain⟨k',hk',e'⟩:=aB h
  rw[e'] at h ⊢
  obtain⟨n,rfl,e2⟩:=sQ h
  rw[e2]
  cases r
  exact⟨_,_,rfl,by simp[convert,run_underlying (tH hk),run_underlying (tH hk'),Conv.intToInt],.t (.int (Az _ _))⟩
 |_=>exact absurd rfl h
def xX (F:Nat→Prop) (κ:Nat→Value) (w:World) (H:List aj) (k:Nat) (xs:List T) (p:PV) (v:Value):Prop:=
 ∃ A n c,v= .slice A n c∧n=xs.length∧n≤c∧xs.length≤big∧(∀ x∈xs,x.cells.length=k∧(k=1→x.isAgg=false))∧
  (∃ (b o:Nat) (val:Nat→Nat→Value),(0 < n→A=some ⟨b,o,none⟩∧(F b∨∃ l e xs',l∈p.rows∧H[l]? =some (.row e k xs')∧(κ l).ownBlock=some b))∧
   (∀ i j,i < xs.length→j < k→(val i j).oneCell'=true)∧(∀ i j,i < xs.length→j < k→w.cell? ⟨b,o+i*k+j,none⟩=some (val i j))∧
   (∀ (i:Nat) (x:T) (j:Nat) (y:T),xs[i]? =some x→x.cells[j]? =some y→Rd F w y (val i j)))
theorem xX.IB {H:List aj} {k:Nat} {xs:List T} {p:PV} {v:Value} (h:Rd F w (.sl k xs) v):xX F κ w H k xs p v:=by
 cases h with
 | @sl _ _ A c b o val hn hb hk hA h1 hc hr=>exact⟨A,_,c,rfl,rfl,hn,hb,hk,b,o,val,fun h=>⟨(hA h).1,.inl (hA h).2⟩,h1,hc,hr⟩
theorem xX.ER {H:List aj} {N l e k:Nat} {xs:List T} (h:RO F κ N w l (.row e k xs)) (ho:H[l]? =some (.row e k xs)):xX F κ w H k xs (.own l) (κ l):=by
 obtain⟨cs,h1,h2,h3,h4,h5⟩:=h
 have hcs:cs.length=xs.length*k:=h1.1
 have hin:∀ i j,i < xs.length→j < k→i*k+j < cs.length:=fun i j hi hj=>by
  rw[hcs]
  calc i*k+j < i*k+k:=by omega
   _=(i+1)*k:=by rw[Nat.succ_mul]
   _≤xs.length*k:=Nat.mul_le_mul_right _ hi
 rcases h1.2 with ⟨e1,e2⟩|⟨g,cap,cur,e1,e2,e3,e4,e5,e6,e7⟩
 · refine⟨none,0,0,e1,by omega,by omega,h2,h3,0,0,fun _ _=>undef,fun h=>by omega,fun i j hi=>by omega,fun i j hi=>by omega,fun i x j y hx=>?_⟩
   have:=(List.getElem?_eq_some_iff.1 hx).1
   omega
 · refine⟨_,_,cap,e1,rfl,e4,h2,h3,g,0,fun i j=>cs.getD (i*k+j) undef,fun _=>⟨rfl,.inr ⟨l,e,xs,by simp[PV.rows],ho,by rw[e1]; rfl⟩⟩,fun i j hi hj=>?_,fun i j hi hj=>?_,fun i x j y hx hy=>?_⟩
   · show(cs.getD (i*k+j) undef).oneCell'=true
     rw[List.getD_eq_getElem?_getD,List.getElem?_eq_getElem (hin i j hi hj)]; exact h4 _ (List.getElem_mem _)
   · have:=h1.cells (g:=g) (by rw[e1]; rfl) (i*k+j) (cs.getD (i*k+j) undef) (by rw[List.getD_eq_getElem?_getD,List.getElem?_eq_getElem (hin i j hi hj)]; rfl)
     rw[add_mid,Nat.zero_add] at this
     rwa [Nat.zero_add]
   · have hi:i < xs.length:=(List.getElem?_eq_some_iff.1 hx).1
     have hj:j < k:=by rw[←(h3 x (List.mem_of_getElem? hx)).1]; exact(List.getElem?_eq_some_iff.1 hy).1
     exact h5 i x j y _ hx hy (by show cs[i*k+j]? =some (cs.getD (i*k+j) undef); rw[List.getD_eq_getElem?_getD,List.getElem?_eq_getElem (hin i j hi hj)]; rfl)
theorem xX.view {H:List aj} {k lo hi l:Nat} {xs:List T} {p:PV} {r v:Value} (hv:QV r v k lo hi) (h:xX F κ w H k xs p r) (hp:p.rows= [l]) (hh:hi≤xs.length):
 xX F κ w H k ((xs.take hi).drop lo) (.view l k lo hi) v:=by
 obtain⟨A,n,c,A',⟨rfl,vb⟩,rfl,h1,h2,h3⟩:=hv
 obtain⟨B,n',c',e1,rfl,e3,e4,e5,b,o,val,e6,e7,e8,e9⟩:=h
 injection e1 with q1 q2 q3
 subst q1; subst q2; subst q3
 have hlen:((xs.take hi).drop lo).length=hi - lo:=by simp; omega
 have hget:∀ (i:Nat) (x:T),((xs.take hi).drop lo)[i]? =some x→xs[lo+i]? =some x:=by
  intro i x hx
  rw[List.getElem?_drop,List.getElem?_take] at hx
  split at hx
  · exact hx
  · cases hx
 refine⟨_,_,_,rfl,hlen.symm,by omega,by omega,fun x hx=>e5 x (List.mem_of_mem_take (List.mem_of_mem_drop hx)),b,o+lo*k,fun i j=>val (lo+i) j,fun h0=>?_,fun i j hi' hj=>e7 _ _ (by omega) hj,fun i j hi' hj=>?_,fun i x j y hx hy=>e9 _ x j y (hget i x hx) hy⟩
 · obtain⟨a1,a2⟩:=e6 (by omega)
   refine⟨?_,?_⟩
   · rcases h3 with ⟨rfl,_⟩|⟨b',o',rfl,rfl,h4⟩
     · cases a1
     · injection a1 with a1; injection a1 with a1 a3 a4; subst a1
       rw[h4 (by omega)]
       rw[show o=0 from a3.symm]; simp
   · rcases a2 with a2|⟨l',e',xs',b1,b2,b3⟩
     · exact .inl a2
     · rw[hp] at b1
       exact .inr ⟨l',e',xs',by simpa[PV.rows] using b1,b2,b3⟩
 · have:=e8 (lo+i) j (by omega) hj
   rw[Nat.add_mul] at this
   rw[show o+lo*k+i*k+j=o+(lo*k+i*k)+j by omega]
   exact this
theorem zi {k:Nat} {p:PV} {K:List T→ah β} {v:Value} (h:sK st k p K≠ .stuck) (s:SI F κ w st.heap) (hp:RP F κ st.heap.length w p v):
 ∃ xs,sK st k p K=K xs∧xX F κ w st.heap k xs p v:=by
 unfold sK at h ⊢
 cases hp with
 |nil=>exact⟨[],rfl,none,0,0,rfl,rfl,by omega,by simp,by simp,0,0,fun _ _=>undef,by omega,fun i j hi=>by simp at hi,fun i j hi=>by simp at hi,fun i x j y hx=>by simp at hx⟩
 | @own l A n c hN hl=>
  simp only[] at h ⊢
  cases ho:st.heap[l]? with
  |none=>simp[ho] at h
  |some obj=>
   have hro:=s.ro l obj ho
   cases obj with
   |row e k' xs=>
    simp only[ho] at h ⊢
    obtain⟨h1,h2⟩:=bD h
    obtain rfl:k'=k:=by simpa using h1
    exact⟨xs,h2,by rw[←hl]; exact xX.ER hro ho⟩
   |jT e k' xs=>
    simp only[ho] at h ⊢
    obtain⟨h1,h2⟩:=bD h
    obtain rfl:k'=k:=by simpa using h1
    exact⟨xs,h2,by rw[←hl]; exact xX.IB hro.1⟩
   |_=>simp[ho] at h
 | @view l k0 lo hi _ _ _ hN hl=>
  simp only[] at h ⊢
  cases ho:st.heap[l]? with
  |none=>simp[ho] at h
  |some obj=>
   have hro:=s.ro l obj ho
   cases obj with
   |row e k' xs=>
    simp only[ho] at h ⊢
    obtain⟨h1,h2⟩:=bD h
    simp only[Bool.and_eq_true,beq_iff_eq,decide_eq_true_eq] at h1
    obtain⟨⟨⟨rfl,rfl⟩,_⟩,h3⟩:=h1
    exact⟨_,h2,xX.view hl (xX.ER hro ho) (by simp[PV.rows]) h3⟩
   |jT e k' xs=>
    simp only[ho] at h ⊢
    obtain⟨h1,h2⟩:=bD h
    simp only[Bool.and_eq_true,beq_iff_eq,decide_eq_true_eq] at h1
    obtain⟨⟨⟨rfl,rfl⟩,_⟩,h3⟩:=h1
    exact⟨_,h2,xX.view (p:= .own l) hl (xX.IB hro.1) (by simp[PV.rows]) h3⟩
   |_=>simp[ho] at h
 | @full k' xs A hx=>
  simp only[] at h ⊢
  obtain⟨h1,h2⟩:=bD h
  obtain rfl:k'=k:=by simpa using h1
  exact⟨xs,h2,xX.IB hx⟩
 | @t x _ hx=>
  simp only[] at h ⊢
  obtain⟨xs,rfl,e⟩:=aa3 h
  exact⟨xs,e,xX.IB hx⟩
 |_=>exact absurd rfl h
end
end
section
open Go.RowKit
section
variable {F:Nat→Prop} {κ:Nat→Value} {w:World} {H:List aj}
theorem eu {α:Type} {H:List α} {l i:Nat} {o o':α} (hl:l < H.length) (h:(H.set l o)[i]? =some o'):(i=l∧o'=o)∨(i≠l∧H[i]? =some o'):=by
 by_cases e:i=l
 · subst e
   rw[List.getElem?_set_self hl] at h
   exact .inl ⟨rfl,by simpa using h.symm⟩
 · rw[List.getElem?_set_ne (by omega)] at h
   exact .inr ⟨e,h⟩
theorem aiK (s:SI F κ w H) {l:Nat} {e k:Nat} {xs:List T} (h:H[l]? =some (.row e k xs)):
 ∃ F',SI F' κ w (H.set l (.jT e k xs))∧(∀ b,F b→F' b)∧(∀ b,F' b→F b∨Own κ H b)∧(∀ b,Own κ (H.set l (.jT e k xs)) b→Own κ H b)∧(∀ b,(κ l).ownBlock=some b→F' b)∧
  (∀ b,F' b→F b∨(κ l).ownBlock=some b):=by
 have hl:l < H.length:=(List.getElem?_eq_some_iff.1 h).1
 have hro:=s.ro l _ h
 refine⟨fun b=>F b∨(κ l).ownBlock=some b,⟨fun i o hi=>?_,fun i o b hi hb=>?_,fun i j o o' b hi hj hb hb'=>?_,fun b hb=>?_⟩,fun b hb=> .inl hb,?_,?_,fun b hb=> .inr hb,fun b hb=>hb⟩
 · rw[List.length_set]
   rcases eu hl hi with ⟨rfl,rfl⟩|⟨hne,ho⟩
   · obtain⟨cs,h1,h2,h3,h4,h5⟩:=hro
     have hv:=xX.ER (F:=F) (κ:=κ) (w:=w) (N:=H.length) (l:=i) (e:=e) ⟨cs,h1,h2,h3,h4,h5⟩ h
     obtain⟨A,n,c,e1,e2,e3,e4,e5,b,o,val,e6,e7,e8,e9⟩:=hv
     subst e2
     refine⟨?_,?_⟩
     · rw[e1]
       refine .sl b o val e3 e4 e5 (fun h=>?_) e7 e8 fun i x j y a c=>(e9 i x j y a c).mono (fun b hb=> .inl hb) (fun _ _=>rfl)
       obtain⟨a1,a2⟩:=e6 h
       refine⟨a1,?_⟩
       rcases a2 with a2|⟨l',e',xs',b1,b2,b3⟩
       · exact .inl a2
       · simp[PV.rows] at b1
         subst b1
         rw[e1] at b3
         exact .inr b3
     · intro ad n' c' hk
       rcases h1.2 with ⟨q1,_⟩|⟨g,cap,cur,q1,_⟩
       · rw[q1] at hk; cases hk
       · rw[q1] at hk; injection hk with hk; injection hk with hk; exact⟨g,hk.symm⟩
   · exact(s.ro i o ho).mono (fun b hb=> .inl hb) (fun _ _=>rfl) (fun _ _=>rfl) rfl fun l' hl'=>⟨rfl,(s.ro i o ho).bound l' hl'⟩
 · rcases eu hl hi with ⟨rfl,rfl⟩|⟨hne,ho⟩
   · simp[blk] at hb
   · refine⟨(s.lt i o b ho hb).1,?_⟩
     rintro(h1|h1)
     · exact(s.lt i o b ho hb).2 h1
     · exact hne (s.ne i l o _ b ho h hb (by simpa[blk] using h1))
 · rcases eu hl hi with ⟨rfl,rfl⟩|⟨hne,ho⟩
   · simp[blk] at hb
   · rcases eu hl hj with ⟨rfl,rfl⟩|⟨hne',ho'⟩
     · simp[blk] at hb'
     · exact s.ne i j o o' b ho ho' hb hb'
 · rcases hb with hb|hb
   · exact s.fl b hb
   · exact(s.lt l _ b h (by simpa[blk] using hb)).1
 · rintro b (hb|hb)
   · exact .inl hb
   · exact .inr ⟨l,_,h,by simpa[blk] using hb⟩
 · rintro b ⟨i,o,hi,hb⟩
   rcases eu hl hi with ⟨rfl,rfl⟩|⟨hne,ho⟩
   · simp[blk] at hb
   · exact⟨i,o,ho,hb⟩
theorem bU (ls:List Nat):∀ (H:List aj),(aI ls H).length=H.length:=by
 unfold aI
 induction ls with
 |nil=>intro H; rfl
 |cons l ls ih=>
  intro H
  simp only[List.foldl_cons]
  rw[ih]
  split<;>simp
theorem jS (ls:List Nat):∀ {F:Nat→Prop} {H:List aj},SI F κ w H→
 ∃ F',SI F' κ w (aI ls H)∧(∀ b,F b→F' b)∧(∀ b,F' b→F b∨Own κ H b)∧(∀ b,Own κ (aI ls H) b→Own κ H b)∧
  (∀ l∈ls,∀ (e:TypeId) (k:Nat) (xs:List T) (b:Nat),H[l]? =some (.row e k xs)→(κ l).ownBlock=some b→F' b)∧
  (∀ (l:Nat) (o:aj),H[l]? =some o→(∀ (e:TypeId) (k:Nat) (xs:List T),o≠ .row e k xs)→(aI ls H)[l]? =some o)∧
  (∀ (l:Nat) (e:TypeId) (k:Nat) (xs:List T),H[l]? =some (.row e k xs)→(aI ls H)[l]? =some (.row e k xs)∨(aI ls H)[l]? =some (.jT e k xs)):=by
 induction ls with
 |nil=>intro F H s; exact⟨F,s,fun _ h=>h,fun _ h=> .inl h,fun _ h=>h,(fun l hl=>absurd hl (by simp)),fun l o h _=>h,fun l e k xs h=> .inl h⟩
 |cons l ls ih=>
  intro F H s
  have hdef:aI (l::ls) H=aI ls (match H[l]? with|some (aj.row e k xs)=>H.set l (aj.jT e k xs)|_=>H):=rfl
  by_cases hr:∃ (e:TypeId) (k:Nat) (xs:List T),H[l]? =some (.row e k xs)
  · obtain⟨e,k,xs,hr⟩:=hr
    rw[hdef]
    simp only[hr]
    have hl:l < H.length:=(List.getElem?_eq_some_iff.1 hr).1
    obtain⟨F1,s1,a1,a2,a3,a4,_⟩:=aiK s hr
    obtain⟨F2,s2,b1,b2,b3,b4,b5,b6⟩:=ih s1
    refine⟨F2,s2,fun b h=>b1 b (a1 b h),fun b h=>(b2 b h).elim (a2 b) (fun h=> .inr (a3 b h)),fun b h=>a3 b (b3 b h),fun l' hl' e' k' xs' b h1 h2=>?_,fun l' o h1 h2=>?_,fun l' e' k' xs' h1=>?_⟩
    · by_cases e0:l'=l
      · subst e0; exact b1 b (a4 b h2)
      · rcases List.mem_cons.1 hl' with rfl|hl'
        · exact absurd rfl e0
        · exact b4 l' hl' e' k' xs' b (by rw[List.getElem?_set_ne (by omega)]; exact h1) h2
    · refine b5 l' o ?_ h2
      rw[List.getElem?_set_ne (fun e0=>by subst e0; rw[hr] at h1; injection h1 with h1; exact h2 e k xs h1.symm)]
      exact h1
    · by_cases e0:l'=l
      · subst e0
        rw[hr] at h1
        injection h1 with h1
        cases h1
        exact .inr (b5 l' _ (List.getElem?_set_self hl) (by simp))
      · exact b6 l' e' k' xs' (by rw[List.getElem?_set_ne (by omega)]; exact h1)
  · have hm:(match H[l]? with|some (aj.row e k xs)=>H.set l (aj.jT e k xs)|_=>H)=H:=by
     cases ho:H[l]? with
     |none=>rfl
     |some o=>cases o<;>first|rfl|exact absurd ⟨_,_,_,ho⟩ hr
    rw[hdef]
    rw[hm]
    obtain⟨F2,s2,b1,b2,b3,b4,b5,b6⟩:=ih s
    refine⟨F2,s2,b1,b2,b3,fun l' hl' e' k' xs' b h1 h2=>?_,b5,b6⟩
    rcases List.mem_cons.1 hl' with rfl|hl'
    · exact absurd ⟨_,_,_,h1⟩ hr
    · exact b4 l' hl' e' k' xs' b h1 h2
theorem Ev.freeze {N0:Nat} (ls:List Nat) {F':Nat→Prop} (h0:N0≤H.length) (a:∀ b,F b→F' b) (b:∀ b,F' b→F b∨Own κ H b) (c:∀ b,Own κ (aI ls H) b→Own κ H b)
 (d:∀ (l:Nat) (o:aj),H[l]? =some o→(∀ (e:TypeId) (k:Nat) (xs:List T),o≠ .row e k xs)→(aI ls H)[l]? =some o):Ev N0 F κ w H F' κ w (aI ls H):=
 ⟨rfl,rfl,rfl,Nat.le_refl _,fun _ _ _=>rfl,a,fun x hx=>(b x hx).imp id .inl,fun x hx=> .inl (c x hx),by rw[bU]; exact h0,fun l o _ h1 h2=>⟨rfl,o,d l o h1 h2,h2⟩⟩
theorem RP.freeze {F':Nat→Prop} {N:Nat} {p:PV} {v:Value} (a:∀ b,F b→F' b) (h:RP F κ N w p v):RP F' κ N w p v:=h.mono a (fun _ _=>rfl) fun l hl=>⟨rfl,h.bound l hl⟩
theorem xX.frozen {F':Nat→Prop} {k:Nat} {xs:List T} {p:PV} {v:Value} (h:xX F κ w H k xs p v) (a:∀ b,F b→F' b)
 (hr:∀ l∈p.rows,∀ (e:TypeId) (k:Nat) (xs:List T) (b:Nat),H[l]? =some (.row e k xs)→(κ l).ownBlock=some b→F' b):Rd F' w (.sl k xs) v:=by
 obtain⟨A,n,c,rfl,rfl,h3,h4,h5,b,o,val,h6,h7,h8,h9⟩:=h
 refine .sl b o val h3 h4 h5 (fun h=>?_) h7 h8 fun i x j y g1 g2=>(h9 i x j y g1 g2).mono a (fun _ _=>rfl)
 obtain⟨a1,a2⟩:=h6 h
 refine⟨a1,?_⟩
 rcases a2 with a2|⟨l',e',xs',b1,b2,b3⟩
 · exact a b a2
 · exact hr l' b1 e' k xs' b b2 b3
theorem Rd.cut {k:Nat} {xs:List T} {A:Option Addr} {n c l h m:Nat} (hr:Rd F w (.sl k xs) (.slice A n c)) (hl:l≤h) (hh:h≤xs.length) (hm:h≤m) (hmc:m≤c):
 Rd F w (.sl k ((xs.take h).drop l)) (.slice (if m=l then A else A.map (·.add (l*k))) (h - l) (m - l)):=by
 cases hr with
 |sl b o val hn hb hk hA h1 hc hr=>
  have hlen:((xs.take h).drop l).length=h - l:=by simp; omega
  have hget:∀ (i:Nat) (x:T),((xs.take h).drop l)[i]? =some x→xs[l+i]? =some x:=by
   intro i x hx
   rw[List.getElem?_drop,List.getElem?_take] at hx
   split at hx
   · exact hx
   · cases hx
  rw[←hlen]
  refine .sl b (o+l*k) (fun i j=>val (l+i) j) (by omega) (by omega) (fun x hx=>hk x ?_) (fun h0=>?_) (fun i j hi hj=>h1 _ _ (by omega) hj) (fun i j hi hj=>?_) (fun i x j y hx hy=>hr _ x j y (hget i x hx) hy)
  · exact List.mem_of_mem_take (List.mem_of_mem_drop hx)
  · obtain⟨a1,a2⟩:=hA (by omega)
    subst a1
    rw[if_neg (by omega)]
    exact⟨by simp[add_mid],a2⟩
  · have:=hc (l+i) j (by omega) hj
    rw[Nat.add_mul] at this
    rw[show o+l*k+i*k+j=o+(l*k+i*k)+j by omega]
    exact this
end
section
variable {β:Type} {E:Env} {st:St} {F:Nat→Prop} {κ:Nat→Value} {w:World}
def aa7 (F:Nat→Prop) (κ:Nat→Value) (N:Nat) (w:World):Option PV→Option Value→Prop
 |none,none=>True
 |some p,some v=>RP F κ N w p v
 |_,_=>False
theorem iD {n d:Nat} {p:Option PV} {K:Nat→ah β} {v:Option Value} {N:Nat} (h:mG n d p K≠ .stuck) (hp:aa7 F κ N w p v):
 ∃ i,mG n d p K=K i∧((v=none∧i=d)∨(i≤n∧∃ ki,v=some (.int ki i))):=by
 cases p with
 |none=>
  cases v with
  |none=>exact⟨d,rfl,.inl ⟨rfl,rfl⟩⟩
  |some v=>exact hp.elim
 |some p=>
  cases v with
  |none=>exact hp.elim
  |some v=>
  replace hp:RP F κ N w p v:=hp
  cases hp with
  | @t x _ r=>
   simp only[mG] at h ⊢
   obtain⟨k,i,rfl,e⟩:=D7 h
   rw[e] at h ⊢
   obtain⟨h1,h2⟩:=dQ h
   rw[h2]
   simp only[Bool.and_eq_true,decide_eq_true_eq] at h1
   cases r
   exact⟨_,rfl,.inr ⟨by omega,k,by rw[Int.toNat_of_nonneg h1.1]⟩⟩
  |_=>exact absurd rfl h
end
end
section
open Go.RowKit
structure Next' (N0:Nat) (F:Nat→Prop) (κ:Nat→Value) (w:World) (st:St) (tm:Array Value) (p:PV) (u:Value) (F':Nat→Prop) (κ':Nat→Value) (w':World) (st':St):Prop where
 si:SI F' κ' w' st'.heap
 ev:Ev N0 F κ w st.heap F' κ' w' st'.heap
 rp:RP F' κ' st'.heap.length w' p u
 tl:st'.tmps.length=st.tmps.length
 tr:∀ (i:Nat) (q:PV) (v:Value),st'.tmps[i]? =some q→tm[i]? =some v→RP F' κ' st'.heap.length w' q v
def TR (F:Nat→Prop) (κ:Nat→Value) (w:World) (st:St) (tm:Array Value):Prop:=∀ (i:Nat) (q:PV) (v:Value),st.tmps[i]? =some q→tm[i]? =some v→RP F κ st.heap.length w q v
section
variable {β:Type} {E:Env} {st:St} {F:Nat→Prop} {κ:Nat→Value} {w:World} {N0:Nat} {tm:Array Value}
theorem Next'.same (h0:N0≤st.heap.length) (s:SI F κ w st.heap) (ht:TR F κ w st tm) {p:PV} {u:Value} (hp:RP F κ st.heap.length w p u):Next' N0 F κ w st tm p u F κ w st:=
 ⟨s,Ev.refl h0,hp,rfl,ht⟩
theorem nI (P:Program) (k:IntKind) (i y:Nat) (code:BoundsCode) (h:i≤y) (w:World):(Instr.sliceBound (.int k (i:Int)) y code).run P w= .ok i w:=by
 have:(0:Int)≤i∧(i:Int)≤y:=⟨by omega,by omega⟩
 simp[Instr.sliceBound,asIntOf,this]
theorem xI {H:List aj} {p:PV} {v:Value} {l k a b:Nat} {full:Bool} (h:qJ H p=some (l,k,a,b,full)) (s:SI F κ w H) (hp:RP F κ H.length w p v):
 ∃ e kr xs A c,H[l]? =some (.row e kr xs)∧κ l= .slice A xs.length c∧xs.length≤c∧QV (κ l) v k a b∧b≤xs.length∧(full=true→a=0∧b=xs.length∧kr=k∧p= .own l)∧p.rows= [l]:=by
 have len:∀ {l e kr:Nat} {xs:List T},H[l]? =some (.row e kr xs)→∃ A c,κ l= .slice A xs.length c∧xs.length≤c∧(A=none∨∃ b,A=some ⟨b,0,none⟩)∧xs.length≤big:=by
  intro l e kr xs ho
  obtain⟨cs,h1,hb,_⟩:=s.ro l _ ho
  rcases h1.2 with ⟨q1,q2⟩|⟨g,cap,cur,q1,_,_,q2,_⟩
  · exact⟨none,0,by rw[q1,q2],by omega,.inl rfl,hb⟩
  · exact⟨_,cap,q1,q2,.inr ⟨g,rfl⟩,hb⟩
 cases hp with
 | @own l' A n c hN hl=>
  unfold qJ at h
  simp only[] at h
  cases ho:H[l']? with
  |none=>simp[ho] at h
  |some obj=>
   cases obj with
   |row e kr xs=>
    simp only[ho,Option.some.injEq,Prod.mk.injEq] at h
    obtain⟨rfl,rfl,rfl,rfl,rfl⟩:=h
    obtain⟨A',c',q1,q2,q3,q6⟩:=len ho
    rw[hl] at q1
    injection q1 with q1 q4 q5
    subst q1; subst q4; subst q5
    refine⟨e,kr,xs,A,c,ho,hl,q2,⟨A,_,c,A,⟨hl,q6⟩,rfl,by omega,Nat.le_refl _,?_⟩,Nat.le_refl _,fun _=>⟨rfl,rfl,rfl,rfl⟩,rfl⟩
    rcases q3 with rfl|⟨b,rfl⟩
    · exact .inl ⟨rfl,rfl⟩
    · exact .inr ⟨b,0,rfl,rfl,fun _=>by simp⟩
   |_=>simp[ho] at h
 | @view l' k' lo hi A n c hN hl=>
  unfold qJ at h
  simp only[] at h
  cases ho:H[l']? with
  |none=>simp[ho] at h
  |some obj=>
   cases obj with
   |row e kr xs=>
    simp only[ho,Option.some.injEq,Prod.mk.injEq] at h
    obtain⟨rfl,rfl,rfl,rfl,rfl⟩:=h
    obtain⟨A',c',q1,q2,q3,q6⟩:=len ho
    obtain⟨A1,n1,c1,A2,⟨v1,vb⟩,v2,v3,v4,v5⟩:=hl
    rw[q1] at v1
    injection v1 with v1 v6 v7
    subst v1; subst v6; subst v7
    exact⟨e,kr,xs,_,_,ho,q1,q2,⟨_,_,_,A2,⟨q1,vb⟩,v2,v3,v4,v5⟩,v4,by simp,rfl⟩
   |_=>simp[ho] at h
 |_=>simp[qJ] at h
theorem RU {dr:Bool} {t:TypeId} {p:PV} {lo hi mx:Option PV} {vlo vhi XU:Option Value} {K:PV→St→ah β} {v:Value} (h:wS E dr st t p lo hi mx K≠ .stuck) (h0:N0≤st.heap.length) (s:SI F κ w st.heap) (ht:TR F κ w st tm)
 (hp:RP F κ st.heap.length w p v) (hlo:aa7 F κ st.heap.length w lo vlo) (hhi:aa7 F κ st.heap.length w hi vhi)
 (hmx:aa7 F κ st.heap.length w mx XU):
 ∃ q u st' F',wS E dr st t p lo hi mx K=K q st'∧(Instr.sliceAt t v vlo vhi XU).run E.P w= .ok u w∧Next' N0 F κ w st tm q u F' κ w st':=by
 unfold wS at h ⊢
 cases hd:E.P.underlying t with
 |none=>simp[hd] at h
 |some d=>
  cases d with
  |string=>
   simp only[hd] at h ⊢
   cases hp with
   | @t x _ hx=>
    cases mx with
    |some m=>exact absurd rfl h
    |none=>
     cases XU with
     |some m=>exact hmx.elim
     |none=>
      simp only[] at h ⊢
      obtain⟨sb,rfl,e1⟩:=Kq h
      rw[e1] at h ⊢
      obtain⟨hh,e2,c2⟩:=iD h hhi
      rw[e2] at h ⊢
      obtain⟨l,e3,c3⟩:=iD h hlo
      rw[e3]
      cases hx with
      |str hsz=>
       have hle:hh≤sb.size:=by rcases c2 with ⟨_,rfl⟩|⟨h,_⟩<;>omega
       have hll:l≤hh:=by rcases c3 with ⟨_,rfl⟩|⟨h,_⟩<;>omega
       refine⟨_,.string (sb.extract l hh),st,F,rfl,?_,Next'.same h0 s ht (.t (.str ?_))⟩
       · simp only[Instr.sliceAt,Sem.run_bind,run_underlying hd,Result.andThen_ok,Instr.slice,Option.isSome_none,Bool.false_eq_true,if_false,Instr.sliceBounds,Sem.run_pure]
         rcases c2 with ⟨rfl,rfl⟩|⟨_,k2,rfl⟩<;>rcases c3 with ⟨rfl,rfl⟩|⟨_,k3,rfl⟩<;>
          simp[nI,hle,hll]
       · simp only[ByteArray.size_extract]; omega
   |_=>exact absurd rfl h
  |slice e=>
   simp only[hd] at h ⊢
   cases hs:kJ E.P e with
   |none=>simp[hs] at h
   |some k=>
    simp only[hs] at h ⊢
    cases hrv:qJ st.heap p with
    |some q=>
     obtain⟨l0,k',a,b,full⟩:=q
     simp only[hrv] at h ⊢
     obtain⟨hk,ek⟩:=jq h
     rw[ek] at h ⊢
     obtain rfl:k'=k:=by simpa using hk
     obtain⟨e',kr,xs,A0,c,r1,r2,r3,⟨B,n,c0,A',⟨v1,vb⟩,rfl,v3,v4,v5⟩,r5,r6,r7⟩:=xI hrv s hp
     rw[r2] at v1
     injection v1 with v1 v6 v7
     subst v1; subst v6; subst v7
     have hl0:l0 < st.heap.length:=(List.getElem?_eq_some_iff.1 r1).1
     have hrun:∀ (l hh m:Nat),(Instr.sliceBounds true (b - a) (c - a) vlo vhi XU).run E.P w= .ok (l,hh,m) w→(Instr.sliceAt t (.slice A' (b - a) (c - a)) vlo vhi XU).run E.P w= .ok (.slice (if m=l then A' else A'.map (·.add (l*k'))) (hh - l) (m - l)) w:=by
      intro l hh m hb
      simp[Instr.sliceAt,Instr.slice,run_underlying hd,hb,jM hs]
     cases mx with
     |none=>
      cases XU with
      |some m=>exact hmx.elim
      |none=>
       simp only[] at h ⊢
       obtain⟨hh,e2,c2⟩:=iD h hhi
       rw[e2] at h ⊢
       obtain⟨l,e3,c3⟩:=iD h hlo
       rw[e3]
       have hrl:rowLen st.heap l0=xs.length:=by simp[rowLen,r1]
       have hle:hh≤xs.length - a:=by rcases c2 with ⟨_,rfl⟩|⟨h,_⟩<;>omega
       have hll:l≤hh:=by rcases c3 with ⟨_,rfl⟩|⟨h,_⟩<;>omega
       refine⟨_,_,_,F,rfl,hrun l hh (c - a) ?_,Next'.same h0 s ht (.view hl0 ⟨A0,xs.length,c,if c - a=l then A' else A'.map (·.add (l*k')),⟨r2,vb⟩,?_,by omega,by omega,?_⟩)⟩
       · have hle':hh≤c - a:=by omega
         rcases c2 with ⟨rfl,rfl⟩|⟨_,k2,rfl⟩<;>rcases c3 with ⟨rfl,rfl⟩|⟨_,k3,rfl⟩<;>simp[Instr.sliceBounds,nI,hle,hll,hle']
       · congr 1<;>omega
       · rcases v5 with ⟨rfl,rfl⟩|⟨g,o,rfl,rfl,v6⟩
         · exact .inl ⟨rfl,by split<;>rfl⟩
         · refine .inr ⟨g,if c - a=l then o else o+l*k',rfl,?_,fun hlt=>?_⟩
           · split
             · rfl
             · simp[add_mid]
           · split
             · have:a=0∧l=0:=by omega
               rw[v6 (by omega)]; simp[this]
             · rw[v6 (by omega),Nat.add_mul]
     |some m=>
      cases XU with
      |none=>exact hmx.elim
      |some vm=>
       simp only[] at h ⊢
       obtain⟨hn,e00⟩:=jq h
       rw[e00] at h ⊢
       simp only[Bool.or_eq_false_iff,Bool.not_eq_false'] at hn
       obtain⟨q1,q2,q3,q4⟩:=r6 hn.2
       subst q1; subst q2
       obtain⟨mm,e0,c0⟩:=iD (v:=some vm) h hmx
       rw[e0] at h ⊢
       obtain⟨hh,e2,c2⟩:=iD h hhi
       rw[e2] at h ⊢
       obtain⟨l,e3,c3⟩:=iD h hlo
       rw[e3] at h ⊢
       rcases c0 with ⟨c0,_⟩|⟨hm,k0,c0⟩
       · cases c0
       · injection c0 with c0
         subst c0
         rcases c2 with ⟨rfl,rfl⟩|⟨c2,k2,rfl⟩
         · cases hi with
           |none=>simp at hn
           |some p=>exact hhi.elim
         · have hll:l≤hh:=by rcases c3 with ⟨_,rfl⟩|⟨h,_⟩<;>omega
           refine⟨_,_,_,F,rfl,hrun l hh mm ?_,Next'.same h0 s ht .junk⟩
           have hmc:mm≤c:=by omega
           rcases c3 with ⟨rfl,rfl⟩|⟨_,k3,rfl⟩<;>simp[Instr.sliceBounds,nI,hmc,c2,hll]
    |none=>
    simp only[hrv] at h ⊢
    obtain⟨hdr,edr⟩:=jq h
    rw[edr] at h ⊢
    obtain⟨xs,e1,hv⟩:=zi h s hp
    rw[e1] at h ⊢
    obtain⟨F',s',a1,a2,a3,a4,a5,a6⟩:=jS p.rows s
    have hrd:=hv.frozen a1 a4
    have hev:Ev N0 F κ w st.heap F' κ w (aI p.rows st.heap):=Ev.freeze p.rows h0 a1 a2 a3 a5
    have fin:∀ (q:PV) (u:Value),RP F' κ st.heap.length w q u→Next' N0 F κ w st tm q u F' κ w ⟨st.tmps,aI p.rows st.heap⟩:=fun q u hq=>
     ⟨s',hev,by simpa[bU] using hq,rfl,fun i q' v' g1 g2=>by simpa[bU] using(ht i q' v' g1 g2).freeze a1⟩
    obtain⟨A,n,c,rfl,rfl,h3,h4,_⟩:=hv
    have hrun:∀ (l hh m:Nat),(Instr.sliceBounds true xs.length c vlo vhi XU).run E.P w= .ok (l,hh,m) w→(Instr.sliceAt t (.slice A xs.length c) vlo vhi XU).run E.P w= .ok (.slice (if m=l then A else A.map (·.add (l*k))) (hh - l) (m - l)) w:=by
     intro l hh m hb
     simp[Instr.sliceAt,Instr.slice,run_underlying hd,hb,jM hs]
    cases mx with
    |none=>
     cases XU with
     |some m=>exact hmx.elim
     |none=>
      simp only[] at h ⊢
      obtain⟨hh,e2,c2⟩:=iD h hhi
      rw[e2] at h ⊢
      obtain⟨l,e3,c3⟩:=iD h hlo
      rw[e3]
      have hle:hh≤xs.length:=by rcases c2 with ⟨_,rfl⟩|⟨h,_⟩<;>omega
      have hll:l≤hh:=by rcases c3 with ⟨_,rfl⟩|⟨h,_⟩<;>omega
      refine⟨_,_,_,F',rfl,hrun l hh c ?_,fin _ _ (.t (hrd.cut hll hle (by omega) (by omega)))⟩
      have hle':hh≤c:=by omega
      rcases c2 with ⟨rfl,rfl⟩|⟨_,k2,rfl⟩<;>rcases c3 with ⟨rfl,rfl⟩|⟨_,k3,rfl⟩<;>simp[Instr.sliceBounds,nI,hle,hll,hle']
    |some m=>
     cases XU with
     |none=>exact hmx.elim
     |some vm=>
      simp only[] at h ⊢
      obtain⟨hn,e00⟩:=jq h
      rw[e00] at h ⊢
      obtain⟨mm,e0,c0⟩:=iD (v:=some vm) h hmx
      rw[e0] at h ⊢
      obtain⟨hh,e2,c2⟩:=iD h hhi
      rw[e2] at h ⊢
      obtain⟨l,e3,c3⟩:=iD h hlo
      rw[e3] at h ⊢
      rcases c0 with ⟨c0,_⟩|⟨hm,k0,c0⟩
      · cases c0
      · injection c0 with c0
        subst c0
        rcases c2 with ⟨rfl,rfl⟩|⟨c2,k2,rfl⟩
        · cases hi with
          |none=>simp at hn
          |some p=>exact hhi.elim
        · have hll:l≤hh:=by rcases c3 with ⟨_,rfl⟩|⟨h,_⟩<;>omega
          have hb:(Instr.sliceBounds true xs.length c vlo (some (.int k2 hh)) (some (.int k0 mm))).run E.P w= .ok (l,hh,mm) w:=by
           have hmc:mm≤c:=by omega
           rcases c3 with ⟨rfl,rfl⟩|⟨_,k3,rfl⟩<;>simp[Instr.sliceBounds,nI,hmc,c2,hll]
          cases he:decide (mm=hh) with
          |true=>
           have he':mm=hh:=by simpa using he
           subst he'
           refine⟨_,_,_,F',rfl,hrun l mm mm hb,fin _ _ ?_⟩
           have hr:=hrd.cut (m:=mm) hll hm (Nat.le_refl _) (by omega)
           have hlen:((xs.take mm).drop l).length=mm - l:=by simp; omega
           have h2:=hr
           rw[←hlen] at h2 ⊢
           exact .full h2
          |false=>exact⟨_,_,_,F',rfl,hrun l hh mm hb,fin _ _ (.t (hrd.cut hll (by omega) c2 (by omega)))⟩
  |_=>simp[hd] at h
end
end
section
open Go.RowKit
theorem gK (f:Nat→Bool):∀ (qs:List PV) (i:Nat),(PV.kills f qs)[i]? =(qs[i]?).map (PV.kill f)
 | [],i=>by simp[PV.kills]
 |q::r,0=>by simp[PV.kills]
 |q::r,i+1=>by simpa[PV.kills] using gK f r i
theorem jk (f:Nat→Bool):∀ (qs:List PV),(PV.kills f qs).length=qs.length
 | []=>rfl
 |q::r=>by simp[PV.kills,jk f r]
theorem RP.kill {F F':Nat→Prop} {κ κ':Nat→Value} {N N':Nat} {w w':World} (f:Nat→Bool) (hF:∀ b,F b→F' b) (hw:∀ b,F b→w'.heap[b]? =w.heap[b]?) (hN:N≤N')
 (hκ:∀ l,l < N→κ' l≠κ l→f l=true∧∃ A n c,κ l= .slice A n c) {p:PV} {v:Value} (h:RP F κ N w p v):RP F' κ' N' w' (p.kill f) v:=by
 induction h with
 |t h=>exact .t (h.mono hF hw)
 |nil=>exact .nil
 | @agg cs vs hl h1 hr ih=>
  simp only[PV.kill]
  refine .agg (by rw[jk]; exact hl) h1 fun i p v a b=>?_
  rw[gK,Option.map_eq_some_iff] at a
  obtain⟨q,a,rfl⟩:=a
  exact ih i q v a b
 | @au cs vs hl hr ih=>
  simp only[PV.kill]
  refine .au (by rw[jk]; exact hl) fun i p v a b=>?_
  rw[gK,Option.map_eq_some_iff] at a
  obtain⟨q,a,rfl⟩:=a
  exact ih i q v a b
 | @fn g fs cs vf vc h1 h2 r1 r2 i1 i2=>
  simp only[PV.kill]
  refine .fn (by rw[jk]; exact h1) (by rw[jk]; exact h2) (fun i p v a b=>?_) (fun i p v a b=>?_)
  · rw[gK,Option.map_eq_some_iff] at a
    obtain⟨q,a,rfl⟩:=a
    exact i1 i q v a b
  · rw[gK,Option.map_eq_some_iff] at a
    obtain⟨q,a,rfl⟩:=a
    exact i2 i q v a b
 | @ptr l o b hl h=>
  simp only[PV.kill]
  refine .ptr (by omega) ?_
  by_cases e:κ' l=κ l
  · rw[e,h]
  · obtain⟨_,A,n,c,h2⟩:=hκ l hl e
    rw[h] at h2
    cases h2
 | @own l A n c hl h=>
  simp only[PV.kill]
  cases hf:f l with
  |true=>exact .junk
  |false=>
   refine .own (by omega) ?_
   by_cases e:κ' l=κ l
   · rw[e,h]
   · have:=(hκ l hl e).1; rw[hf] at this; cases this
 | @iC l k i o b n c hl h hi=>
  simp only[PV.kill]
  cases hf:f l with
  |true=>exact .junk
  |false=>
   refine .iC (n:=n) (c:=c) (by omega) ?_ hi
   by_cases e:κ' l=κ l
   · rw[e,h]
   · have:=(hκ l hl e).1; rw[hf] at this; cases this
 | @view l k lo hi A n c hl h=>
  simp only[PV.kill]
  cases hf:f l with
  |true=>exact .junk
  |false=>
   refine .view (by omega) ?_
   by_cases e:κ' l=κ l
   · rw[e]; exact h
   · have:=(hκ l hl e).1; rw[hf] at this; cases this
 | @mp l b hl h=>
  refine .mp (by omega) ?_
  by_cases e:κ' l=κ l
  · rw[e,h]
  · obtain⟨_,A,n,c,h2⟩:=hκ l hl e; rw[h] at h2; cases h2
 |full h=>exact .full (h.mono hF hw)
 |rp val tZ hk hs h1 hc hr=>exact .rp val (hF _ tZ) hk hs h1 (fun j hj=>(AU (hw _ tZ)).trans (hc j hj)) fun j y hy=>(hr j y hy).mono hF hw
 |junk=>exact .junk
theorem RO.kill {F F':Nat→Prop} {κ κ':Nat→Value} {N N':Nat} {w w':World} (f:Nat→Bool) (hF:∀ b,F b→F' b) (hw:∀ b,F b→w'.heap[b]? =w.heap[b]?) (hN:N≤N')
 (hκ:∀ l,l < N→κ' l≠κ l→f l=true∧∃ A n c,κ l= .slice A n c) {l:Nat} {o:aj} (h:RO F κ N w l o) (hb:∀ b,blk κ l o=some b→w'.heap[b]? =w.heap[b]?) (hk:κ' l=κ l):RO F' κ' N' w' l (o.kill f):=by
 cases o with
 |box e n v=>
  obtain⟨b,vs,vv,h1,h2,h3,h4,h5,h6⟩:=h
  exact⟨b,vs,vv,hk.trans h1,(hb b (by simp[blk,h1,iY])).trans h2,h3,h4,h5,h6.kill f hF hw hN hκ⟩
 |vec e k n xs=>
  obtain⟨cs,h1,h2,h3,h4,h5⟩:=h
  refine⟨cs,?_,h2,by rw[jk]; exact h3,h4,fun i p v a d=>?_⟩
  · rw[hk]
    refine⟨h1.1,h1.2.imp id ?_⟩
    rintro⟨g,cap,cur,e1,e2,e3,e4⟩
    exact⟨g,cap,cur,e1,e2,(hb g (by simp[blk,e1,Value.ownBlock])).trans e3,e4⟩
  · rw[gK,Option.map_eq_some_iff] at a
    obtain⟨q,a,rfl⟩:=a
    exact(h5 i q v a d).kill f hF hw hN hκ
 |iter m since seen last=>
  obtain⟨b,bm,h1,h2,h3,h4⟩:=h
  have e:κ' m=κ m:=by
   by_cases e:κ' m=κ m
   · exact e
   · obtain⟨_,A,n,c,h5⟩:=hκ m h3 e; rw[h2] at h5; cases h5
  exact⟨b,bm,hk.trans h1,e.trans h2,by omega,(hb b (by simp[blk,h1,iY])).trans h4⟩
 |_=>exact h.mono hF hw hb hk (fun l' hl'=>by simp[aj.gq] at hl')
theorem zQ (f:Nat→Bool) (κ:Nat→Value) (l:Nat) (o:aj):blk κ l (o.kill f)=blk κ l o:=by cases o<;>rfl
theorem UL (f:Nat→Bool) {o:aj} {e k:Nat} {xs:List T} (h:o.kill f= .row e k xs):o= .row e k xs:=by cases o<;>simp_all [aj.kill]
section
variable {F:Nat→Prop} {κ:Nat→Value} {w w':World} {H:List aj}
theorem SI.QM (s:SI F κ w H) {l:Nat} {e k:Nat} {xs xs':List T} {e' k':Nat} (h:H[l]? =some (.row e k xs)) (v':Value) (hg:w.grownBy w' (κ l).ownBlock)
 (hat:v'.ownBlock=(κ l).ownBlock∨∃ b,v'.ownBlock=some b∧w.heap.size≤b) (hvb:∀ b,v'.ownBlock=some b→b < w'.heap.size)
 (hro:RO F (upd κ l v') H.length w' l (.row e' k' xs')) (N0:Nat) (hN0:N0≤H.length):
 SI F (upd κ l v') w' ((H.map (aj.kill (· ==l))).set l (.row e' k' xs'))∧Ev N0 F κ w H F (upd κ l v') w' ((H.map (aj.kill (· ==l))).set l (.row e' k' xs'))∧(∀ b,F b→w'.heap[b]? =w.heap[b]?)∧
  (∀ i,i < H.length→upd κ l v' i≠κ i→(i==l)=true∧∃ A n c,κ i= .slice A n c):=by
 have hl:l < H.length:=(List.getElem?_eq_some_iff.1 h).1
 have tZ:∀ b,F b→w'.heap[b]? =w.heap[b]? :=fun b hb=>hg.block b (s.fl b hb) fun e=>(s.lt l _ b h (by simpa[blk] using e.symm)).2 hb
 have hκ:∀ i,i < H.length→upd κ l v' i≠κ i→(i==l)=true∧∃ A n c,κ i= .slice A n c:=by
  intro i hi hne
  by_cases e:i=l
  · subst e
    obtain⟨A,c,h1,_⟩:=uz (s.ro i _ h)
    exact⟨by simp,A,_,c,h1⟩
  · exact absurd (kX κ v' e) hne
 have hlen:((H.map (aj.kill (· ==l))).set l (.row e' k' xs')).length=H.length:=by simp
 have hget:∀ i o,((H.map (aj.kill (· ==l))).set l (aj.row e' k' xs'))[i]? =some o→(i=l∧o= .row e' k' xs')∨(i≠l∧∃ o0,H[i]? =some o0∧o=o0.kill (· ==l)):=by
  intro i o ho
  rcases eu (by simpa using hl) ho with h1|⟨h1,h2⟩
  · exact .inl h1
  · rw[List.getElem?_map,Option.map_eq_some_iff] at h2
    obtain⟨o0,h2,rfl⟩:=h2
    exact .inr ⟨h1,o0,h2,rfl⟩
 have hother:∀ i o0 b,i≠l→H[i]? =some o0→blk κ i o0=some b→w'.heap[b]? =w.heap[b]? :=fun i o0 b h1 h2 h3=>
  hg.block b (s.lt i o0 b h2 h3).1 fun e=>h1 (s.ne i l o0 _ b h2 h h3 (by simpa[blk] using e.symm))
 have X9:blk (upd κ l v') l (.row e' k' xs')=v'.ownBlock:=by simp[blk,upd_same]
 refine⟨⟨fun i o hi=>?_,fun i o b hi hb=>?_,fun i j o o' b hi hj hb hb'=>?_,fun b hb=>Nat.lt_of_lt_of_le (s.fl b hb) hg.size⟩,⟨hg.os,hg.tape,hg.output,hg.size,fun b hb hno=>hg.block b hb fun e=>hno ⟨l,_,h,by simpa[blk] using e.symm⟩,
  fun b hb=>hb,fun b hb=> .inl hb,?_,by rw[hlen]; exact hN0,fun i o hi h1 h2=>?_⟩,tZ,hκ⟩
 · rw[hlen]
   rcases hget i o hi with ⟨rfl,rfl⟩|⟨hne,o0,h1,rfl⟩
   · exact hro
   · exact(s.ro i o0 h1).kill _ (fun b hb=>hb) tZ (Nat.le_refl _) hκ (fun b hb=>hother i o0 b hne h1 hb) (kX κ v' hne)
 · rcases hget i o hi with ⟨rfl,rfl⟩|⟨hne,o0,h1,rfl⟩
   · rw[X9] at hb
     refine⟨hvb b hb,fun hf=>?_⟩
     rcases hat with hat|⟨b',h1,h2⟩
     · exact(s.lt i _ b h (by simpa[blk,←hat] using hb)).2 hf
     · rw[hb] at h1; injection h1 with h1; have:=s.fl b hf; omega
   · rw[zQ,wG hne] at hb
     exact⟨Nat.lt_of_lt_of_le (s.lt i o0 b h1 hb).1 hg.size,(s.lt i o0 b h1 hb).2⟩
 · have cross:∀ i o0,i≠l→H[i]? =some o0→blk (upd κ l v') i (o0.kill (· ==l))=some b→v'.ownBlock=some b→False:=by
    intro i o0 hne h1 h2 h3
    rw[zQ,wG hne] at h2
    rcases hat with hat|⟨b',h4,h5⟩
    · exact hne (s.ne i l o0 _ b h1 h h2 (by simpa[blk,←hat] using h3))
    · rw[h3] at h4; injection h4 with h4; have:=(s.lt i o0 b h1 h2).1; omega
   rcases hget i o hi with ⟨rfl,rfl⟩|⟨hne,o0,h1,rfl⟩<;>rcases hget j o' hj with ⟨rfl,rfl⟩|⟨hne',o0',h1',rfl⟩
   · rfl
   · rw[X9] at hb; exact(cross j o0' hne' h1' hb' hb).elim
   · rw[X9] at hb'; exact(cross i o0 hne h1 hb hb').elim
   · rw[zQ,wG hne] at hb
     rw[zQ,wG hne'] at hb'
     exact s.ne i j o0 o0' b h1 h1' hb hb'
 · rintro b ⟨i,o,hi,hb⟩
   rcases hget i o hi with ⟨rfl,rfl⟩|⟨hne,o0,h1,rfl⟩
   · rw[X9] at hb
     rcases hat with hat|⟨b',h1,h2⟩
     · exact .inl ⟨i,_,h,by simpa[blk,←hat] using hb⟩
     · rw[hb] at h1; injection h1 with h1; exact .inr (by omega)
   · rw[zQ,wG hne] at hb
     exact .inl ⟨i,o0,h1,hb⟩
 · have hne:i≠l:=by rintro rfl; rw[h] at h1; injection h1 with h1; exact h2 e k xs h1.symm
   refine⟨kX κ v' hne,o.kill (· ==l),?_,fun e k xs he=>h2 e k xs (UL _ he)⟩
   rw[List.getElem?_set_ne (fun e=>hne e.symm),List.getElem?_map,h1]; rfl
theorem xX.news {k:Nat} {ys:List T} {p:PV} {v:Value} (h:xX F κ w H (k+1) ys p v):
 ∃ (A:Option Addr) (c:Nat) (news:List Value),v= .slice A ys.length c∧news.length=ys.length*(k+1)∧(∀ u∈news,u.oneCell'=true)∧(∀ x∈ys,x.cells.length=k+1∧(k+1=1→x.isAgg=false))∧ys.length≤big∧
  ((A=none∧ys= [])∨∃ (ad:Addr),A=some ad∧∀ (j:Nat) (u:Value),news[j]? =some u→w.cell? (ad.add j)=some u)∧
  (∀ (i:Nat) (x:T) (j:Nat) (y:T) (u:Value),ys[i]? =some x→x.cells[j]? =some y→news[i*(k+1)+j]? =some u→Rd F w y u):=by
 obtain⟨A,n,c,rfl,rfl,h3,h4,h5,b,o,val,h6,h7,h8,h9⟩:=h
 have hq:∀ q,q < ys.length*(k+1)→q / (k+1) < ys.length:=fun q hq=>by rw[Nat.div_lt_iff_lt_mul (by omega)]; exact hq
 refine⟨A,c,(List.range (ys.length*(k+1))).map fun q=>val (q / (k+1)) (q % (k+1)),rfl,by simp,fun u hu=>?_,h5,h4,?_,fun i x j y u hx hy hu=>?_⟩
 · simp only[List.mem_map,List.mem_range] at hu
   obtain⟨q,hq',rfl⟩:=hu
   exact h7 _ _ (hq q hq') (Nat.mod_lt _ (by omega))
 · rcases Nat.eq_zero_or_pos ys.length with e|e
   · cases A with
     |none=>exact .inl ⟨rfl,List.eq_nil_of_length_eq_zero e⟩
     |some ad=>exact .inr ⟨ad,rfl,fun j u hu=>by simp[e] at hu⟩
   · obtain⟨a1,_⟩:=h6 e
     refine .inr ⟨_,a1,fun j u hu=>?_⟩
     have hj:j < ys.length*(k+1):=by have:=(List.getElem?_eq_some_iff.1 hu).1; simpa using this
     rw[List.getElem?_map,List.getElem?_range hj] at hu
     simp only[Option.map_some,Option.some.injEq] at hu
     subst hu
     rw[add_mid]
     have:=h8 (j / (k+1)) (j % (k+1)) (hq j hj) (Nat.mod_lt _ (by omega))
     rwa [Nat.add_assoc,Nat.div_add_mod'] at this
 · have hi:i < ys.length:=(List.getElem?_eq_some_iff.1 hx).1
   have hj:j < k+1:=by rw[←(h5 x (List.mem_of_getElem? hx)).1]; exact(List.getElem?_eq_some_iff.1 hy).1
   have hlt:i*(k+1)+j < ys.length*(k+1):=by
    calc i*(k+1)+j < i*(k+1)+(k+1):=by omega
     _=(i+1)*(k+1):=by rw[Nat.succ_mul]
     _≤ys.length*(k+1):=Nat.mul_le_mul_right _ hi
   rw[List.getElem?_map,List.getElem?_range hlt] at hu
   simp only[Option.map_some,Option.some.injEq] at hu
   subst hu
   rw[Nat.mul_comm i,Nat.mul_add_div (by omega),Nat.mul_add_mod,Nat.div_eq_of_lt hj,Nat.mod_eq_of_lt hj,Nat.add_zero]
   exact h9 i x j y hx hy
end
end
section
open Go.RowKit
theorem iL {α:Type} (a b:List α) {o s:Nat} (hs:b.length=s) (ho:o+s≤a.length) (i:Nat):
 (a.take o++b++a.drop (o+s))[i]? =if i < o then a[i]? else if i < o+s then b[i - o]? else a[i]? :=by
 have hlo:(a.take o).length=o:=by simp; omega
 rcases Nat.lt_or_ge i o with h1|h1
 · rw[if_pos h1,List.append_assoc,List.getElem?_append_left (by omega),List.getElem?_take,if_pos h1]
 · rw[if_neg (by omega)]
   rcases Nat.lt_or_ge i (o+s) with h2|h2
   · rw[if_pos h2,List.append_assoc,List.getElem?_append_right (by omega),hlo,List.getElem?_append_left (by omega)]
   · rw[if_neg (by omega),List.getElem?_append_right (by simp; omega),List.getElem?_drop]
     congr 1
     simp; omega
theorem pV {α:Type} (a b:List α) {o s:Nat} (hs:b.length=s) (ho:o+s≤a.length):(a.take o++b++a.drop (o+s)).length=a.length:=by simp; omega
section
variable {F F':Nat→Prop} {κ:Nat→Value} {w w':World} {H:List aj}
theorem SI.oQ (s:SI F κ w H) {l b:Nat} {o o':aj} (h:H[l]? =some o) (hb:blk κ l o=some b) (hb':blk κ l o'=some b) (hsz:w'.heap.size=w.heap.size) (hoth:∀ c,c≠b→w'.heap[c]? =w.heap[c]?)
 (hro:RO F κ H.length w' l o'):SI F κ w' (H.set l o'):=by
 have hl:l < H.length:=(List.getElem?_eq_some_iff.1 h).1
 have hnF:=(s.lt l o b h hb).2
 have tZ:∀ c,F c→w'.heap[c]? =w.heap[c]? :=fun c hc=>hoth c fun e=>hnF (e ▸ hc)
 refine⟨fun i q hi=>?_,fun i q c hi hc=>?_,fun i j q q' c hi hj hc hc'=>?_,fun c hc=>by rw[hsz]; exact s.fl c hc⟩
 · rw[List.length_set]
   rcases eu hl hi with ⟨rfl,rfl⟩|⟨hne,hq⟩
   · exact hro
   · exact(s.ro i q hq).mono (fun _ h=>h) tZ (fun c hc=>hoth c fun e=>hne (s.ne i l q o b hq h (e ▸ hc) hb)) rfl fun l' hl'=>⟨rfl,(s.ro i q hq).bound l' hl'⟩
 · rw[hsz]
   rcases eu hl hi with ⟨rfl,rfl⟩|⟨hne,hq⟩
   · rw[hb'] at hc; injection hc with hc; subst hc; exact s.lt i o b h hb
   · exact s.lt i q c hq hc
 · rcases eu hl hi with ⟨rfl,rfl⟩|⟨hne,hq⟩<;>rcases eu hl hj with ⟨rfl,rfl⟩|⟨hne',hq'⟩
   · rfl
   · rw[hb'] at hc; injection hc with hc; subst hc; exact absurd (s.ne j i q' o b hq' h hc' hb) hne'
   · rw[hb'] at hc'; injection hc' with hc'; subst hc'; exact absurd (s.ne i j q o b hq h hc hb) hne
   · exact s.ne i j q q' c hq hq' hc hc'
theorem Ev.oQ {N0 l b:Nat} {o o':aj} (h:H[l]? =some o) (hb:blk κ l o=some b) (hb':blk κ l o'=some b) (hos:w'.os=w.os) (htp:w'.tape=w.tape) (hou:w'.output=w.output)
 (hsz:w'.heap.size=w.heap.size) (hoth:∀ c,c≠b→w'.heap[c]? =w.heap[c]?) (h0:N0≤H.length) (hk:(∃ e k xs,o= .row e k xs)∨∀ e k xs,o'≠ .row e k xs):Ev N0 F κ w H F κ w' (H.set l o'):=by
 have hl:l < H.length:=(List.getElem?_eq_some_iff.1 h).1
 refine⟨hos,htp,hou,by omega,fun c _ hn=>hoth c fun e=>hn ⟨l,o,h,e ▸ hb⟩,fun _ h=>h,fun _ h=> .inl h,fun c hc=>?_,by simpa using h0,fun i q _ hi hq=>⟨rfl,?_⟩⟩
 · obtain⟨i,q,hi,hq⟩:=hc
   rcases eu hl hi with ⟨rfl,rfl⟩|⟨hne,h2⟩
   · exact .inl ⟨i,o,h,by rw[hb]; rw[hb'] at hq; exact hq⟩
   · exact .inl ⟨i,q,h2,hq⟩
 · by_cases e:i=l
   · subst e
     rw[h] at hi
     injection hi with hi
     subst hi
     refine⟨o',List.getElem?_set_self hl,?_⟩
     rcases hk with ⟨e,k,xs,hk⟩|hk
     · exact absurd hk (hq e k xs)
     · exact hk
   · exact⟨q,by rw[List.getElem?_set_ne (fun h=>e h.symm)]; exact hi,hq⟩
theorem set_self {α:Type} {H:List α} {l:Nat} {o:α} (ho:H[l]? =some o):H.set l o=H:=by
 obtain⟨h1,h2⟩:=List.getElem?_eq_some_iff.1 ho
 subst h2
 exact List.set_getElem_self h1
theorem AO (xs:List T) (a:Nat):fQ xs a []=xs:=by simp[fQ]
theorem aeY {i n k j:Nat} (h:i < n) (hj:j < k):i*k+j < n*k:=by
 calc i*k+j < i*k+k:=by omega
  _=(i+1)*k:=by rw[Nat.succ_mul]
  _≤n*k:=Nat.mul_le_mul_right _ h
theorem LJ {P:Program} {N0:Nat} (s:SI F κ w H) (h0:N0≤H.length) {l e k a:Nat} {xs ys:List T} (ho:H[l]? =some (.row e k xs)) {g n c:Nat} (hl:κ l= .slice (some ⟨g,0,none⟩) n c) {news:List Value}
 (ha:a+ys.length≤xs.length) (n1:news.length=ys.length*k) (n2:∀ u∈news,u.oneCell'=true) (n3:∀ x∈ys,x.cells.length=k∧(k=1→x.isAgg=false))
 (n6:∀ (i:Nat) (x:T) (j:Nat) (y:T) (u:Value),ys[i]? =some x→x.cells[j]? =some y→news[i*k+j]? =some u→Rd F w y u):
 ∃ w',(storeCells ⟨g,a*k,none⟩ news).run P w= .ok () w'∧SI F κ w' (H.set l (.row e k (fQ xs a ys)))∧Ev N0 F κ w H F κ w' (H.set l (.row e k (fQ xs a ys)))∧
  ∀ (p:PV) (v:Value),RP F κ H.length w p v→RP F κ H.length w' p v:=by
 obtain⟨cs,o1,o2,o3,o4,o5⟩:=s.ro l _ ho
 have hown:=o1
 rw[hl] at hown
 rcases hown.2 with ⟨hnil,_⟩|⟨g',cap,cur,q1,q2,q3,q4,q5,q6,q7⟩
 · cases hnil
 simp only[Value.slice.injEq,Option.some.injEq,Addr.mk.injEq,and_true,true_and] at q1
 obtain⟨rfl,hn,rfl⟩:=q1
 subst hn
 have hcs:cs.length=xs.length*k:=o1.1
 have hblk:∀ xs':List T,blk κ l (.row e k xs')=some g:=fun xs'=>by simp[blk,hl,Value.ownBlock]
 have hle:a*k+news.length≤xs.length*k:=by rw[n1,←Nat.add_mul]; exact Nat.mul_le_mul_right _ ha
 have hcur:xs.length*k≤cur.size:=by rw[q6]; exact Nat.mul_le_mul_right _ q4
 have hrun:=run_storeCells_at P g (a*k) e news 0 cur w q3 (by omega) n2
 simp only[Nat.add_zero] at hrun
 refine⟨_,hrun,?_⟩
 generalize EK:(cur.toList.take (a*k)++news++cur.toList.drop (a*k+news.length)).toArray=cur'
 have hoth:∀ c,c≠g→(w.setRow g cur').heap[c]? =w.heap[c]? :=fun c hc=>setRow_other w g c cur' hc
 have tZ:∀ c,F c→(w.setRow g cur').heap[c]? =w.heap[c]? :=fun c hc=>hoth c fun e=>(s.lt l _ g ho (hblk xs)).2 (e ▸ hc)
 have htake:cur'.toList.take (xs.length*k)=cs.take (a*k)++news++cs.drop (a*k+news.length):=by
  rw[←EK,←q7]
  apply List.ext_getElem?
  intro j
  rw[iL _ _ rfl (by simp; omega)]
  simp only[List.getElem?_take]
  by_cases hj:j < xs.length*k
  · simp only[if_pos hj]
    rw[iL _ _ rfl (by simp; omega)]
  · simp only[if_neg hj]
    rw[if_neg (by omega),if_neg (by omega)]
 have hlen':(cs.take (a*k)++news++cs.drop (a*k+news.length)).length=xs.length*k:=by rw[pV _ _ rfl (by omega)]; exact hcs
 have hxl:(fQ xs a ys).length=xs.length:=pV _ _ rfl ha
 have abC:RO F κ H.length (w.setRow g cur') l (.row e k (fQ xs a ys)):=by
  refine⟨cs.take (a*k)++news++cs.drop (a*k+news.length),?_,by rw[hxl]; exact o2,fun x hx=>?_,fun c hc=>?_,fun i x j z c hx hz hc=>?_⟩
  · rw[hl,hxl]
    exact⟨hlen',.inr ⟨g,_,cur',rfl,q2,setRow_heap w g _ _ _ _ q3,q4,q5,by rw[←EK]; simp; omega,htake⟩⟩
  · simp only[fQ,List.mem_append] at hx
    rcases hx with (hx|hx)|hx
    · exact o3 x (List.mem_of_mem_take hx)
    · exact n3 x hx
    · exact o3 x (List.mem_of_mem_drop hx)
  · simp only[List.mem_append] at hc
    rcases hc with (hc|hc)|hc
    · exact o4 c (List.mem_of_mem_take hc)
    · exact n2 c hc
    · exact o4 c (List.mem_of_mem_drop hc)
  · refine Rd.mono (fun _ h=>h) tZ ?_
    rw[iL _ _ rfl (by omega)] at hc
    unfold fQ at hx
    rw[iL _ _ rfl ha] at hx
    have hjk:j < k:=by
     have hxk:x.cells.length=k:=by
      split at hx
      · exact(o3 x (List.mem_of_getElem? hx)).1
      · split at hx
        · exact(n3 x (List.mem_of_getElem? hx)).1
        · exact(o3 x (List.mem_of_getElem? hx)).1
     rw[←hxk]; exact(List.getElem?_eq_some_iff.1 hz).1
    rcases Nat.lt_or_ge i a with h1|h1
    · rw[if_pos h1] at hx
      rw[if_pos (aeY h1 hjk)] at hc
      exact o5 i x j z c hx hz hc
    · have h2:a*k≤i*k:=Nat.mul_le_mul_right _ h1
      rw[if_neg (by omega)] at hx
      rw[if_neg (by omega)] at hc
      rcases Nat.lt_or_ge i (a+ys.length) with h3|h3
      · rw[if_pos h3] at hx
        have h4:=aeY h3 hjk
        rw[Nat.add_mul,←n1] at h4
        rw[if_pos h4] at hc
        refine n6 (i - a) x j z c hx hz ?_
        rw[show(i - a)*k+j=i*k+j - a*k by rw[Nat.sub_mul]; omega]
        exact hc
      · have h4:(a+ys.length)*k≤i*k:=Nat.mul_le_mul_right _ h3
        rw[Nat.add_mul,←n1] at h4
        rw[if_neg (by omega)] at hx
        rw[if_neg (by omega)] at hc
        exact o5 i x j z c hx hz hc
 exact⟨s.oQ ho (hblk _) (hblk _) (by simp) hoth abC,Ev.oQ ho (hblk _) (hblk _) rfl rfl rfl (by simp) hoth h0 (.inl ⟨_,_,_,rfl⟩),fun p v h=>h.mono (fun _ h=>h) tZ fun l hl=>⟨rfl,h.bound l hl⟩⟩
end
end
section
open Go.RowKit
theorem Af:big+big≤maxLen:=by decide
section
variable {P:Program}
theorem GL (w:World) (base:Nat) (t ty e:TypeId) (i:TypeInfo) (size:Nat) (ht:P.underlying t=some (.slice e)) (hi:P.info? e=some i)
 (v:Value) (n:Nat) (xs:List Value) (hown:w.ownsRow base e size v n xs) (c:Nat):
 (Builtin.append_ #[t,t] ty #[v,.slice none 0 c]).run P w= .ok v w:=by
 rcases hown.2 with ⟨rfl,rfl⟩|⟨g,cap,cur,rfl,_,_,hnc,_⟩
 · simp[Builtin.append_,run_underlying ht,sizeOf,typeInfo,hi,Builtin.lenOf,Builtin.firstCells]
 · simp[Builtin.append_,run_underlying ht,sizeOf,typeInfo,hi,Builtin.lenOf,Builtin.firstCells,hnc,storeCells]
theorem wz (w:World) (t ty e:TypeId) {k b:Nat} (ht:P.underlying t=some (.slice e)) (hs:kJ P e=some (k+1)) (hby:Oq P e=some (b+1)) (hz:nJ P e (k+1)=true)
 (v:Value) (n:Nat) (xs:List Value) (hown:w.ownsRow 0 e (k+1) v n xs) (A:Option Addr) (m c:Nat) (news:List Value) (hl:news.length=m*(k+1))
 (hA:(A=none∧m=0)∨∃ ad:Addr,A=some ad∧∀ (j:Nat) (u:Value),news[j]? =some u→w.cell? (ad.add j)=some u) (h1:∀ u∈news,u.oneCell'=true)
 (hb:(n+m)*(b+1)≤big):
 ∃ v' w',(Builtin.append_ #[t,t] ty #[v,.slice A m c]).run P w= .ok v' w'∧w'.ownsRow 0 e (k+1) v' (n+m) (xs++news)∧w.grownBy w' v.ownBlock∧
  (v'.ownBlock=v.ownBlock∨v'.ownBlock=some w.heap.size):=by
 obtain⟨i,hi,hsz⟩:=pK hs
 have agF:i.bytes=b+1:=by simpa[Oq,hi] using hby
 have hle:n+m≤big:=Nat.le_trans (Nat.le_mul_of_pos_right _ (by omega)) hb
 have hmax:=Af
 rcases hA with ⟨rfl,rfl⟩|⟨ad,rfl,hA⟩
 · have:news= []:=List.eq_nil_of_length_eq_zero (by simpa using hl)
   subst this
   exact⟨v,w,GL w 0 t ty e i (k+1) ht hi v n xs hown c,by simpa using hown,⟨rfl,rfl,rfl,Nat.le_refl _,fun _ _ _=>rfl⟩,.inl rfl⟩
 · unfold nJ at hz
   cases hz':(P.info? e).bind (·.zero) with
   |none=>simp[hz'] at hz
   |some z=>
    simp only[hz',beq_iff_eq] at hz
    have hz2:i.zero=some z:=by simpa[hi] using hz'
    obtain⟨v',w',a1,a2,a3,_,a5⟩:=run_append_own_at (P:=P) w 0 t ty e i z (k+1) (b+1) ht hi hz2 hsz agF hz (by omega) v n xs hown ad m c news hl hA h1 (by omega) hb (by omega)
    exact⟨v',w',a1,a2,a3,a5⟩
theorem Jy (w:World) (t ty e:TypeId) {k b:Nat} (ht:P.underlying t=some (.slice e)) (hs:kJ P e=some (k+1)) (hby:Oq P e=some (b+1)) (hz:nJ P e (k+1)=true)
 (S:Option Addr) (n:Nat) (olds:List Value) (hlo:olds.length=n*(k+1)) (hS:(S=none∧n=0)∨∃ ad:Addr,S=some ad∧∀ (j:Nat) (u:Value),olds[j]? =some u→w.cell? (ad.add j)=some u)
 (A:Option Addr) (m c:Nat) (news:List Value) (hl:news.length=m*(k+1)) (hm:0 < m)
 (hA:(A=none∧m=0)∨∃ ad:Addr,A=some ad∧∀ (j:Nat) (u:Value),news[j]? =some u→w.cell? (ad.add j)=some u) (hb:(n+m)*(b+1)≤big):
 ∃ v' w',(Builtin.append_ #[t,t] ty #[.slice S n n,.slice A m c]).run P w= .ok v' w'∧w'.ownsRow 0 e (k+1) v' (n+m) (olds++news)∧w.grownBy w' none∧v'.ownBlock=some w.heap.size:=by
 obtain⟨i,hi,hsz⟩:=pK hs
 have agF:i.bytes=b+1:=by simpa[Oq,hi] using hby
 have hle:n+m≤big:=Nat.le_trans (Nat.le_mul_of_pos_right _ (by omega)) hb
 have hmax:=Af
 have h63:n+m≤maxLen:=by omega
 have hbm:big+big≤9223372036854775807:=by decide
 rcases hA with ⟨rfl,rfl⟩|⟨ad,rfl,hA⟩
 · omega
 unfold nJ at hz
 cases hz':(P.info? e).bind (·.zero) with
 |none=>simp[hz'] at hz
 |some z=>
  simp only[hz',beq_iff_eq] at hz
  have hz2:i.zero=some z:=by simpa[hi] using hz'
  have hlen:(olds++news).length=(n+m)*(k+1):=by rw[List.length_append,hlo,hl,Nat.add_mul]
  have grown:(w.drew.alloc (.cells (olds.toArray++news.toArray++Builtin.zeroCells z.cells (grownCap w (n+m) n e - (n+m))) e)).ownsRow 0 e (k+1)
   (.slice (some ⟨w.heap.size,0,none⟩) (n+m) (grownCap w (n+m) n e)) (n+m) (olds++news):=by
   have hge:=grownCap_ge w (n+m) n e
   have hcm:=grownCap_le_maxLen w (n+m) n e h63
   refine⟨hlen,.inr ⟨w.heap.size,_,_,rfl,by omega,heap_alloc_new w.drew _,hge,hcm,?_,?_⟩⟩
   · simp only[Array.size_append,List.size_toArray,size_zeroCells,hz,hlo,hl,←Nat.add_mul]
     congr 1
     omega
   · simp only[Array.toList_append,List.append_assoc]
     rw[←List.append_assoc,←hlen]
     exact List.take_left
  have hgb:w.grownBy (w.drew.alloc (.cells (olds.toArray++news.toArray++Builtin.zeroCells z.cells (grownCap w (n+m) n e - (n+m))) e)) none:=
   ⟨rfl,rfl,rfl,by simp,fun k hk _=>heap_alloc_old w.drew _ k hk⟩
  rcases hS with ⟨rfl,rfl⟩|⟨sd,rfl,hS⟩
  · have:olds= []:=List.eq_nil_of_length_eq_zero (by simpa using hlo)
    subst this
    have hr:=run_append_nil (P:=P) w t ty e i z ht hi hz2 ad m c news (by rw[hsz]; exact hl) hA hm (by omega) (by rw[agF]; simp at hb; exact Nat.le_trans hb (by decide))
    simp only[Nat.zero_add,List.nil_append,Array.empty_append,List.toArray] at grown hgb
    exact⟨_,_,hr,by simpa using grown,by simpa using hgb,rfl⟩
  · have hr:=run_append_grow (P:=P) w t ty e i z ht hi hz2 sd n n olds (by rw[hsz]; exact hlo) hS ad m c news (by rw[hsz]; exact hl) hA (by omega) (by omega) (by rw[agF]; exact growslice_fits (by omega) hb)
    exact⟨_,_,hr,grown,hgb,rfl⟩
theorem Jz (w:World) (t ty e:TypeId) {k:Nat} (ht:P.underlying t=some (.slice e)) (hs:kJ P e=some (k+1)) (S:Option Addr) (n:Nat) (A:Option Addr) (c:Nat):
 (Builtin.append_ #[t,t] ty #[.slice S n n,.slice A 0 c]).run P w= .ok (.slice S n n) w:=by
 obtain⟨i,hi,hsz⟩:=pK hs
 cases S<;>cases A<;>simp[Builtin.append_,run_underlying ht,sizeOf,typeInfo,hi,Builtin.lenOf,Builtin.firstCells,storeCells,loadCells,loadCellsFrom]
end
theorem vS {w:World} {e k n:Nat} {v:Value} {xs:List Value} (h:w.ownsRow 0 e k v n xs):∀ b,v.ownBlock=some b→b < w.heap.size:=fun b hb=>(h.lt b hb).2
section
variable {F:Nat→Prop} {κ:Nat→Value} {w w':World} {H:List aj}
theorem J8 {l':Nat} {e k:Nat} {xs ys:List T} {cs news:List Value} {v v':Value} {κ':Nat→Value} {N':Nat} (hv:κ' l'=v')
 (hfr:∀ b,F b→w'.heap[b]? =w.heap[b]?)
 (h1:w'.ownsRow 0 e (k+1) v' (xs.length+ys.length) (cs++news)) (hb:xs.length+ys.length≤big) (hcs:cs.length=xs.length*(k+1))
 (a1:∀ x∈xs,x.cells.length=k+1∧(k+1=1→x.isAgg=false)) (a2:∀ c∈cs,c.oneCell'=true)
 (a3:∀ (i:Nat) (x:T) (j:Nat) (y:T) (v:Value),xs[i]? =some x→x.cells[j]? =some y→cs[i*(k+1)+j]? =some v→Rd F w y v)
 (b1:∀ x∈ys,x.cells.length=k+1∧(k+1=1→x.isAgg=false)) (b2:∀ c∈news,c.oneCell'=true)
 (b3:∀ (i:Nat) (x:T) (j:Nat) (y:T) (v:Value),ys[i]? =some x→x.cells[j]? =some y→news[i*(k+1)+j]? =some v→Rd F w y v):
 RO F κ' N' w' l' (.row e (k+1) (xs++ys)):=by
 refine⟨cs++news,by rw[hv,List.length_append]; exact h1,by rw[List.length_append]; exact hb,fun x hx=>?_,fun c hc=>?_,fun i x j y v hx hy hv=>?_⟩
 · rcases List.mem_append.1 hx with h|h
   · exact a1 x h
   · exact b1 x h
 · rcases List.mem_append.1 hc with h|h
   · exact a2 c h
   · exact b2 c h
 · have hj:∀ x:T,x.cells.length=k+1→x.cells[j]? =some y→j < k+1:=fun x h1 h2=>by rw[←h1]; exact(List.getElem?_eq_some_iff.1 h2).1
   rcases Nat.lt_or_ge i xs.length with hi|hi
   · rw[List.getElem?_append_left hi] at hx
     have hj:=hj x (a1 x (List.mem_of_getElem? hx)).1 hy
     have:i*(k+1)+j < cs.length:=by
      rw[hcs]
      calc i*(k+1)+j < i*(k+1)+(k+1):=by omega
       _=(i+1)*(k+1):=by rw[Nat.succ_mul]
       _≤xs.length*(k+1):=Nat.mul_le_mul_right _ hi
     rw[List.getElem?_append_left this] at hv
     exact(a3 i x j y v hx hy hv).mono (fun _ h=>h) hfr
   · rw[List.getElem?_append_right hi] at hx
     obtain⟨d,rfl⟩:=Nat.exists_eq_add_of_le hi
     have e1:(xs.length+d)*(k+1)+j=cs.length+(d*(k+1)+j):=by rw[hcs,Nat.add_mul]; omega
     rw[e1,List.getElem?_append_right (by omega)] at hv
     simp only[Nat.add_sub_cancel_left] at hx hv
     exact(b3 d x j y v hx hy hv).mono (fun _ h=>h) hfr
end
section
variable {β:Type} {E:Env} {st:St} {F:Nat→Prop} {κ:Nat→Value} {w:World} {N0:Nat} {tm:Array Value}
theorem Next'.push (h0:N0≤st.heap.length) (s:SI F κ w st.heap) (ht:TR F κ w st tm) {o:aj} {u:Value} {w':World} {F':Nat→Prop} {p:PV} (hos:w'.os=w.os) (htp:w'.tape=w.tape) (hou:w'.output=w.output)
 (hsz:w.heap.size≤w'.heap.size) (hold:∀ b,b < w.heap.size→w'.heap[b]? =w.heap[b]?) (hF:∀ b,F b→F' b) (hF1:∀ b,F' b→F b∨w.heap.size≤b) (hfl:∀ b,F' b→b < w'.heap.size)
 (ho:RO F' (upd κ st.heap.length u) (st.heap.length+1) w' st.heap.length o)
 (hb:∀ b,blk (upd κ st.heap.length u) st.heap.length o=some b→w.heap.size≤b∧b < w'.heap.size∧ ¬ F' b)
 (hp:RP F' (upd κ st.heap.length u) (st.heap.length+1) w' p u):Next' N0 F κ w st tm p u F' (upd κ st.heap.length u) w' ⟨st.tmps,st.heap++ [o]⟩:=by
 have hs:=s.push o u hsz hold hF hF1 hfl ho hb
 refine⟨hs,⟨hos,htp,hou,hsz,fun b hb' _=>hold b hb',hF,fun b hb'=>(hF1 b hb').elim .inl (fun h=> .inr (.inr h)),fun b hb'=>?_,by simp; omega,fun l o' hl h1 h2=>?_⟩,by simpa using hp,rfl,fun i q v h1 h2=>?_⟩
 · rcases hb'.push with h|h
   · exact .inl h
   · exact .inr (hb b h).1
 · refine⟨kX κ u (by omega),o',?_,h2⟩
   rw[List.getElem?_append_left (by omega)]; exact h1
 · simpa using(ht i q v h1 h2).push s u hold hF
theorem SI.fresh {H:List aj} {w':World} {F':Nat→Prop} (s:SI F κ w H) (hsz:w.heap.size≤w'.heap.size) (hold:∀ b,b < w.heap.size→w'.heap[b]? =w.heap[b]?) (hF:∀ b,F b→F' b) (hF1:∀ b,F' b→F b∨w.heap.size≤b) (hfl:∀ b,F' b→b < w'.heap.size):SI F' κ w' H:=
 ⟨fun l o h=>(s.ro l o h).mono hF (fun b hb=>hold b (s.fl b hb)) (fun b hb=>hold b (s.lt l o b h hb).1) rfl fun l' hl'=>⟨rfl,(s.ro l o h).bound l' hl'⟩,
  fun l o b h hb=>⟨Nat.lt_of_lt_of_le (s.lt l o b h hb).1 hsz,fun hf=>(hF1 b hf).elim (s.lt l o b h hb).2 (fun h2=>by have:=(s.lt l o b h hb).1; omega)⟩,s.ne,hfl⟩
theorem Next'.fresh (h0:N0≤st.heap.length) (s:SI F κ w st.heap) (ht:TR F κ w st tm) {u:Value} {w':World} {F':Nat→Prop} {p:PV} (hos:w'.os=w.os) (htp:w'.tape=w.tape) (hou:w'.output=w.output)
 (hsz:w.heap.size≤w'.heap.size) (hold:∀ b,b < w.heap.size→w'.heap[b]? =w.heap[b]?) (hF:∀ b,F b→F' b) (hF1:∀ b,F' b→F b∨w.heap.size≤b) (hfl:∀ b,F' b→b < w'.heap.size)
 (hp:RP F' κ st.heap.length w' p u):Next' N0 F κ w st tm p u F' κ w' st:=
 ⟨s.fresh hsz hold hF hF1 hfl,⟨hos,htp,hou,hsz,fun b hb' _=>hold b hb',hF,fun b hb'=>(hF1 b hb').elim .inl (fun h=> .inr (.inr h)),fun b hb=> .inl hb,h0,fun l o' hl h1 h2=>⟨rfl,o',h1,h2⟩⟩,hp,rfl,
  fun i q v h1 h2=>(ht i q v h1 h2).mono hF (fun b hb=>hold b (s.fl b hb)) fun l hl=>⟨rfl,(ht i q v h1 h2).bound l hl⟩⟩
theorem NM {t t' ty:TypeId} {s x:PV} {K:PV→St→ah β} {vs vx:Value} (h:qI E st t t' s x K≠ .stuck) (h0:N0≤st.heap.length) (hsi:SI F κ w st.heap) (ht:TR F κ w st tm)
 (hs:RP F κ st.heap.length w s vs) (hx:RP F κ st.heap.length w x vx):
 ∃ q u st' F' κ' w',qI E st t t' s x K=K q st'∧(Builtin.append_ #[t,t'] ty #[vs,vx]).run E.P w= .ok u w'∧Next' N0 F κ w st tm q u F' κ' w' st':=by
 unfold qI at h ⊢
 cases he:AY E.P t with
 |none=>simp[he] at h
 |some e=>
  cases hz:kJ E.P e with
  |none=>simp[he,hz] at h
  |some k=>
   cases k with
   |zero=>simp[he,hz] at h
   |succ k=>
    cases hb:Oq E.P e with
    |none=>simp[he,hz,hb] at h
    |some b=>
     cases b with
     |zero=>simp[he,hz,hb] at h
     |succ b=>
      simp only[he,hz,hb] at h ⊢
      obtain⟨hg,e1⟩:=bD h
      rw[e1] at h ⊢
      simp only[Bool.and_eq_true,beq_iff_eq] at hg
      obtain⟨rfl,hzero⟩:=hg
      have hun:=jO he
      obtain⟨ys,e2,hv⟩:=zi h hsi hx
      rw[e2] at h ⊢
      obtain⟨A,c,news,rfl,n1,n2,n3,n4,n5,n6⟩:=hv.news
      have hA:(A=none∧ys.length=0)∨∃ ad:Addr,A=some ad∧∀ (j:Nat) (u:Value),news[j]? =some u→w.cell? (ad.add j)=some u:=n5.imp (fun h=>⟨h.1,by rw[h.2]; rfl⟩) id
      cases hs with
      |nil=>
       simp only[] at h ⊢
       obtain⟨c1,c2⟩:=dQ h
       rw[c2]
       have c3:(0+ys.length)*(b+1)≤big:=by simpa using c1
       obtain⟨v',w',r1,r2,r3,r4⟩:=wz w t ty e hun hz hb hzero (.slice none 0 0) 0 [] (World.ownsRow_nil w 0 e (k+1)) A ys.length c news n1 hA n2 c3
       have hnew:∀ b,v'.ownBlock=some b→b=w.heap.size:=fun b hb=>by
        rcases r4 with r4|r4
        · rw[hb] at r4; cases r4
        · rw[hb] at r4; injection r4
       have hold:∀ b,b < w.heap.size→w'.heap[b]? =w.heap[b]? :=fun b hb=>r3.block b hb (by simp[Value.ownBlock])
       have hro:=J8 (F:=F) (w:=w) (l':=st.heap.length) (xs:=[]) (ys:=ys) (cs:=[]) (v:=v') (κ':=upd κ st.heap.length v') (N':=st.heap.length+1) (upd_same κ _ v') (fun b hb=>hold b (hsi.fl b hb))
        (by simpa using r2) (by simpa using n4) (by simp) (by simp) (by simp) (by simp) n3 n2 n6
       refine⟨_,v',_,F,upd κ st.heap.length v',w',rfl,r1,Next'.push h0 hsi ht r3.os r3.tape r3.output r3.size hold (fun _ h=>h) (fun _ h=> .inl h) (fun b hb=>Nat.lt_of_lt_of_le (hsi.fl b hb) r3.size) (by simpa using hro) (fun b hb=>?_) ?_⟩
       · simp only[blk,upd_same] at hb
         have h2:=vS r2 b hb
         have:=hnew b hb
         exact⟨by omega,h2,fun hf=>by have:=hsi.fl b hf; omega⟩
       · obtain⟨A',c',h4,_⟩:=uz hro
         rw[upd_same] at h4
         rw[h4]
         exact .own (by omega) (by rw[upd_same])
      | @own l A' n' c' hl hk=>
       simp only[] at h ⊢
       cases ho:st.heap[l]? with
       |none=>simp[ho] at h
       |some obj=>
        cases obj with
        |row e0 k0 xs=>
         simp only[ho] at h ⊢
         obtain⟨hg,e3⟩:=bD h
         rw[e3] at h ⊢
         simp only[Bool.and_eq_true,beq_iff_eq] at hg
         obtain⟨rfl,rfl⟩:=hg
         obtain⟨c1,c2⟩:=dQ h
         rw[c2]
         obtain⟨cs,o1,o2,o3,o4,o5⟩:=hsi.ro l _ ho
         have c3:(xs.length+ys.length)*(b+1)≤big:=by simpa using c1
         have c4:xs.length+ys.length≤big:=Nat.le_trans (Nat.le_mul_of_pos_right _ (by omega)) c3
         obtain⟨v',w',r1,r2,r3,r4⟩:=wz w t ty e0 hun hz hb hzero (κ l) xs.length cs o1 A ys.length c news n1 hA n2 c3
         have tZ:∀ b,F b→w'.heap[b]? =w.heap[b]? :=fun b hb=>r3.block b (hsi.fl b hb) fun e=>(hsi.lt l _ b ho (by simpa[blk] using e.symm)).2 hb
         have hro:=J8 (F:=F) (w:=w) (l':=l) (xs:=xs) (ys:=ys) (cs:=cs) (v:=v') (κ':=upd κ l v') (N':=st.heap.length) (upd_same κ _ v') tZ
          r2 c4 o1.1 o3 o4 o5 n3 n2 n6
         obtain⟨t1,t2,t3,t4⟩:=hsi.QM ho v' r3 (r4.imp id fun h=>⟨_,h,Nat.le_refl _⟩) (vS r2) hro N0 h0
         rw[hk] at r1
         refine⟨_,v',_,F,upd κ l v',w',rfl,r1,t1,t2,?_,by simp[jk],fun i q v g1 g2=>?_⟩
         · obtain⟨A',c',h4,_⟩:=uz hro
           rw[upd_same] at h4
           rw[h4]
           exact .own (by simpa using hl) (by rw[upd_same])
         · rw[gK,Option.map_eq_some_iff] at g1
           obtain⟨q,g1,rfl⟩:=g1
           exact(ht i q v g1 g2).kill _ (fun _ h=>h) t3 (by simp) t4
        |_=>simp[ho] at h
      | @view l k0 lo hi A0 n0 c0 hN hl=>
       simp only[] at h ⊢
       cases ho:st.heap[l]? with
       |none=>simp[ho] at h
       |some obj=>
        have hro:=hsi.ro l obj ho
        cases obj with
        |row e0 k1 xs=>
         simp only[ho] at h ⊢
         obtain⟨hg,e3⟩:=bD h
         rw[e3] at h ⊢
         simp only[Bool.and_eq_true,beq_iff_eq] at hg
         obtain⟨⟨rfl,rfl⟩,rfl⟩:=hg
         obtain⟨c1,c2⟩:=dQ h
         rw[c2]
         simp only[Bool.and_eq_true,decide_eq_true_eq] at c1
         obtain⟨B,n,cc,A',⟨v1,vb⟩,v2,v3,v4,v5⟩:=hl
         injection v2 with v2 v7 v8
         subst v2; subst v7; subst v8
         obtain⟨cs,o1,_⟩:=hro
         obtain⟨hx1,hx2⟩:n=xs.length∧n≤cc:=by
          rcases o1.2 with ⟨q1,q2⟩|⟨g,cap,cur,q1,_,_,q2,_⟩
          · rw[v1] at q1; injection q1 with q1 q3 q4; omega
          · rw[v1] at q1; injection q1 with q1 q3 q4; omega
         subst hx1
         obtain⟨i,hi',hsz⟩:=pK hz
         have fin:∀ (w':World) (st':St),SI F κ w' st'.heap→Ev N0 F κ w st.heap F κ w' st'.heap→st'.heap.length=st.heap.length→st'.tmps=st.tmps→(∀ (p:PV) (v:Value),RP F κ st.heap.length w p v→RP F κ st.heap.length w' p v)→
          Next' N0 F κ w st tm (.view l (k+1) lo (hi+ys.length)) (.slice A0 (hi - lo+ys.length) (cc - lo)) F κ w' st':=by
          intro w' st' a1 a2 a3 a4 a5
          refine⟨a1,a2,.view (by rw[a3]; exact hN) ⟨B,xs.length,cc,A0,⟨v1,vb⟩,by congr 1; omega,by omega,by omega,v5⟩,by rw[a4],fun i q v g1 g2=>?_⟩
          rw[a3]
          exact a5 q v (ht i q v (by rw[←a4]; exact g1) g2)
         have hroom:hi - lo+ys.length≤cc - lo:=by omega
         have hst:∀ (ad:Addr),A=some ad→(Builtin.firstCells i.size ys.length (.slice A ys.length c)).run E.P w= .ok news.toArray w:=fun ad had=>by
          subst had
          refine run_firstCells_some w i.size ys.length ad ys.length c news (by rw[hsz]; exact n1) ?_
          rcases n5 with ⟨h,_⟩|⟨ad',h,h'⟩
          · cases h
          · injection h with h; subst h; exact h'
         rcases v5 with ⟨rfl,rfl⟩|⟨g,o,rfl,rfl,v6⟩
         ·
          have hys:ys= []:=by
           rcases o1.2 with ⟨q1,q2⟩|⟨g,cap,cur,q1,_⟩
           · exact List.eq_nil_of_length_eq_zero (by omega)
           · rw[v1] at q1; cases q1
          subst hys
          have hnews:news= []:=List.eq_nil_of_length_eq_zero (by simpa using n1)
          have hset:st.heap.set l (.row e0 (k+1) (fQ xs hi []))=st.heap:=by
           rw[AO]; exact set_self ho
          refine⟨_,_,_,F,κ,w,rfl,?_,fin w _ ?_ ?_ ?_ rfl (fun _ _ h=>h)⟩
          · cases A<;>simp[Builtin.append_,run_underlying hun,sizeOf,typeInfo,hi',Builtin.lenOf,Builtin.firstCells,hroom,loadCells,loadCellsFrom]<;>omega
          · simp only[hset]; exact hsi
          · simp only[hset]; exact Ev.refl h0
          · simp
         · rcases Nat.eq_zero_or_pos ys.length with ey|ey
           · have hys:ys= []:=List.eq_nil_of_length_eq_zero ey
             subst hys
             have hset:st.heap.set l (.row e0 (k+1) (fQ xs hi []))=st.heap:=by
              rw[AO]; exact set_self ho
             refine⟨_,_,_,F,κ,w,rfl,?_,fin w _ ?_ ?_ ?_ rfl (fun _ _ h=>h)⟩
             · cases A<;>simp[Builtin.append_,run_underlying hun,sizeOf,typeInfo,hi',Builtin.lenOf,Builtin.firstCells,hroom,loadCells,loadCellsFrom,storeCells]<;>omega
             · simp only[hset]; exact hsi
             · simp only[hset]; exact Ev.refl h0
             · simp
           · obtain⟨w',g1,g2,g3,g4⟩:=LJ (P:=E.P) (N0:=N0) (a:=hi) hsi h0 ho v1 c1.2 n1 n2 n3 n6
             have hA':∃ ad,A=some ad:=by
              rcases n5 with ⟨_,h⟩|⟨ad,h,_⟩
              · subst h; simp at ey
              · exact⟨ad,h⟩
             obtain⟨ad,rfl⟩:=hA'
             have hg1:(storeCells ⟨g,hi*(k+1),none⟩ news).run E.P w= .ok () w':=g1
             have hoff:o+(hi - lo)*(k+1)=hi*(k+1):=by rw[v6 (by omega),←Nat.add_mul]; congr 1; omega
             refine⟨_,_,_,F,κ,w',rfl,?_,fin w' _ g2 g3 (by simp) rfl g4⟩
             have hst':=hst ad rfl
             rw[hsz] at hst'
             simp[Builtin.append_,run_underlying hun,sizeOf,typeInfo,hi',Builtin.lenOf,hroom,hst',add_mid,hsz,hoff,g1]
        |_=>simp[ho] at h
      | @full k0 xs S hr=>
       simp only[] at h ⊢
       obtain⟨hg,e3⟩:=bD h
       rw[e3] at h ⊢
       simp only[beq_iff_eq] at hg
       subst hg
       obtain⟨c1,c2⟩:=dQ h
       rw[c2]
       have c3:(xs.length+ys.length)*(b+1)≤big:=by simpa using c1
       have c4:xs.length+ys.length≤big:=Nat.le_trans (Nat.le_mul_of_pos_right _ (by omega)) c3
       rcases Nat.eq_zero_or_pos ys.length with e0|e0
       · have:ys= []:=List.eq_nil_of_length_eq_zero e0
         subst this
         refine⟨_,_,_,F,κ,w,rfl,Jz w t ty e hun hz S xs.length A c,Next'.same h0 hsi ht ?_⟩
         rw[List.append_nil]
         exact .t hr
       · obtain⟨A',c',olds,q1,o1,o2,o3,o4,o5,o6⟩:=(xX.IB (κ:=κ) (H:=st.heap) (p:= .junk) hr).news
         injection q1 with q1 q2 q3
         subst q1
         have hS:(S=none∧xs.length=0)∨∃ ad:Addr,S=some ad∧∀ (j:Nat) (u:Value),olds[j]? =some u→w.cell? (ad.add j)=some u:=o5.imp (fun h=>⟨h.1,by rw[h.2]; rfl⟩) id
         obtain⟨v',w',r1,r2,r3,r4⟩:=Jy w t ty e hun hz hb hzero S xs.length olds o1 hS A ys.length c news n1 e0 hA c3
         have hold:∀ b,b < w.heap.size→w'.heap[b]? =w.heap[b]? :=fun b hb=>r3.block b hb (by simp)
         have hro:=J8 (F:=F) (w:=w) (l':=0) (xs:=xs) (ys:=ys) (cs:=olds) (v:=v') (κ':=fun _=>v') (N':=0) rfl (fun b hb=>hold b (hsi.fl b hb)) r2 c4 o1 o3 o2 o6 n3 n2 n6
         have hsl:=xX.ER (κ:=fun _=>v') (H:=[.row e (k+1) (xs++ys)]) hro rfl
         have hlt:=vS r2 _ r4
         have hrd:=hsl.frozen (F':=fun b=>F b∨b=w.heap.size) (fun _ h=> .inl h) (fun l hl e' k' xs' b g1 g2=>by change v'.ownBlock=some b at g2; rw[r4] at g2; injection g2 with g2; exact .inr g2.symm)
         refine⟨_,v',_,fun b=>F b∨b=w.heap.size,κ,w',rfl,r1,Next'.fresh h0 hsi ht r3.os r3.tape r3.output r3.size hold (fun _ h=> .inl h) (fun b h=>h.imp id (by omega)) (fun b h=>?_) (.t hrd)⟩
         rcases h with h|rfl
         · exact Nat.lt_of_lt_of_le (hsi.fl b h) r3.size
         · exact hlt
      |_=>exact absurd rfl h
end
end
end Go.aT
