/- The texts of a proof, one behind the other: an interpreter and its soundness, what the functions of the program answer, and plain laws on that. -/
import Derived.Test.YtjlpnhpfbgbkhaaGreatK1
set_option linter.unusedVariables false
set_option linter.unusedSimpArgs false
set_option linter.unnecessarySimpa false
set_option linter.unusedSectionVars false
set_option maxRecDepth 100000
namespace Go.aT
section
open Go.RowKit
def RO (F:Nat→Prop) (κ:Nat→Value) (N:Nat) (w:World) (l:Nat):aj→Prop
 | .box e n v=>∃ b vs vv,κ l= .pointer (some ⟨b,0,none⟩)∧w.heap[b]? =some (.cells vs e (0,0))∧vs=vv.cells∧vs.size=n∧(∀ c∈vs,c.oneCell'=true)∧RP F κ N w v vv
 | .ng e n v=>∃ b,κ l= .pointer (some ⟨b,0,none⟩)∧Rd F w (.ref v) (κ l)∧v.cells.length=n
 | .row e k xs=>∃ cs,w.ownsRow 0 e k (κ l) xs.length cs∧xs.length≤big∧(∀ x∈xs,x.cells.length=k∧(k=1→x.isAgg=false))∧(∀ c∈cs,c.oneCell'=true)∧
  (∀ (i:Nat) (x:T) (j:Nat) (y:T) (v:Value),xs[i]? =some x→x.cells[j]? =some y→cs[i*k+j]? =some v→Rd F w y v)
 | .jT e k xs=>Rd F w (.sl k xs) (κ l)∧(∀ ad n c,κ l= .slice (some ad) n c→∃ b,ad=⟨b,0,none⟩)
 | .vec e k n xs=>∃ cs,w.ownsRow 0 e k (κ l) n cs∧n≤big∧xs.length=n*k∧(∀ c∈cs,c.oneCell'=true)∧
  (∀ (i:Nat) (p:PV) (v:Value),xs[i]? =some p→cs[i]? =some v→RP F κ N w p v)
 | .map es c=>∃ b ms,κ l= .map (some b)∧w.heap[b]? =some (.map ms c)∧ms.size=es.length∧
  (∀ (i:Nat) (x:T×T×Nat) (m:MapEntry),es[i]? =some x→ms[i]? =some m→Rd F w x.1 m.key∧Rd F w x.2.1 m.val∧m.born=x.2.2)
 | .iter m since seen last=>∃ b bm,κ l= .pointer (some ⟨b,0,none⟩)∧κ m= .map (some bm)∧m < N∧w.heap[b]? =some (.mapIter (some bm) since seen.toArray last)
 | .dead=>True
def iY:Value→Option Nat
 | .pointer (some a)=>some a.block
 | .map r=>r
 |_=>none
def blk (κ:Nat→Value) (l:Nat):aj→Option Nat
 | .box _ _ _=>iY (κ l)
 | .row _ _ _=>(κ l).ownBlock
 | .vec _ _ _ _=>(κ l).ownBlock
 | .map _ _=>iY (κ l)
 | .iter _ _ _ _=>iY (κ l)
 |_=>none
def Own (κ:Nat→Value) (H:List aj) (b:Nat):Prop:=∃ l o,H[l]? =some o∧blk κ l o=some b
structure SI (F:Nat→Prop) (κ:Nat→Value) (w:World) (H:List aj):Prop where
 ro:∀ l o,H[l]? =some o→RO F κ H.length w l o
 lt:∀ l o b,H[l]? =some o→blk κ l o=some b→b < w.heap.size∧ ¬ F b
 ne:∀ l l' o o' b,H[l]? =some o→H[l']? =some o'→blk κ l o=some b→blk κ l' o'=some b→l=l'
 fl:∀ b,F b→b < w.heap.size
theorem RO.mono {F F':Nat→Prop} {κ κ':Nat→Value} {N N':Nat} {w w':World} (hF:∀ b,F b→F' b) (hw:∀ b,F b→w'.heap[b]? =w.heap[b]?) {l:Nat} {o:aj}
 (h:RO F κ N w l o) (hb:∀ b,blk κ l o=some b→w'.heap[b]? =w.heap[b]?) (hk:κ' l=κ l) (hl:∀ l'∈o.gq,κ' l'=κ l'∧l' < N'):RO F' κ' N' w' l o:=by
 cases o with
 |box e n v=>
  obtain⟨b,vs,vv,h1,h2,h3,h4,h5,h6⟩:=h
  exact⟨b,vs,vv,hk.trans h1,(hb b (by simp[blk,h1,iY])).trans h2,h3,h4,h5,h6.mono hF hw hl⟩
 |ng e n v=>
  obtain⟨b,h1,h2,h3⟩:=h
  exact⟨b,hk.trans h1,by rw[hk]; exact h2.mono hF hw,h3⟩
 |row e k xs=>
  obtain⟨cs,h1,h2,h3,h4,h5⟩:=h
  refine⟨cs,?_,h2,h3,h4,fun i x j y v a b c=>(h5 i x j y v a b c).mono hF hw⟩
  rw[hk]
  refine⟨h1.1,h1.2.imp id ?_⟩
  rintro⟨g,cap,cur,e1,e2,e3,e4⟩
  exact⟨g,cap,cur,e1,e2,(hb g (by simp[blk,e1,Value.ownBlock])).trans e3,e4⟩
 |jT e k xs=>
  obtain⟨h1,h2⟩:=h
  exact⟨by rw[hk]; exact h1.mono hF hw,by rw[hk]; exact h2⟩
 |vec e k n xs=>
  obtain⟨cs,h1,h2,h3,h4,h5⟩:=h
  refine⟨cs,?_,h2,h3,h4,fun i p v a b=>(h5 i p v a b).mono hF hw fun l' hl'=>hl l' ?_⟩
  · rw[hk]
    refine⟨h1.1,h1.2.imp id ?_⟩
    rintro⟨g,cap,cur,e1,e2,e3,e4⟩
    exact⟨g,cap,cur,e1,e2,(hb g (by simp[blk,e1,Value.ownBlock])).trans e3,e4⟩
  · simp only[aj.gq]
    exact lW (List.mem_of_getElem? a) hl'
 |map es c=>
  obtain⟨b,ms,h1,h2,h3,h4⟩:=h
  refine⟨b,ms,hk.trans h1,(hb b (by simp[blk,h1,iY])).trans h2,h3,fun i x m a d=>?_⟩
  obtain⟨r1,r2,r3⟩:=h4 i x m a d
  exact⟨r1.mono hF hw,r2.mono hF hw,r3⟩
 |iter m since seen last=>
  obtain⟨b,bm,h1,h2,h3,h4⟩:=h
  obtain⟨g1,g2⟩:=hl m (by simp[aj.gq])
  exact⟨b,bm,hk.trans h1,g1.trans h2,g2,(hb b (by simp[blk,h1,iY])).trans h4⟩
 |dead=>trivial
theorem RO.bound {F:Nat→Prop} {κ:Nat→Value} {N:Nat} {w:World} {l:Nat} {o:aj} (h:RO F κ N w l o):∀ l'∈o.gq,l' < N:=by
 cases o with
 |box e n v=>obtain⟨b,vs,vv,h1,h2,h3,h4,h5,h6⟩:=h; exact h6.bound
 |vec e k n xs=>
  obtain⟨cs,h1,h2,h3,h4,h5⟩:=h
  have aux:RP F κ N w (.au xs) (.tuple cs.toArray):= .au (by rw[h1.1,h3]) h5
  simpa[aj.gq,PV.gq] using aux.bound
 |iter m since seen last=>obtain⟨b,bm,h1,h2,h3,h4⟩:=h; intro l' hl; simp[aj.gq] at hl; omega
 |_=>intro l' hl; simp[aj.gq] at hl
structure Ev (N0:Nat) (F:Nat→Prop) (κ:Nat→Value) (w:World) (H:List aj) (F':Nat→Prop) (κ':Nat→Value) (w':World) (H':List aj):Prop where
 os:w'.os=w.os
 tape:w'.tape=w.tape
 output:w'.output=w.output
 size:w.heap.size≤w'.heap.size
 frame:∀ b,b < w.heap.size→ ¬ Own κ H b→w'.heap[b]? =w.heap[b]?
 fm:∀ b,F b→F' b
 fn:∀ b,F' b→F b∨Own κ H b∨w.heap.size≤b
 on:∀ b,Own κ' H' b→Own κ H b∨w.heap.size≤b
 hl:N0≤H'.length
 kp:∀ l o,l < N0→H[l]? =some o→(∀ e k xs,o≠ .row e k xs)→κ' l=κ l∧∃ o',H'[l]? =some o'∧∀ e k xs,o'≠ .row e k xs
theorem Ev.refl {N0:Nat} {F:Nat→Prop} {κ:Nat→Value} {w:World} {H:List aj} (h:N0≤H.length):Ev N0 F κ w H F κ w H:=
 ⟨rfl,rfl,rfl,Nat.le_refl _,fun _ _ _=>rfl,fun _ h=>h,fun _ h=> .inl h,fun _ h=> .inl h,h,fun l o _ h1 h2=>⟨rfl,o,h1,h2⟩⟩
theorem Ev.trans {N0:Nat} {F F1 F2:Nat→Prop} {κ κ1 κ2:Nat→Value} {w w1 w2:World} {H H1 H2:List aj} (a:Ev N0 F κ w H F1 κ1 w1 H1) (b:Ev N0 F1 κ1 w1 H1 F2 κ2 w2 H2):Ev N0 F κ w H F2 κ2 w2 H2 where
 os:=b.os.trans a.os
 tape:=b.tape.trans a.tape
 output:=b.output.trans a.output
 size:=Nat.le_trans a.size b.size
 frame:=fun c hc ho=>by
  refine(b.frame c (by have:=a.size; omega) fun h=>?_).trans (a.frame c hc ho)
  rcases a.on c h with h|h
  · exact ho h
  · omega
 fm:=fun c h=>b.fm c (a.fm c h)
 fn:=fun c h=>by
  rcases b.fn c h with h|h|h
  · exact a.fn c h
  · exact(a.on c h).imp id id |>.elim (fun x=> .inr (.inl x)) (fun x=> .inr (.inr x))
  · exact .inr (.inr (by have:=a.size; omega))
 on:=fun c h=>by
  rcases b.on c h with h|h
  · exact a.on c h
  · exact .inr (by have:=a.size; omega)
 hl:=b.hl
 kp:=fun l o hl h1 h2=>by
  obtain⟨e1,o1,g1,g2⟩:=a.kp l o hl h1 h2
  obtain⟨e2,o2,g3,g4⟩:=b.kp l o1 hl g1 g2
  exact⟨e2.trans e1,o2,g3,g4⟩
structure mX (N0:Nat) (F:Nat→Prop) (κ:Nat→Value) (w:World) (H:List aj) (F':Nat→Prop) (κ':Nat→Value) (w':World) (H':List aj):Prop extends Ev N0 F κ w H F' κ' w' H' where
 drawn:w.drawn≤w'.drawn
theorem mX.refl {N0:Nat} {F:Nat→Prop} {κ:Nat→Value} {w:World} {H:List aj} (h:N0≤H.length):mX N0 F κ w H F κ w H:=⟨Ev.refl h,Nat.le_refl _⟩
theorem mX.trans {N0:Nat} {F F1 F2:Nat→Prop} {κ κ1 κ2:Nat→Value} {w w1 w2:World} {H H1 H2:List aj} (a:mX N0 F κ w H F1 κ1 w1 H1) (b:mX N0 F1 κ1 w1 H1 F2 κ2 w2 H2):mX N0 F κ w H F2 κ2 w2 H2:=⟨a.toEv.trans b.toEv,Nat.le_trans a.drawn b.drawn⟩
theorem Ev.frozen {N0:Nat} {F F':Nat→Prop} {κ κ':Nat→Value} {w w':World} {H H':List aj} (h:Ev N0 F κ w H F' κ' w' H') (s:SI F κ w H):∀ b,F b→w'.heap[b]? =w.heap[b]? :=
 fun b hb=>h.frame b (s.fl b hb) fun⟨l,o,h1,h2⟩=>(s.lt l o b h1 h2).2 hb
structure Rel (F:Nat→Prop) (κ:Nat→Value) (st:St) (a:Act) (w:World):Prop where
 tl:a.tmps.size=st.tmps.length
 tr:∀ (i:Nat) (p:PV) (v:Value),st.tmps[i]? =some p→a.tmps[i]? =some v→RP F κ st.heap.length w p v
 dn:a.defers= []
 si:SI F κ w st.heap
def upd (κ:Nat→Value) (l:Nat) (v:Value):Nat→Value:=fun i=>if i=l then v else κ i
theorem upd_same (κ:Nat→Value) (l:Nat) (v:Value):upd κ l v l=v:=by simp[upd]
theorem kX (κ:Nat→Value) {l i:Nat} (v:Value) (h:i≠l):upd κ l v i=κ i:=by simp[upd,h]
theorem heap_alloc_old' (w:World) (o:Obj) (b:Nat) (h:b < w.heap.size):(w.alloc o).heap[b]? =w.heap[b]? :=Below.heap_alloc w o b h
theorem heap_alloc_new' (w:World) (o:Obj):(w.alloc o).heap[w.heap.size]? =some o:=by
 show(w.heap.push o)[w.heap.size]? =some o
 simp
theorem wG {κ:Nat→Value} {l i:Nat} {v:Value} {o:aj} (h:i≠l):blk (upd κ l v) i o=blk κ i o:=by
 cases o<;>simp[blk,kX κ v h]
theorem SI.push {F F1:Nat→Prop} {κ:Nat→Value} {w w1:World} {H:List aj} (s:SI F κ w H) (o:aj) (v:Value)
 (hsz:w.heap.size≤w1.heap.size) (hold:∀ b,b < w.heap.size→w1.heap[b]? =w.heap[b]?) (hF:∀ b,F b→F1 b) (hF1:∀ b,F1 b→F b∨w.heap.size≤b) (hfl:∀ b,F1 b→b < w1.heap.size)
 (ho:RO F1 (upd κ H.length v) (H.length+1) w1 H.length o)
 (hb:∀ b,blk (upd κ H.length v) H.length o=some b→w.heap.size≤b∧b < w1.heap.size∧ ¬ F1 b):SI F1 (upd κ H.length v) w1 (H++ [o]):=by
 have hget:∀ l o',(H++ [o])[l]? =some o'→(l < H.length∧H[l]? =some o')∨(l=H.length∧o'=o):=by
  intro l o' h
  rcases Nat.lt_or_ge l H.length with h1|h1
  · rw[List.getElem?_append_left h1] at h; exact .inl ⟨h1,h⟩
  · rw[List.getElem?_append_right h1] at h
    have:l - H.length=0:=by have:=(List.getElem?_eq_some_iff.1 h).1; simp at this; omega
    rw[this] at h
    simp at h
    exact .inr ⟨by omega,h.symm⟩
 have hblk:∀ l o' b,l < H.length→H[l]? =some o'→blk (upd κ H.length v) l o'=some b→b < w.heap.size∧ ¬ F1 b:=by
  intro l o' b h1 h2 h3
  rw[wG (by omega)] at h3
  obtain⟨a,c⟩:=s.lt l o' b h2 h3
  exact⟨a,fun hf=>(hF1 b hf).elim c (fun h=>by omega)⟩
 refine⟨fun l o' h=>?_,fun l o' b h1 h2=>?_,fun l l' o1 o2 b h1 h2 h3 h4=>?_,hfl⟩
 · rw[List.length_append,List.length_singleton]
   rcases hget l o' h with ⟨h1,h2⟩|⟨rfl,rfl⟩
   · refine(s.ro l o' h2).mono hF (fun b hb'=>hold b (s.fl b hb')) (fun b hb'=>hold b (s.lt l o' b h2 hb').1) (kX κ v (by omega)) (fun l' hl'=>?_)
     have:=(s.ro l o' h2).bound l' hl'
     exact⟨kX κ v (by omega),by omega⟩
   · exact ho
 · rcases hget l o' h1 with ⟨h3,h4⟩|⟨rfl,rfl⟩
   · obtain⟨a,c⟩:=hblk l o' b h3 h4 h2
     exact⟨by omega,c⟩
   · exact(hb b h2).2
 · rcases hget l o1 h1 with ⟨a1,a2⟩|⟨rfl,rfl⟩<;>rcases hget l' o2 h2 with ⟨b1,b2⟩|⟨rfl,rfl⟩
   · rw[wG (by omega)] at h3 h4
     exact s.ne l l' o1 o2 b a2 b2 h3 h4
   · have:=(hblk l o1 b a1 a2 h3).1; have:=(hb b h4).1; omega
   · have:=(hblk l' o2 b b1 b2 h4).1; have:=(hb b h3).1; omega
   · rfl
theorem Own.push {κ:Nat→Value} {H:List aj} {o:aj} {v:Value} {b:Nat} (h:Own (upd κ H.length v) (H++ [o]) b):Own κ H b∨blk (upd κ H.length v) H.length o=some b:=by
 obtain⟨l,o',h1,h2⟩:=h
 rcases Nat.lt_or_ge l H.length with h3|h3
 · rw[List.getElem?_append_left h3] at h1
   rw[wG (by omega)] at h2
   exact .inl ⟨l,o',h1,h2⟩
 · rw[List.getElem?_append_right h3] at h1
   have:l - H.length=0:=by have:=(List.getElem?_eq_some_iff.1 h1).1; simp at this; omega
   rw[this] at h1
   simp at h1
   obtain rfl:l=H.length:=by omega
   subst h1
   exact .inr h2
theorem RP.push {F F1:Nat→Prop} {κ:Nat→Value} {w w1:World} {H:List aj} (s:SI F κ w H) (v0:Value) (hold:∀ b,b < w.heap.size→w1.heap[b]? =w.heap[b]?) (hF:∀ b,F b→F1 b)
 {p:PV} {v:Value} (h:RP F κ H.length w p v):RP F1 (upd κ H.length v0) (H.length+1) w1 p v:=
 h.mono hF (fun b hb=>hold b (s.fl b hb)) fun l hl=>by
  have:=h.bound l hl
  exact⟨kX κ v0 (by omega),by omega⟩
end
section
open Go.RowKit
section
variable {P:Program}
theorem pK {t:TypeId} {s:Nat} (h:kJ P t=some s):∃ i,P.info? t=some i∧i.size=s:=by
 simpa[kJ,Option.map_eq_some_iff] using h
theorem jM {t:TypeId} {s:Nat} (h:kJ P t=some s) (w:World):(sizeOf t).run P w= .ok s w:=by
 obtain⟨i,h1,h2⟩:=pK h
 simp[sizeOf,typeInfo,h1,h2]
theorem vU {t:TypeId} {a:Bool} (h:lM P t=some a) (w:World):(isAgg t).run P w= .ok a w:=by
 unfold lM at h
 unfold isAgg
 rw[Sem.run_bind]
 cases hu:P.underlying t with
 |none=>simp[hu] at h
 |some d=>
  rw[run_underlying hu w]
  cases d<;>simp_all
theorem add_mid (b o j:Nat):(⟨b,o,none⟩:Addr).add j=⟨b,o+j,none⟩:=by unfold Addr.add; split<;>simp_all
theorem qZ {t:TypeId} {s:Nat} {a:Bool} (hs:kJ P t=some s) (ha:lM P t=some a) (w:World) (b o:Nat) (vs:List Value) (hl:vs.length=s) (h1:a=false→s=1)
 (hc:∀ j v,vs[j]? =some v→w.cell? ⟨b,o+j,none⟩=some v):
 (Instr.loadAt t (.pointer (some ⟨b,o,none⟩))).run P w= .ok (if a then .agg vs.toArray else vs.getD 0 undef) w:=by
 simp only[Instr.loadAt,Instr.sureAddr,Sem.run_bind,Sem.run_pure,Result.andThen_ok,loadVar,vU ha]
 cases a with
 |true=>
  simp only[if_true,Sem.run_bind,jM hs,Result.andThen_ok]
  rw[←hl,run_loadCells_list (P:=P) w ⟨b,o,none⟩ vs (fun j v hv=>by rw[add_mid]; exact hc j v hv)]
  rfl
 |false=>
  have h0:=h1 rfl
  subst h0
  match vs,hl with
  | [v],_=>
   have:=hc 0 v rfl
   simp at this
   simp[run_load,this]
theorem tK {x:T} (h:x.isAgg=false):x.cells= [x]:=by cases x<;>simp_all [T.isAgg,T.cells]
theorem Kv {x:T} (h:2≤x.cells.length):∃ cs,x= .agg cs:=by cases x<;>simp_all [T.cells]
theorem Rd.aaR {F:Nat→Prop} {w:World} {x:T} {k o s:Nat} {a:Bool} {val:Nat→Value} (hk:x.cells.length=k) (h1:∀ j,j < k→(val j).oneCell'=true)
 (hr:∀ j y,x.cells[j]? =some y→Rd F w y (val j)) (ho:o+s≤k) (hs:a=false→s=1):
 Rd F w (x.ay o s a) (if a then .agg ((List.range s).map fun j=>val (o+j)).toArray else val o):=by
 cases a with
 |true=>
  simp only[if_true,T.ay,cond_true]
  refine .agg (by simp; omega) (fun v hv=>?_) fun i y v hy hv=>?_
  · simp only[List.mem_map,List.mem_range] at hv
    obtain⟨j,hj,rfl⟩:=hv
    exact h1 _ (by omega)
  · rw[List.getElem?_take] at hy
    split at hy
    · rename_i hi
      rw[List.getElem?_drop] at hy
      rw[List.getElem?_map,List.getElem?_range hi] at hv
      simp at hv
      subst hv
      exact hr _ _ hy
    · cases hy
 |false=>
  simp only[T.ay,cond_false,T.cell,Bool.false_eq_true,if_false]
  have:=hs rfl
  subst this
  have hlt:o < x.cells.length:=by omega
  rw[List.getD_eq_getElem?_getD,List.getElem?_eq_getElem hlt]
  exact hr o _ (List.getElem?_eq_getElem hlt)
theorem Rd.agB {F:Nat→Prop} {w:World} {x:T} {k:Nat} {a:Bool} {val:Nat→Value} (hk:x.cells.length=k) (hag:k=1→x.isAgg=false) (h1:∀ j,j < k→(val j).oneCell'=true)
 (hr:∀ j y,x.cells[j]? =some y→Rd F w y (val j)) (hs:(a=true∧2≤k)∨(a=false∧k=1)):
 Rd F w x (if a then .agg ((List.range k).map fun j=>val j).toArray else val 0):=by
 rcases hs with ⟨rfl,h2⟩|⟨rfl,rfl⟩
 · obtain⟨cs,rfl⟩:=Kv (x:=x) (by omega)
   simp only[if_true,T.cells] at hk hr ⊢
   refine .agg (by simp[hk]) (fun v hv=>?_) fun i y v hy hv=>?_
   · simp only[List.mem_map,List.mem_range] at hv
     obtain⟨j,hj,rfl⟩:=hv
     exact h1 _ hj
   · have hi:i < k:=by rw[←hk]; exact(List.getElem?_eq_some_iff.1 hy).1
     rw[List.getElem?_map,List.getElem?_range hi] at hv
     simp at hv
     subst hv
     exact hr _ _ hy
 · have:=tK (hag rfl)
   simpa using hr 0 x (by rw[this]; rfl)
theorem guard_of {a:Bool} {s:Nat} (h:(!((a&&decide (2≤s))||(!a&&s==1)))=false):(a=true∧2≤s)∨(a=false∧s=1):=by
 cases a<;>simp_all
theorem cells_one {v:Value} (h:v.oneCell'=true):v.cells= #[v]:=by cases v<;>simp_all [Value.oneCell',Value.cells]
theorem Rd.XM {F:Nat→Prop} {w:World} {x:T} {v:Value} (h:Rd F w x v) (h1:v.oneCell'=true):x.isAgg=false:=by
 cases h<;>simp_all [Value.oneCell',T.isAgg]
theorem zX {F:Nat→Prop} {κ:Nat→Value} {N:Nat} {w:World} {cs:List PV} {vs:List Value} (hl:vs.length=cs.length) (h1:∀ v∈vs,v.oneCell'=true)
 (hr:∀ (i:Nat) (p:PV) (v:Value),cs[i]? =some p→vs[i]? =some v→RP F κ N w p v):RP F κ N w (xR cs) (.agg vs.toArray):=by
 have aux:∀ (cs:List PV) (ts:List T),allT cs=some ts→ts.length=cs.length∧∀ (i:Nat) (x:T),ts[i]? =some x→cs[i]? =some (PV.t x):=by
  intro cs
  induction cs with
  |nil=>intro ts h; simp[allT] at h; subst h; simp
  |cons p r ih=>
   intro ts h
   cases p<;>simp[allT,Option.map_eq_some_iff] at h
   obtain⟨r',h2,rfl⟩:=h
   obtain⟨a,b⟩:=ih r' h2
   refine⟨by simp[a],fun i x hx=>?_⟩
   cases i with
   |zero=>simpa using hx
   |succ i=>simpa using b i x (by simpa using hx)
 unfold xR
 cases h:allT cs with
 |none=>exact .agg hl h1 hr
 |some ts=>
  obtain⟨a,b⟩:=aux cs ts h
  refine .t (.agg (by omega) h1 fun i x v hx hv=>?_)
  have:=hr i _ v (b i x hx) hv
  cases this with
  |t h=>exact h
theorem RP.cell_of {F:Nat→Prop} {κ:Nat→Value} {N:Nat} {w:World} {p:PV} {v:Value} (h:RP F κ N w p v) {n o s:Nat} {a:Bool} (hn:v.cells.size=n) (h1:∀ c∈v.cells,c.oneCell'=true)
 (ho:o+s≤n) (hs:(a=true∧2≤s)∨(a=false∧s=1)):
 RP F κ N w (p.part o s a) (if a then .agg ((v.cells.toList.drop o).take s).toArray else v.cells.getD o undef):=by
 have hone:∀ c∈(v.cells.toList.drop o).take s,c.oneCell'=true:=fun c hc=>h1 c (by simpa using List.mem_of_mem_drop (List.mem_of_mem_take hc))
 by_cases hv:v.oneCell'=true
 · rw[cells_one hv] at hn ⊢
   simp at hn
   rcases hs with ⟨rfl,h2⟩|⟨rfl,rfl⟩
   · omega
   · obtain rfl:o=0:=by omega
     simp only[Bool.false_eq_true,if_false]
     show RP F κ N w (p.part 0 1 false) v
     cases h with
     |t h=>
      have:=tK (h.XM hv)
      simpa[PV.part,T.ay,T.cell,this] using RP.t h
     |agg hl _ _=>simp[Value.oneCell'] at hv
     |au hl _=>simp[Value.oneCell'] at hv
     |nil=>exact .nil
     |fn a b c d=>exact .fn a b c d
     |ptr a b=>exact .ptr a b
     |own a b=>exact .own a b
     |iC a b c=>exact .iC a b c
     |view a b=>exact .view a b
     |full h=>exact .full h
     |rp val a b c d e f=>exact .rp val a b c d e f
     |mp a b=>exact .mp a b
     |junk=>exact .junk
 · cases v with
   |tuple vs=>exact absurd (h1 (.tuple vs) (by simp[Value.cells])) (by simp[Value.oneCell'])
   |agg vs=>
    simp only[Value.cells] at hn ho h1 hone ⊢
    cases h with
    |junk=>exact .junk
    | @t x _ h=>
     cases h with
     | @agg cs vs hl ha hr=>
      simp only[PV.part]
      refine .t ?_
      simp only[List.size_toArray] at hn
      have:=Rd.aaR (F:=F) (w:=w) (x:= .agg cs) (k:=n) (o:=o) (s:=s) (a:=a) (val:=fun j=>vs.getD j undef) (by simp[T.cells]; omega)
       (fun j hj=>by rw[List.getD_eq_getElem?_getD,List.getElem?_eq_getElem (by omega)]; exact ha _ (List.getElem_mem _))
       (fun j y hy=>by
        have hj:j < vs.length:=by rw[hl]; exact(List.getElem?_eq_some_iff.1 hy).1
        rw[List.getD_eq_getElem?_getD,List.getElem?_eq_getElem hj]
        exact hr j y _ hy (List.getElem?_eq_getElem hj)) ho (by rcases hs with ⟨rfl,_⟩|⟨rfl,h⟩<;>simp_all)
      cases a with
      |true=>
       simp only[if_true] at this ⊢
       have e:((List.range s).map fun j=>vs.getD (o+j) undef)=(vs.drop o).take s:=by
        apply List.ext_getElem
        · simp; omega
        · intro i h1 h2
          simp at h1
          simp[List.getD_eq_getElem?_getD,List.getElem?_eq_getElem (show o+i < vs.length by omega)]
       rwa [e] at this
      |false=>
       simp only[Bool.false_eq_true,if_false] at this ⊢
       simpa[List.getD_eq_getElem?_getD] using this
    | @agg cs vs hl ha hr=>
     simp only[PV.part]
     simp only[List.size_toArray] at hn
     rcases hs with ⟨rfl,h2⟩|⟨rfl,rfl⟩
     · simp only[cond_true,if_true]
       refine zX (by simp; omega) hone fun i p v hp hv=>?_
       rw[List.getElem?_take] at hp hv
       split at hp
       · rename_i hi
         rw[if_pos hi] at hv
         rw[List.getElem?_drop] at hp hv
         exact hr _ _ _ hp (by simpa using hv)
       · cases hp
     · simp only[cond_false,Bool.false_eq_true,if_false]
       have h2:o < cs.length:=by omega
       refine hr o _ _ (by rw[List.getD_eq_getElem?_getD,List.getElem?_eq_getElem h2]; rfl) ?_
       simp[List.getElem?_eq_getElem (show o < vs.length by omega)]
   |_=>exact absurd rfl hv
theorem Gi {F:Nat→Prop} {w:World} {t:TypeId} {s k:Nat} {a:Bool} (hs:kJ P t=some s) (ha:lM P t=some a) (hg:(a=true∧2≤s)∨(a=false∧s=1))
 {x:T} {b p:Nat} {val:Nat→Value} (hk:x.cells.length=k) (hag:k=1→x.isAgg=false) (h1:∀ j,j < k→(val j).oneCell'=true)
 (hc:∀ j,j < k→w.cell? ⟨b,p+j,none⟩=some (val j)) (hr:∀ j y,x.cells[j]? =some y→Rd F w y (val j)) (o:Nat) (ho:o+s≤k):
 ∃ u,(Instr.loadAt t (.pointer (some ⟨b,p+o,none⟩))).run P w= .ok u w∧Rd F w (x.ay o s a) u∧(o=0→s=k→Rd F w x u):=by
 have hrun:=qZ hs ha w b (p+o) ((List.range s).map fun j=>val (o+j)) (by simp) (by rcases hg with ⟨rfl,_⟩|⟨rfl,h⟩<;>simp_all) (fun j v hv=>by
  have hj:j < s:=by have:=(List.getElem?_eq_some_iff.1 hv).1; simpa using this
  rw[List.getElem?_map,List.getElem?_range hj] at hv
  simp at hv
  subst hv
  rw[Nat.add_assoc]
  exact hc _ (by omega))
 refine⟨_,hrun,?_,fun h0 h2=>?_⟩
 · have:=Rd.aaR (a:=a) hk h1 hr ho (by rcases hg with ⟨rfl,_⟩|⟨rfl,h⟩<;>simp_all)
   rcases hg with ⟨rfl,_⟩|⟨rfl,rfl⟩
   · simpa using this
   · simpa[List.range_succ] using this
 · subst h0
   subst h2
   have:=Rd.agB hk hag h1 hr hg
   rcases hg with ⟨rfl,_⟩|⟨rfl,rfl⟩
   · simpa using this
   · simpa[List.range_succ] using this
end
theorem acr {F:Nat→Prop} {κ:Nat→Value} {N l:Nat} {w:World} {e k:Nat} {xs:List T} (h:RO F κ N w l (.row e k xs)) {b n c:Nat} (hk:κ l= .slice (some ⟨b,0,none⟩) n c) {i:Nat} (hi:i < xs.length):
 ∃ val:Nat→Value,(xs.getD i .dS).cells.length=k∧(k=1→(xs.getD i .dS).isAgg=false)∧(∀ j,j < k→(val j).oneCell'=true)∧(∀ j,j < k→w.cell? ⟨b,i*k+j,none⟩=some (val j))∧
  (∀ j y,(xs.getD i .dS).cells[j]? =some y→Rd F w y (val j)):=by
 obtain⟨cs,h1,h2,h3,h4,h5⟩:=h
 have hx:xs.getD i .dS∈xs:=by rw[List.getD_eq_getElem?_getD,List.getElem?_eq_getElem hi]; exact List.getElem_mem _
 have hcs:cs.length=xs.length*k:=h1.1
 have hin:∀ j,j < k→i*k+j < cs.length:=fun j hj=>by
  rw[hcs]
  calc i*k+j < i*k+k:=by omega
   _=(i+1)*k:=by rw[Nat.succ_mul]
   _≤xs.length*k:=Nat.mul_le_mul_right _ hi
 refine⟨fun j=>cs.getD (i*k+j) undef,(h3 _ hx).1,(h3 _ hx).2,fun j hj=>?_,fun j hj=>?_,fun j y hy=>?_⟩
 · show(cs.getD (i*k+j) undef).oneCell'=true
   rw[List.getD_eq_getElem?_getD,List.getElem?_eq_getElem (hin j hj)]; exact h4 _ (List.getElem_mem _)
 · have:=h1.cells (g:=b) (by rw[hk]; rfl) (i*k+j) (cs.getD (i*k+j) undef) (by rw[List.getD_eq_getElem?_getD,List.getElem?_eq_getElem (hin j hj)]; rfl)
   rwa [add_mid,Nat.zero_add] at this
 · have hj:j < k:=by rw[←(h3 _ hx).1]; exact(List.getElem?_eq_some_iff.1 hy).1
   refine h5 i _ j y _ ?_ hy ?_
   · rw[List.getD_eq_getElem?_getD,List.getElem?_eq_getElem hi]; rfl
   · simp[List.getElem?_eq_getElem (hin j hj)]
theorem Ew {F:Nat→Prop} {w:World} {k:Nat} {xs:List T} {A:Option Addr} {n c:Nat} (h:Rd F w (.sl k xs) (.slice A n c)) {i:Nat} (hi:i < xs.length):
 ∃ b o,A=some ⟨b,o,none⟩∧F b∧∃ val:Nat→Value,(xs.getD i .dS).cells.length=k∧(k=1→(xs.getD i .dS).isAgg=false)∧(∀ j,j < k→(val j).oneCell'=true)∧(∀ j,j < k→w.cell? ⟨b,o+i*k+j,none⟩=some (val j))∧
  (∀ j y,(xs.getD i .dS).cells[j]? =some y→Rd F w y (val j)):=by
 cases h with
 |sl b o val hn hb hk hA h1 hc hr=>
  have hx:xs.getD i .dS∈xs:=by rw[List.getD_eq_getElem?_getD,List.getElem?_eq_getElem hi]; exact List.getElem_mem _
  exact⟨b,o,(hA (by omega)).1,(hA (by omega)).2,val i,(hk _ hx).1,(hk _ hx).2,fun j hj=>h1 i j hi hj,fun j hj=>hc i j hi hj,
   fun j y hy=>hr i _ j y (by rw[List.getD_eq_getElem?_getD,List.getElem?_eq_getElem hi]; rfl) hy⟩
theorem JB {F:Nat→Prop} {w:World} {k:Nat} {xs:List T} {A:Option Addr} {n c:Nat} (h:Rd F w (.sl k xs) (.slice A n c)):n=xs.length∧n≤c∧n≤big:=by
 cases h with
 |sl b o val hn hb hk hA h1 hc hr=>exact⟨rfl,hn,hb⟩
theorem uz {F:Nat→Prop} {κ:Nat→Value} {N l:Nat} {w:World} {e k:Nat} {xs:List T} (h:RO F κ N w l (.row e k xs)):∃ A c,κ l= .slice A xs.length c∧xs.length≤big:=by
 obtain⟨cs,h1,h2,_⟩:=h
 rcases h1.2 with ⟨e1,e2⟩|⟨g,cap,cur,e1,_⟩
 · exact⟨none,0,by rw[e1,e2],h2⟩
 · exact⟨_,cap,e1,h2⟩
theorem vec_len {F:Nat→Prop} {κ:Nat→Value} {N l:Nat} {w:World} {e k n:Nat} {xs:List PV} (h:RO F κ N w l (.vec e k n xs)):∃ A c,κ l= .slice A n c∧n≤big:=by
 obtain⟨cs,h1,h2,_⟩:=h
 rcases h1.2 with ⟨e1,e2⟩|⟨g,cap,cur,e1,_⟩
 · exact⟨none,0,by rw[e1,e2],h2⟩
 · exact⟨_,cap,e1,h2⟩
theorem adu {F:Nat→Prop} {κ:Nat→Value} {N l:Nat} {w:World} {e k m:Nat} {xs:List PV} (h:RO F κ N w l (.vec e k m xs)) {b n c:Nat} (hk:κ l= .slice (some ⟨b,0,none⟩) n c) {i:Nat} (hi:i < n):
 n=m∧∃ val:Nat→Value,(∀ j,j < k→(val j).oneCell'=true)∧(∀ j,j < k→w.cell? ⟨b,i*k+j,none⟩=some (val j))∧∀ j p,j < k→xs[i*k+j]? =some p→RP F κ N w p (val j):=by
 obtain⟨cs,h1,h2,h3,h4,h5⟩:=h
 have hn:n=m:=by
  rcases h1.2 with ⟨e1,e2⟩|⟨g,cap,cur,e1,_⟩
  · rw[hk] at e1; cases e1
  · rw[hk] at e1; injection e1
 subst hn
 have hcs:cs.length=n*k:=h1.1
 have hin:∀ j,j < k→i*k+j < cs.length:=fun j hj=>by
  rw[hcs]
  calc i*k+j < i*k+k:=by omega
   _=(i+1)*k:=by rw[Nat.succ_mul]
   _≤n*k:=Nat.mul_le_mul_right _ hi
 refine⟨rfl,fun j=>cs.getD (i*k+j) undef,fun j hj=>?_,fun j hj=>?_,fun j p hj hp=>?_⟩
 · show(cs.getD (i*k+j) undef).oneCell'=true
   rw[List.getD_eq_getElem?_getD,List.getElem?_eq_getElem (hin j hj)]; exact h4 _ (List.getElem_mem _)
 · have:=h1.cells (g:=b) (by rw[hk]; rfl) (i*k+j) (cs.getD (i*k+j) undef) (by rw[List.getD_eq_getElem?_getD,List.getElem?_eq_getElem (hin j hj)]; rfl)
   rwa [add_mid,Nat.zero_add] at this
 · exact h5 _ p _ hp (by simp[List.getElem?_eq_getElem (hin j hj)])
end
section
open Go.RowKit
section
variable {β:Type}
theorem aB {α:Type} {o:Option α} {K:α→ah β} (h:aS o K≠ .stuck):∃ a,o=some a∧aS o K=K a:=by
 cases o with
 |none=>exact absurd rfl h
 |some a=>exact⟨a,rfl,rfl⟩
theorem dQ {b:Bool} {r:ah β} (h:chk b r≠ .stuck):b=true∧chk b r=r:=by
 cases b with
 |false=>exact absurd rfl h
 |true=>exact⟨rfl,rfl⟩
theorem Xv {x:T} {K:Bool→ah β} (h:bT x K≠ .stuck):∃ b,x= .bool b∧bT x K=K b:=by
 cases x<;>first|exact⟨_,rfl,rfl⟩|exact absurd rfl h
theorem sQ {k:IntKind} {x:T} {K:Int→ah β} (h:iT k x K≠ .stuck):∃ n,x= .int k n∧iT k x K=K n:=by
 cases x with
 |int k' n=>
  by_cases e:k'=k
  · subst e; exact⟨n,rfl,by simp[iT]⟩
  · simp[iT,e] at h
 |_=>exact absurd rfl h
theorem D7 {x:T} {K:Int→ah β} (h:o9 x K≠ .stuck):∃ k n,x= .int k n∧o9 x K=K n:=by
 cases x<;>first|exact⟨_,_,rfl,rfl⟩|exact absurd rfl h
theorem aa3 {k:Nat} {x:T} {K:List T→ah β} (h:qW k x K≠ .stuck):∃ xs,x= .sl k xs∧qW k x K=K xs:=by
 cases x with
 |sl k' xs=>
  by_cases e:k'=k
  · subst e; exact⟨xs,rfl,by simp[qW]⟩
  · simp[qW,e] at h
 |_=>exact absurd rfl h
theorem Kq {x:T} {K:ByteArray→ah β} (h:Qd x K≠ .stuck):∃ s,x= .str s∧Qd x K=K s:=by
 cases x<;>first|exact⟨_,rfl,rfl⟩|exact absurd rfl h
theorem agx {x:T} {K:Int→ah β} (h:iO x K≠ .stuck):∃ k xs,x= .sl k xs∧iO x K=K xs.length:=by
 cases x<;>first|exact absurd rfl h|exact⟨_,_,rfl,rfl⟩
theorem abo {x:T} {i:Nat} {K:T→ah β} (h:aG x i K≠ .stuck):∃ l y,x= .au l∧l[i]? =some y∧aG x i K=K y:=by
 cases x with
 |au l=>
  cases e:l[i]? with
  |none=>simp[aG,e] at h
  |some y=>exact⟨l,y,rfl,e,by simp[aG,e]⟩
 |_=>exact absurd rfl h
theorem Z4 {xs:List T} {i:Int} {K:T→ah β} (h:bK xs i K≠ .stuck):∃ e,0≤i∧i.toNat < xs.length∧xs[i.toNat]? =some e∧bK xs i K=K e:=by
 unfold bK at h ⊢
 by_cases h0:0≤i
 · rw[if_pos h0] at h
   cases e:xs[i.toNat]? with
   |none=>simp[e] at h
   |some y=>exact⟨y,h0,(List.getElem?_eq_some_iff.1 e).1,rfl,by simp[h0,e]⟩
 · simp[h0] at h
theorem J4 {x:T} {K:T→ah β} (h:PS x .stuck K≠ .stuck):∃ y,x= .ref y∧PS x .stuck K=K y:=by
 cases x<;>first|exact⟨_,rfl,rfl⟩|exact absurd rfl h
theorem jq {b:Bool} {r:ah β} (h:(bif b then .stuck else r)≠ .stuck):b=false∧(bif b then .stuck else r)=r:=by
 cases b with
 |true=>exact absurd rfl h
 |false=>exact⟨rfl,rfl⟩
theorem bD {b:Bool} {r:ah β} (h:(bif b then r else .stuck)≠ .stuck):b=true∧(bif b then r else .stuck)=r:=by
 cases b with
 |false=>exact absurd rfl h
 |true=>exact⟨rfl,rfl⟩
end
theorem aaB {xs:List T} {i:Nat} {e d:T} (h:xs[i]? =some e):xs.getD i d=e:=by rw[List.getD_eq_getElem?_getD,h]; rfl
section
variable {β:Type} {E:Env} {st:St} {F:Nat→Prop} {κ:Nat→Value} {w:World}
theorem Hg {t:TypeId} {p:PV} {K:PV→ah β} {v:Value} (h:uj E st t p K≠ .stuck) (s:SI F κ w st.heap) (hp:RP F κ st.heap.length w p v):
 ∃ q u,uj E st t p K=K q∧(Instr.loadAt t v).run E.P w= .ok u w∧RP F κ st.heap.length w q u:=by
 unfold uj at h ⊢
 cases hs:kJ E.P t with
 |none=>simp[hs] at h
 |some sz=>
  cases ha:lM E.P t with
  |none=>simp[hs,ha] at h
  |some a=>
   simp only[hs,ha] at h ⊢
   obtain⟨hg,he⟩:=jq h
   rw[he] at h ⊢
   replace hg:=guard_of hg
   clear he
   have hrows:∀ {x:T} {b p k o:Nat} {val:Nat→Value},x.cells.length=k→(k=1→x.isAgg=false)→(∀ j,j < k→(val j).oneCell'=true)→(∀ j,j < k→w.cell? ⟨b,p+j,none⟩=some (val j))→
    (∀ j y,x.cells[j]? =some y→Rd F w y (val j))→(∀ K':PV→ah β,(bif o==0&&sz==k then K' (.t x) else bif decide (o+sz≤k) then K' (.t (x.ay o sz a)) else .stuck)≠ .stuck→
    ∃ q u,(bif o==0&&sz==k then K' (.t x) else bif decide (o+sz≤k) then K' (.t (x.ay o sz a)) else .stuck)=K' q∧(Instr.loadAt t (.pointer (some ⟨b,p+o,none⟩))).run E.P w= .ok u w∧RP F κ st.heap.length w q u):=by
    intro x b p k o val hk hag h1 hc hr K' hne
    cases hw:(o==0&&sz==k) with
    |true=>
     simp only[Bool.and_eq_true,beq_iff_eq] at hw
     obtain⟨rfl,rfl⟩:=hw
     obtain⟨u,h2,_,h3⟩:=Gi hs ha hg hk hag h1 hc hr 0 (by omega)
     exact⟨_,u,rfl,h2,.t (h3 rfl rfl)⟩
    |false=>
     rw[hw] at hne
     simp only[cond_false] at hne ⊢
     obtain⟨h5,h6⟩:=bD hne
     rw[h6]
     obtain⟨u,h2,h3,_⟩:=Gi hs ha hg hk hag h1 hc hr o (by simpa using h5)
     exact⟨_,u,rfl,h2,.t h3⟩
   cases hp with
   | @ptr l o b hN hl=>
    cases ho:st.heap[l]? with
    |none=>simp[ho] at h
    |some obj=>
     have hro:=s.ro l obj ho
     cases obj with
     |box e n v=>
      simp only[ho] at h ⊢
      obtain⟨b',vs,vv,r1,r2,r3,r4,r5,r6⟩:=hro
      rw[hl] at r1
      injection r1 with r1; injection r1 with r1; injection r1 with r1
      subst r1
      subst r3
      have hcell:∀ j c,vv.cells.toList[j]? =some c→w.cell? ⟨b,j,none⟩=some c:=fun j c hc=>by
       simp only[World.cell?,r2]; simpa using hc
      have hpart:o+sz≤n→∃ u,(Instr.loadAt t (.pointer (some ⟨b,o,none⟩))).run E.P w= .ok u w∧RP F κ st.heap.length w (v.part o sz a) u:=by
       intro hle
       refine⟨_,qZ hs ha w b o ((vv.cells.toList.drop o).take sz) (by simp; omega) (by rcases hg with ⟨rfl,_⟩|⟨rfl,h⟩<;>simp_all) (fun j c hc=>?_),?_⟩
       · rw[List.getElem?_take] at hc
         split at hc
         · rw[List.getElem?_drop] at hc; exact hcell _ _ hc
         · cases hc
       · have:=r6.cell_of (n:=n) (o:=o) (s:=sz) (a:=a) r4 r5 hle hg
         rcases hg with ⟨rfl,h2⟩|⟨rfl,rfl⟩
         · simpa using this
         · simpa[List.getD_eq_getElem?_getD,List.getElem?_take] using this
      cases hw:(o==0&&sz==n&&decide (2≤n)) with
      |true=>
       simp only[Bool.and_eq_true,beq_iff_eq,decide_eq_true_eq] at hw
       obtain⟨⟨rfl,rfl⟩,h2⟩:=hw
       rcases hg with ⟨rfl,_⟩|⟨rfl,h3⟩
       · refine⟨_,_,rfl,qZ hs ha w b 0 vv.cells.toList (by simp[r4]) (by simp) (fun j c hc=>by simpa using hcell j c hc),?_⟩
         simp only[if_true,Array.toArray_toList]
         have:vv= .agg vv.cells:=by
          cases vv<;>first|rfl|(simp[Value.cells] at r4; omega)
         rw[←this]; exact r6
       · omega
      |false=>
       rw[hw] at h
       simp only[cond_false] at h ⊢
       obtain⟨h5,h6⟩:=bD h
       rw[h6]
       obtain⟨u,h7,h8⟩:=hpart (by simpa using h5)
       exact⟨_,u,rfl,h7,h8⟩
     |ng e n x=>
      simp only[ho] at h ⊢
      obtain⟨b',r1,r2,r3⟩:=hro
      rw[r1] at r2
      rw[hl] at r1
      injection r1 with r1; injection r1 with r1; injection r1 with r1
      subst r1
      cases r2 with
      |ref val hF hs' h1 hc hr=>
       have:=hrows (b:=b) (p:=0) (k:=n) (o:=o) r3 (fun h=>hs' (by omega)) (fun j hj=>h1 j (by omega)) (fun j hj=>hc j (by omega)) hr K h
       simpa using this
     |_=>simp[ho] at h
   | @iC l k i o b n c hN hl hi=>
    cases ho:st.heap[l]? with
    |none=>simp[ho] at h
    |some obj=>
     have hro:=s.ro l obj ho
     cases obj with
     |row e k' xs=>
      simp only[ho] at h ⊢
      obtain⟨hk,e1⟩:=bD h
      rw[e1] at h ⊢
      have hk':k'=k:=by simpa using hk
      subst hk'
      obtain⟨A,c',e2,_⟩:=uz hro
      rw[hl] at e2
      injection e2 with e2 e3 e4
      obtain⟨val,g1,g2,g3,g4,g5⟩:=acr hro hl (i:=i) (by omega)
      exact hrows g1 g2 g3 g4 g5 K h
     |jT e k' xs=>
      simp only[ho] at h ⊢
      obtain⟨hk,e1⟩:=bD h
      rw[e1] at h ⊢
      have hk':k'=k:=by simpa using hk
      subst hk'
      obtain⟨r1,r2⟩:=hro
      rw[hl] at r1
      have hn:=(JB r1).1
      obtain⟨b',o',a1,a2,val,g1,g2,g3,g4,g5⟩:=Ew r1 (i:=i) (by omega)
      injection a1 with a1
      injection a1 with a1 a3
      subst a1
      subst a3
      have:=hrows g1 g2 g3 g4 g5 K h
      simpa using this
     |vec e k' m xs=>
      simp only[ho] at h ⊢
      obtain⟨hk,e1⟩:=bD h
      rw[e1] at h ⊢
      simp only[Bool.and_eq_true,beq_iff_eq,decide_eq_true_eq] at hk
      obtain⟨rfl,hos⟩:=hk
      obtain⟨rfl,val,g1,g2,g3⟩:=adu hro hl hi
      have hxl:xs.length=n*k':=by obtain⟨_,_,_,h3,_⟩:=hro; exact h3
      have hin:i*k'+k'≤n*k':=by
       calc i*k'+k'=(i+1)*k':=by rw[Nat.succ_mul]
        _≤n*k':=Nat.mul_le_mul_right _ hi
      refine⟨_,_,rfl,qZ hs ha w b (i*k'+o) ((List.range sz).map fun j=>val (o+j)) (by simp) (by rcases hg with ⟨rfl,_⟩|⟨rfl,h⟩<;>simp_all) (fun j v hv=>?_),?_⟩
      · have hj:j < sz:=by have:=(List.getElem?_eq_some_iff.1 hv).1; simpa using this
        rw[List.getElem?_map,List.getElem?_range hj] at hv
        simp at hv
        subst hv
        rw[Nat.add_assoc]
        exact g2 _ (by omega)
      · rcases hg with ⟨rfl,_⟩|⟨rfl,rfl⟩
        · simp only[if_true,cond_true]
          refine zX (by simp; omega) (fun v hv=>?_) (fun j p v hp hv=>?_)
          · obtain⟨j,hj,rfl⟩:=List.mem_map.1 hv
            exact g1 _ (by have:=List.mem_range.1 hj; omega)
          · have hj:j < sz:=by have:=(List.getElem?_eq_some_iff.1 hv).1; simpa using this
            rw[List.getElem?_map,List.getElem?_range hj] at hv
            simp only[Option.map_some,Option.some.injEq] at hv
            subst hv
            rw[List.getElem?_take,if_pos hj,List.getElem?_drop] at hp
            exact g3 (o+j) p (by omega) (by rw[←hp]; congr 1; omega)
        · simp only[Bool.false_eq_true,if_false,cond_false]
          have hx:i*k'+o < xs.length:=by omega
          have:=g3 o (xs.getD (i*k'+o) .junk) (by omega) (by rw[List.getD_eq_getElem?_getD,List.getElem?_eq_getElem hx]; rfl)
          simpa[List.range_succ] using this
     |_=>simp[ho] at h
   | @rp k x o b p val hF hk hs' h1 hc hr=>
    exact hrows hk hs' h1 hc hr K h
   | @t x v hx=>
    simp only[] at h ⊢
    obtain⟨y,rfl,e⟩:=J4 h
    rw[e] at h ⊢
    obtain⟨h5,h6⟩:=dQ h
    rw[h6]
    cases hx with
    |ref val hF hs' h1 hc hr=>
     have h5':y.cells.length=sz:=by simpa using h5
     obtain⟨u,h2,_,h3⟩:=Gi hs ha hg h5' (fun h=>hs' (by omega)) (fun j hj=>h1 j (by omega)) (fun j hj=>hc j (by omega)) hr 0 (by omega)
     exact⟨_,u,rfl,by simpa using h2,.t (h3 rfl rfl)⟩
   |_=>exact absurd rfl h
end
end
section
open Go.RowKit
theorem jO {P:Program} {t e:TypeId} (h:AY P t=some e):P.underlying t=some (.slice e):=by
 unfold AY at h
 cases hu:P.underlying t with
 |none=>simp[hu] at h
 |some d=>cases d<;>simp_all
theorem tH {P:Program} {t:TypeId} {k:IntKind} (h:qC P t=some k):P.underlying t=some (.int k):=by
 unfold qC at h
 cases hu:P.underlying t with
 |none=>simp[hu] at h
 |some d=>cases d<;>simp_all
theorem Az (k:IntKind) (n:Int):kindOk k (k.wrap n)=true:=by
 cases k<;>(simp only[kindOk,IntKind.wrap,IntKind.min,IntKind.max,IntKind.signed,IntKind.bits,Bool.and_eq_true,decide_eq_true_eq]; simp; omega)
theorem ajw {k:IntKind} {a b:Int} (h:kindOk k a=true):kindOk k (a.tmod b)=true:=by
 have h2:(a.tmod b).natAbs≤a.natAbs:=by
  rw[Int.natAbs_tmod]
  exact Nat.mod_le _ _
 have h3:0≤a→0≤a.tmod b:=fun h=>Int.tmod_nonneg _ h
 have h4:a≤0→a.tmod b≤0:=fun h=>by
  have:=Int.tmod_nonneg b (show 0≤ -a by omega)
  rw[Int.neg_tmod] at this
  omega
 simp only[kindOk,Bool.and_eq_true,decide_eq_true_eq] at h ⊢
 cases k<;>simp[IntKind.min,IntKind.max,IntKind.signed,IntKind.bits] at h ⊢ <;>omega
theorem aiE {k:IntKind} {a:Int} (n:Nat) (h:kindOk k a=true):kindOk k (a.fdiv (2 ^ n))=true:=by
 have hp:(0:Int) < 2 ^ n:=Int.pow_pos (by omega)
 rw[Int.fdiv_eq_ediv_of_nonneg _ (by omega)]
 have h3:0≤a→0≤a / 2 ^ n∧a / 2 ^ n≤a:=fun h=>⟨Int.ediv_nonneg h (by omega),Int.ediv_le_self _ h⟩
 have h4:a < 0→a≤a / 2 ^ n∧a / 2 ^ n < 0:=fun h=>by
  refine⟨?_,Int.ediv_neg_of_neg_of_pos h hp⟩
  rw[Int.le_ediv_iff_mul_le hp]
  have:(1:Int)≤2 ^ n:=by omega
  have h5:=Int.mul_nonneg (show 0≤ -a by omega) (show 0≤(2:Int) ^ n - 1 by omega)
  rw[Int.mul_sub,Int.neg_mul] at h5
  omega
 simp only[kindOk,Bool.and_eq_true,decide_eq_true_eq] at h ⊢
 cases k<;>simp[IntKind.min,IntKind.max,IntKind.signed,IntKind.bits] at h ⊢ <;>omega
theorem yY {n:Nat} (h:n≤big):kindOk .i64 (n:Int)=true:=by
 unfold big at h
 simp[kindOk,IntKind.min,IntKind.max,IntKind.signed,IntKind.bits]
 omega
section
variable {β:Type} {E:Env} {st:St} {F:Nat→Prop} {κ:Nat→Value} {w:World}
theorem Rj {t:TypeId} {p ix:PV} {K:PV→ah β} {v vi:Value} (h:pY E st t p ix K≠ .stuck) (s:SI F κ w st.heap) (hp:RP F κ st.heap.length w p v) (hi:RP F κ st.heap.length w ix vi):
 ∃ q u,pY E st t p ix K=K q∧(Instr.indexAt t v vi).run E.P w= .ok u w∧RP F κ st.heap.length w q u:=by
 unfold pY at h ⊢
 cases he:AY E.P t with
 |none=>simp[he] at h
 |some e=>
  cases hs:kJ E.P e with
  |none=>simp[he,hs] at h
  |some k=>
   simp only[he,hs] at h ⊢
   have hu:=jO he
   cases hi with
   | @t iv vi hi=>
    simp only[] at h ⊢
    obtain⟨ki,i,rfl,e1⟩:=D7 h
    rw[e1] at h ⊢
    cases hi with
    |int hik=>
     have hrun:∀ (ad:Addr) (n c:Nat),0≤i→i.toNat < n→(Instr.indexAt t (.slice (some ad) n c) (.int ki i)).run E.P w= .ok (.pointer (some (ad.add (i.toNat*k)))) w:=by
      intro ad n c h0 h1
      have:0≤i∧i < (n:Int):=⟨h0,by omega⟩
      simp[Instr.indexAt,asIntOf,run_underlying hu,this,jM hs]
     cases hp with
     | @own l A n c hN hl=>
      simp only[] at h ⊢
      cases ho:st.heap[l]? with
      |none=>simp[ho] at h
      |some obj=>
       have hro:=s.ro l obj ho
       have fin:∀ {xs:List T} {k':Nat} (K':PV→ah β),n=xs.length→(∀ ad,A=some ad→∃ b,ad=⟨b,0,none⟩)→(0 < n→A≠none)→
        (bif k'==k then chk (decide (0≤i)&&decide (i < xs.length)) (K' (.iC l k i.toNat 0)) else .stuck)≠ .stuck→
        ∃ q u,(bif k'==k then chk (decide (0≤i)&&decide (i < xs.length)) (K' (.iC l k i.toNat 0)) else .stuck)=K' q∧(Instr.indexAt t (.slice A n c) (.int ki i)).run E.P w= .ok u w∧RP F κ st.heap.length w q u:=by
        intro xs k' K' hn hA hne h
        obtain⟨hk,e2⟩:=bD h
        rw[e2] at h ⊢
        obtain⟨hb,e3⟩:=dQ h
        rw[e3]
        simp only[Bool.and_eq_true,decide_eq_true_eq] at hb
        cases A with
        |none=>exact absurd rfl (hne (by omega))
        |some ad=>
         obtain⟨b,rfl⟩:=hA ad rfl
         refine⟨_,_,rfl,hrun _ n c hb.1 (by omega),?_⟩
         rw[add_mid,Nat.zero_add]
         exact .iC (n:=n) (c:=c) hN hl (by omega)
       cases obj with
       |row e' k' xs=>
        simp only[ho] at h ⊢
        obtain⟨cs,h1,_⟩:=hro
        rw[hl] at h1
        rcases h1.2 with ⟨e2,e3⟩|⟨g,cap,cur,e2,_⟩
        · injection e2 with e2 e4 e5
          exact fin K (by omega) (fun ad h=>by rw[e2] at h; cases h) (by omega) h
        · injection e2 with e2 e4 e5
          exact fin K e4 (fun ad h=>by rw[e2] at h; injection h with h; exact⟨g,h.symm⟩) (by rw[e2]; simp) h
       |jT e' k' xs=>
        simp only[ho] at h ⊢
        obtain⟨r1,r2⟩:=hro
        rw[hl] at r1
        have hn:=(JB r1).1
        refine fin K hn (fun ad h=>r2 ad n c (by rw[hl,h])) (fun h0=>?_) h
        obtain⟨b,o,a1,_⟩:=Ew r1 (i:=0) (by omega)
        rw[a1]; simp
       |vec e' k' m xs=>
        simp only[ho] at h ⊢
        obtain⟨cs,h1,_⟩:=hro
        rw[hl] at h1
        have hrep:(List.replicate m T.dS).length=m:=by simp
        rcases h1.2 with ⟨e2,e3⟩|⟨g,cap,cur,e2,_⟩
        · injection e2 with e2 e4 e5
          have:=fin (xs:=List.replicate m .dS) (k':=k') K (by rw[hrep]; omega) (fun ad h=>by rw[e2] at h; cases h) (fun h0=>absurd h0 (by omega)) (by rw[hrep]; exact h)
          rw[hrep] at this
          exact this
        · injection e2 with e2 e4 e5
          have:=fin (xs:=List.replicate m .dS) (k':=k') K (by rw[hrep]; exact e4) (fun ad h=>by rw[e2] at h; injection h with h; exact⟨g,h.symm⟩) (by rw[e2]; simp) (by rw[hrep]; exact h)
          rw[hrep] at this
          exact this
       |_=>simp[ho] at h
     | @view l k0 lo hi A0 n0 c0 hN hl=>
      simp only[] at h ⊢
      cases ho:st.heap[l]? with
      |none=>simp[ho] at h
      |some obj=>
       have hro:=s.ro l obj ho
       cases obj with
       |row e' k' xs=>
        simp only[ho] at h ⊢
        obtain⟨hk,e2⟩:=bD h
        rw[e2] at h ⊢
        obtain⟨hb,e3⟩:=dQ h
        rw[e3]
        simp only[Bool.and_eq_true,beq_iff_eq,decide_eq_true_eq] at hb hk
        obtain⟨⟨rfl,rfl⟩,hx⟩:=hk
        obtain⟨A,n,c,A',⟨v1,vb⟩,v2,v3,v4,v5⟩:=hl
        injection v2 with v2 v7 v8
        subst v2; subst v7; subst v8
        obtain⟨cs,h1,_⟩:=hro
        rw[v1] at h1
        rcases h1.2 with ⟨q2,q3⟩|⟨g,cap,cur,q2,_,_,q5,_⟩
        · injection q2 with q2 q4 q5; omega
        · injection q2 with q2 q4 q5'
          rcases v5 with ⟨rfl,_⟩|⟨b,o,rfl,rfl,v6⟩
          · cases q2
          · refine⟨_,_,rfl,hrun _ _ _ hb.1 (by omega),?_⟩
            rw[add_mid,v6 (by omega),←Nat.add_mul]
            exact .iC (n:=n) (c:=c) (o:=0) hN v1 (by omega)
       |_=>simp[ho] at h
     | @full k' xs A hx=>
      simp only[] at h ⊢
      obtain⟨hk,e2⟩:=bD h
      rw[e2] at h ⊢
      have hk':k'=k:=by simpa using hk
      subst hk'
      obtain⟨y,h0,h1,h2,e3⟩:=Z4 h
      rw[e3]
      obtain⟨b,o,a1,a2,val,g1,g2,g3,g4,g5⟩:=Ew hx h1
      subst a1
      rw[aaB h2] at g1 g2 g5
      refine⟨_,_,rfl,hrun _ _ _ h0 h1,?_⟩
      rw[add_mid]
      exact .rp (p:=o+i.toNat*k') (o:=0) val a2 g1 g2 g3 g4 g5
     | @t x v hx=>
      simp only[] at h ⊢
      obtain⟨xs,rfl,e2⟩:=aa3 h
      rw[e2] at h ⊢
      obtain⟨y,h0,h1,h2,e3⟩:=Z4 h
      rw[e3]
      cases v with
      |slice A n c=>
       obtain⟨b,o,a1,a2,val,g1,g2,g3,g4,g5⟩:=Ew hx h1
       have hn:=(JB hx).1
       subst a1
       rw[aaB h2] at g1 g2 g5
       refine⟨_,_,rfl,hrun _ _ _ h0 (by omega),?_⟩
       rw[add_mid]
       exact .rp (p:=o+i.toNat*k) (o:=0) val a2 g1 g2 g3 g4 g5
      |_=>cases hx
     |_=>exact absurd rfl h
   |_=>exact absurd rfl h
theorem GI {t:TypeId} {f:Nat} {p:PV} {K:PV→ah β} {v:Value} (h:kH E t f p K≠ .stuck) (hp:RP F κ st.heap.length w p v):
 ∃ q u,kH E t f p K=K q∧(Instr.fieldAt t v f).run E.P w= .ok u w∧RP F κ st.heap.length w q u:=by
 unfold kH at h ⊢
 cases hf:yh E.P t f with
 |none=>simp[hf] at h
 |some of=>
  obtain⟨off,ft⟩:=of
  simp only[hf] at h ⊢
  have amA:∃ fs fd,E.P.underlying t=some (.struct fs)∧fs[f]? =some fd∧fd.offset=off∧fd.type=ft:=by
   unfold yh at hf
   cases hu:E.P.underlying t with
   |none=>simp[hu] at hf
   |some d=>
    cases d<;>simp[hu,Option.map_eq_some_iff] at hf
    obtain⟨fd,h1,h2,h3⟩:=hf
    exact⟨_,fd,rfl,h1,h2,h3⟩
  obtain⟨fs,fd,hu,hfd,rfl,rfl⟩:=amA
  cases hs:kJ E.P fd.type with
  |none=>simp[hs] at h
  |some sz=>
   cases sz with
   |zero=>simp[hs] at h
   |succ sz=>
    simp only[hs] at h ⊢
    have hrun:∀ b o,(Instr.fieldAt t (.pointer (some ⟨b,o,none⟩)) f).run E.P w= .ok (.pointer (some ⟨b,o+fd.offset,none⟩)) w:=by
     intro b o
     simp[Instr.fieldAt,run_underlying hu,hfd,Instr.sureAddr,fieldPlace,jM hs,add_mid]
    cases hp with
    |ptr hN hl=>exact⟨_,_,rfl,hrun _ _,.ptr hN hl⟩
    | @iC l k i o b n c hN hl hi=>
     refine⟨_,_,rfl,hrun _ _,?_⟩
     rw[Nat.add_assoc]
     exact .iC hN hl hi
    | @rp k x o b p val hF hk hs' h1 hc hr=>
     refine⟨_,_,rfl,hrun _ _,?_⟩
     rw[Nat.add_assoc]
     exact .rp val hF hk hs' h1 hc hr
    | @t x v hx=>
     simp only[] at h ⊢
     cases hn:kJ E.P t with
     |none=>simp[hn] at h
     |some n=>
      simp only[hn] at h ⊢
      obtain⟨y,rfl,e1⟩:=J4 h
      rw[e1] at h ⊢
      obtain⟨h5,e2⟩:=dQ h
      rw[e2]
      have h5':y.cells.length=n:=by simpa using h5
      cases hx with
      |ref val hF hs' h1 hc hr=>
       exact⟨_,_,rfl,hrun _ _,.rp val hF h5' (fun h=>hs' (by omega)) (fun j hj=>h1 j (by omega)) (fun j hj=>hc j (by omega)) hr⟩
    |_=>exact absurd rfl h
end
theorem GX:∀ (l1 l2:List Nat) (xs ys:List T) (b:Bool),T.eX (l1++l2) xs ys=some b→
 ∃ b1 b2,T.eX l1 (xs.take l1.length) (ys.take l1.length)=some b1∧T.eX l2 (xs.drop l1.length) (ys.drop l1.length)=some b2∧b=(b1&&b2)
 | [],l2,xs,ys,b,h=>⟨true,b,by simp[T.eX],by simpa using h,by simp⟩
 |k::l1,l2,xs,ys,b,h=>by
  have step:∀ (c:Bool) (xs ys:List T),(T.eX (l1++l2) xs ys).map (c&& ·)=some b→
   ∃ b1 b2,(T.eX l1 (xs.take l1.length) (ys.take l1.length)).map (c&& ·)=some b1∧T.eX l2 (xs.drop l1.length) (ys.drop l1.length)=some b2∧b=(b1&&b2):=by
   intro c xs ys h
   simp only[Option.map_eq_some_iff] at h
   obtain⟨b',h1,h2⟩:=h
   obtain⟨b1,b2,h3,h4,h5⟩:=GX l1 l2 xs ys b' h1
   exact⟨c&&b1,b2,by simp[h3],h4,by rw[←h2,h5,Bool.and_assoc]⟩
  rw[List.cons_append] at h
  unfold T.eX at h
  split at h
  · simp_all
  · rename_i h3
    injection h3 with h1 h1'
    subst h1 h1'
    split at h
    · rename_i hk
      obtain⟨b1,b2,h3,h4,h5⟩:=step _ _ _ h
      exact⟨b1,b2,by simpa[T.eX,hk] using h3,by simpa using h4,h5⟩
    · cases h
  · rename_i h3
    injection h3 with h1 h1'
    subst h1 h1'
    obtain⟨b1,b2,h3,h4,h5⟩:=step _ _ _ h
    exact⟨b1,b2,by simpa[T.eX] using h3,by simpa using h4,h5⟩
  · rename_i h3
    injection h3 with h1 h1'
    subst h1 h1'
    obtain⟨b1,b2,h3,h4,h5⟩:=step _ _ _ h
    exact⟨b1,b2,by simpa[T.eX] using h3,by simpa using h4,h5⟩
  · cases h
def valOf (a:Bool) (vs:List Value):Value:=if a then .agg vs.toArray else vs.getD 0 undef
section
variable {P:Program}
theorem AL {t:TypeId} {s:Nat} {a:Bool} (hs:kJ P t=some s) (ha:lM P t=some a) (h1:a=true∨s=1) (w:World) (vs:List Value) (o:Nat) (hl:o+s≤vs.length):
 (part t vs.toArray o).run P w= .ok (valOf a ((vs.drop o).take s)) w:=by
 simp only[part,Sem.run_bind,vU ha,Result.andThen_ok]
 cases a with
 |true=>
  simp only[if_true,Sem.run_bind,jM hs,Result.andThen_ok,Sem.run_pure,valOf]
  congr 2
  apply Array.ext'
  simp[Array.toList_extract,List.extract_eq_take_drop]
 |false=>
  obtain rfl:s=1:=by simpa using h1
  have ho:o < vs.length:=by omega
  simp[valOf,List.getElem?_eq_getElem ho,List.getD_eq_getElem?_getD,List.getElem?_take]
theorem VB {t:TypeId} {fs:Array Field} (h:P.underlying t=some (.struct fs)):lM P t=some true:=by simp[lM,h]
theorem Us (D:Nat):∀ (d:Nat) (t:TypeId) (l:List Nat),BR P d t=some l→∀ (a:Bool),lM P t=some a→∀ (F:Nat→Prop) (w:World) (xs ys:List T) (vs us:List Value) (b:Bool),
 vs.length=l.length→us.length=l.length→xs.length=l.length→ys.length=l.length→
 (∀ (i:Nat) (x:T) (v:Value),xs[i]? =some x→vs[i]? =some v→Rd F w x v)→(∀ (i:Nat) (x:T) (v:Value),ys[i]? =some x→us[i]? =some v→Rd F w x v)→
 T.eX l xs ys=some b→(Op.equalIn (D+d) t (valOf a vs) (valOf a us)).run P w= .ok b w
 |0,t,l,h=>by simp[BR] at h
 |d+1,t,l,h=>by
  intro a ha F w xs ys vs us b hv hu hx hy rx ry he
  unfold BR at h
  have one:∀ {k:Nat},l= [k]→a=false→∃ x y v u,xs= [x]∧ys= [y]∧vs= [v]∧us= [u]∧Rd F w x v∧Rd F w y u:=by
   intro k hl _
   subst hl
   match xs,ys,vs,us,hx,hy,hv,hu with
   | [x],[y],[v],[u],_,_,_,_=>exact⟨x,y,v,u,rfl,rfl,rfl,rfl,rx 0 x v rfl rfl,ry 0 y u rfl rfl⟩
  cases hd:P.underlying t with
  |none=>simp[hd] at h
  |some kd=>
   cases kd with
   |int k=>
    simp only[hd,Option.some.injEq] at h
    have ha':a=false:=by simpa[lM,hd] using ha.symm
    obtain⟨x,y,v,u,rfl,rfl,rfl,rfl,r1,r2⟩:=one h.symm ha'
    subst h; subst ha'
    cases x<;>cases y<;>simp[T.eX] at he
    cases r1; cases r2
    obtain⟨rfl,he⟩:=he
    simp only[valOf,Bool.false_eq_true,if_false,List.getD_cons_zero]
    rw[show D+(d+1)=(D+d)+1 from rfl,run_equalIn_int w (D+d) t _ k _ _ hd,←he]
   |bool=>
    simp only[hd,Option.some.injEq] at h
    have ha':a=false:=by simpa[lM,hd] using ha.symm
    obtain⟨x,y,v,u,rfl,rfl,rfl,rfl,r1,r2⟩:=one h.symm ha'
    subst h; subst ha'
    cases x<;>cases y<;>simp[T.eX] at he
    cases r1; cases r2
    simp only[valOf,Bool.false_eq_true,if_false,List.getD_cons_zero]
    rw[show D+(d+1)=(D+d)+1 from rfl,run_equalIn_bool' w (D+d) t _ _ hd,←he]
   |string=>
    simp only[hd,Option.some.injEq] at h
    have ha':a=false:=by simpa[lM,hd] using ha.symm
    obtain⟨x,y,v,u,rfl,rfl,rfl,rfl,r1,r2⟩:=one h.symm ha'
    subst h; subst ha'
    cases x<;>cases y<;>simp[T.eX] at he
    cases r1; cases r2
    simp only[valOf,Bool.false_eq_true,if_false,List.getD_cons_zero]
    rw[show D+(d+1)=(D+d)+1 from rfl,run_equalIn_string w (D+d) t _ _ hd,←he,beq_toListBytes]
   |struct fs=>
    simp only[hd] at h
    have ha':a=true:=by simpa[lM,hd] using ha.symm
    subst ha'
    cases hst:P.stoodInHeld t with
    |true=>simp[hst] at h
    |false=>
     simp only[hst,cond_false] at h
     have hfs:P.fieldsOf t=fs:=by simp[Program.fieldsOf,hd]
     have hrun:=run_equalIn_struct w (D+d) t vs.toArray us.toArray (by rw[hfs]; exact hd) hst
     rw[hfs] at hrun
     rw[show D+(d+1)=(D+d)+1 from rfl]
     show(Op.equalIn (D+d+1) t (.agg vs.toArray) (.agg us.toArray)).run P w=_
     rw[hrun]
     clear hrun hfs hd
     have key:∀ (fl:List Field) (off:Nat) (l:List Nat) (b:Bool),Iu P (BR P d) fl off=some l→vs.length=off+l.length→us.length=off+l.length→xs.length=off+l.length→ys.length=off+l.length→
      T.eX l (xs.drop off) (ys.drop off)=some b→(Op.eqFields (D+d) vs.toArray us.toArray fl).run P w= .ok b w:=by
      intro fl
      induction fl with
      |nil=>
       intro off l b h1 _ _ _ _ h2
       simp[Iu] at h1
       subst h1
       have:b=true:=by
        unfold T.eX at h2
        split at h2<;>simp_all
       subst this
       simp[Op.eqFields]
      |cons f fl ih=>
       intro off l b h1 hv hu hx hy h2
       unfold Iu at h1
       cases hg:(f.name== "_" || !(f.offset==off)) with
       |true=>simp[hg] at h1
       |false=>
        simp only[hg,cond_false] at h1
        simp only[Bool.or_eq_false_iff,Bool.not_eq_false',beq_iff_eq,beq_eq_false_iff_ne] at hg
        cases e1:BR P d f.type with
        |none=>simp[e1] at h1
        |some l1=>
         cases e2:kJ P f.type with
         |none=>simp[e1,e2] at h1
         |some s=>
          cases e3:lM P f.type with
          |none=>simp[e1,e2,e3] at h1
          |some af=>
           simp only[e1,e2,e3] at h1
           cases hc:(l1.length==s&&(af||s==1)) with
           |false=>simp[hc] at h1
           |true=>
            simp only[hc,cond_true,Option.map_eq_some_iff] at h1
            obtain⟨l2,h3,rfl⟩:=h1
            simp only[Bool.and_eq_true,Bool.or_eq_true,beq_iff_eq] at hc
            obtain⟨rfl,hc2⟩:=hc
            rw[List.length_append] at hv hu hx hy
            obtain⟨b1,b2,h4,h5,rfl⟩:=GX l1 l2 _ _ _ h2
            rw[List.drop_drop] at h5
            rw[List.drop_drop] at h5
            have r1:=Us D d f.type l1 e1 af e3 F w ((xs.drop off).take l1.length) ((ys.drop off).take l1.length) ((vs.drop off).take l1.length) ((us.drop off).take l1.length) b1
             (by simp; omega) (by simp; omega) (by simp; omega) (by simp; omega)
             (fun i x v g1 g2=>by
              rw[List.getElem?_take] at g1 g2
              split at g1
              · rename_i hi
                rw[if_pos hi] at g2
                rw[List.getElem?_drop] at g1 g2
                exact rx _ _ _ g1 g2
              · cases g1)
             (fun i x v g1 g2=>by
              rw[List.getElem?_take] at g1 g2
              split at g1
              · rename_i hi
                rw[if_pos hi] at g2
                rw[List.getElem?_drop] at g1 g2
                exact ry _ _ _ g1 g2
              · cases g1) h4
            have r2:=ih (off+l1.length) l2 b2 h3 (by omega) (by omega) (by omega) (by omega) h5
            simp only[Op.eqFields,ne_eq,hg.1,not_false_eq_true,if_true,Sem.run_bind]
            rw[hg.2,AL e2 e3 hc2 w vs off (by omega)]
            simp only[Result.andThen_ok]
            rw[AL e2 e3 hc2 w us off (by omega)]
            simp only[Result.andThen_ok,r1]
            cases b1
            · simp
            · simpa using r2
     exact key fs.toList 0 l b h (by omega) (by omega) (by omega) (by omega) (by simpa using he)
   |_=>simp[hd] at h
end
end
section
open Go.RowKit
section
variable {β:Type} {E:Env} {st:St} {F:Nat→Prop} {κ:Nat→Value} {w:World}
theorem zG (op:BinOp) (t:TypeId) (x y:Operand) (k k':IntKind) (a b:Int):(eqGuard op t x y (.int k a) (.int k' b)).run E.P w= .ok () w:=by
 cases op<;>simp[eqGuard]
theorem QW {op:BinOp} {k:IntKind} {a b:Int} {K:T→ah β} {t:TypeId} (hop:op≠ .shl∧op≠ .shr) (h:wF op k a b K≠ .stuck) (ha:kindOk k a=true) (hb:kindOk k b=true):
 ∃ q u,wF op k a b K=K q∧(binOp op t (.int k a) (.int k b)).run E.P w= .ok u w∧Rd F w q u:=by
 cases op with
 |quo=>
  simp only[wF] at h ⊢
  obtain⟨h1,h2⟩:=dQ h
  rw[h2]
  have:b≠0:=by simpa using h1
  exact⟨_,_,rfl,by simp[binOp,Op.intDiv,this],.int (Az _ _)⟩
 |rem=>
  simp only[wF] at h ⊢
  obtain⟨h1,h2⟩:=dQ h
  rw[h2]
  have:b≠0:=by simpa using h1
  exact⟨_,_,rfl,by simp[binOp,Op.intDiv,this],.int (ajw ha)⟩
 |shl=>exact absurd rfl hop.1
 |shr=>exact absurd rfl hop.2
 |add|sub|mul=>exact⟨_,_,rfl,by simp[binOp,Op.intArith],.int (Az _ _)⟩
 |and|or|xor|andNot=>exact⟨_,_,rfl,by simp[binOp,Op.intBits],.int (Az _ _)⟩
 |eql|neq|lss|leq|gtr|geq=>exact⟨_,_,rfl,by simp[binOp,Op.intCmp],.bool⟩
theorem RQ {op:BinOp} {k k':IntKind} {a b:Int} {K:T→ah β} {t:TypeId} (h:wR op k a b K≠ .stuck) (ha:kindOk k a=true):
 ∃ q u,wR op k a b K=K q∧(binOp op t (.int k a) (.int k' b)).run E.P w= .ok u w∧Rd F w q u:=by
 cases op with
 |shl=>
  simp only[wR] at h ⊢
  obtain⟨h1,h2⟩:=dQ h
  rw[h2]
  have:¬ b < 0:=by have:=of_decide_eq_true h1; omega
  exact⟨_,_,rfl,by simp[binOp,Op.shift,this],.int (Az _ _)⟩
 |shr=>
  simp only[wR] at h ⊢
  obtain⟨h1,h2⟩:=dQ h
  rw[h2]
  have:¬ b < 0:=by have:=of_decide_eq_true h1; omega
  exact⟨_,_,rfl,by simp[binOp,Op.shift,this],.int (aiE _ ha)⟩
 |_=>exact absurd rfl h
def akG (k:Nat) (v:Value) (b:Bool):Prop:=match k with
 |0=>∃ a,v= .pointer a∧b=a.isNone
 |1=>(v= .nilFunc∧b=true)∨(∃ f fs cs,v= .func f fs cs∧b=false)
 |2=>(v= .nilIface∧b=true)∨(∃ t x,v= .iface t x∧b=false)
 |3=>v= .slice none 0 0∧b=true
 |_=>False
theorem Lh {k:Nat} {p:PV} {K:Bool→ah β} {v:Value} {N:Nat} (h:Ci k p K≠ .stuck) (hp:RP F κ N w p v):∃ b,Ci k p K=K b∧akG k v b:=by
 cases hp with
 |ptr=>
  simp only[Ci] at h ⊢
  obtain⟨h1,h2⟩:=bD h
  obtain rfl:k=0:=by simpa using h1
  exact⟨false,h2,_,rfl,rfl⟩
 |iC=>
  simp only[Ci] at h ⊢
  obtain⟨h1,h2⟩:=bD h
  obtain rfl:k=0:=by simpa using h1
  exact⟨false,h2,_,rfl,rfl⟩
 |rp=>
  simp only[Ci] at h ⊢
  obtain⟨h1,h2⟩:=bD h
  obtain rfl:k=0:=by simpa using h1
  exact⟨false,h2,_,rfl,rfl⟩
 |fn=>
  simp only[Ci] at h ⊢
  obtain⟨h1,h2⟩:=bD h
  obtain rfl:k=1:=by simpa using h1
  exact⟨false,h2,.inr ⟨_,_,_,rfl,rfl⟩⟩
 |nil=>
  simp only[Ci] at h ⊢
  obtain⟨h1,h2⟩:=bD h
  obtain rfl:k=3:=by simpa using h1
  exact⟨true,h2,rfl,rfl⟩
 |t hx=>
  simp only[Ci] at h ⊢
  match k with
  |0=>
   cases hx with
   |dS=>exact⟨true,rfl,_,rfl,rfl⟩
   |ref=>exact⟨false,rfl,_,rfl,rfl⟩
   |_=>exact absurd rfl h
  |1=>
   cases hx with
   |mW=>exact⟨true,rfl,.inl ⟨rfl,rfl⟩⟩
   |fn=>exact⟨false,rfl,.inr ⟨_,_,_,rfl,rfl⟩⟩
   |_=>exact absurd rfl h
  |2=>
   cases hx with
   |qU=>exact⟨true,rfl,.inl ⟨rfl,rfl⟩⟩
   |iface=>exact⟨false,rfl,.inr ⟨_,_,rfl,rfl⟩⟩
   |_=>exact absurd rfl h
  |k+3=>exact absurd rfl h
 |_=>exact absurd rfl h
theorem JA (n:Nat) {t:TypeId} {k:Nat} (hk:DX E.P t=some k) {c v:Value} {b:Bool} (hv:akG k v b) (hc:(k=0∧c= .pointer none)∨(k=1∧c= .nilFunc)∨(k=2∧c= .nilIface)∨(k=3∧c= .slice none 0 0)):
 (Op.equalIn (n+1) t v c).run E.P w= .ok b w∧(Op.equalIn (n+1) t c v).run E.P w= .ok b w:=by
 unfold DX at hk
 cases hd:E.P.underlying t with
 |none=>simp[hd] at hk
 |some d=>
  cases d<;>simp[hd] at hk<;>subst hk<;>simp at hc<;>subst hc
  · obtain⟨a,rfl,rfl⟩:=hv
    cases a<;>simp[Op.equalIn,run_underlying hd]
  · obtain⟨rfl,rfl⟩:=hv
    simp[Op.equalIn,run_underlying hd]
  · rcases hv with ⟨rfl,rfl⟩|⟨f,fs,cs,rfl,rfl⟩<;>simp[Op.equalIn,run_underlying hd]
  · rcases hv with ⟨rfl,rfl⟩|⟨f,fs,rfl,rfl⟩<;>simp[Op.equalIn,run_underlying hd]
theorem CX {t:TypeId} {k:Nat} (hk:DX E.P t=some k) {c v:Value} {b:Bool} (hv:akG k v b) (hc:(k=0∧c= .pointer none)∨(k=1∧c= .nilFunc)∨(k=2∧c= .nilIface)∨(k=3∧c= .slice none 0 0)):
 (Op.equal t v c).run E.P w= .ok b w∧(Op.equal t c v).run E.P w= .ok b w:=by
 unfold Op.equal Op.maxDepth
 exact JA 9999 hk hv hc
theorem Hf {k:Nat} {o:Operand} (h:Jj k o=true):∃ c,o= .const c∧((k=0∧c= .pointer none)∨(k=1∧c= .nilFunc)∨(k=2∧c= .nilIface)∨(k=3∧c= .slice none 0 0)):=by
 unfold Jj at h
 split at h<;>simp at h<;>subst h<;>simp
theorem afl:∀ (l:List Nat) (xs ys:List T) (b:Bool),T.eX l xs ys=some b→xs.length=l.length∧ys.length=l.length:=by
 intro l
 induction l with
 |nil=>intro xs ys b h; unfold T.eX at h; split at h<;>simp_all
 |cons k l ih=>
  intro xs ys b h
  unfold T.eX at h
  split at h
  · simp_all
  · rename_i h3
    injection h3 with h1 h1'
    subst h1 h1'
    split at h
    · simp only[Option.map_eq_some_iff] at h
      obtain⟨b',h,_⟩:=h
      have:=ih _ _ _ h
      simp[this.1,this.2]
    · cases h
  · rename_i h3
    injection h3 with h1 h1'
    subst h1 h1'
    simp only[Option.map_eq_some_iff] at h
    obtain⟨b',h,_⟩:=h
    have:=ih _ _ _ h
    simp[this.1,this.2]
  · rename_i h3
    injection h3 with h1 h1'
    subst h1 h1'
    simp only[Option.map_eq_some_iff] at h
    obtain⟨b',h,_⟩:=h
    have:=ih _ _ _ h
    simp[this.1,this.2]
  · cases h
theorem Bv {t:TypeId} {l:List Nat} {s:Nat} {a:Bool} (e1:BR E.P 20 t=some l) (e2:lM E.P t=some a) (hls:l.length=s) (hc:(a=true∧2≤s)∨(a=false∧s=1)) {x y:T} {vx vy:Value} {b:Bool}
 (r1:Rd F w x vx) (r2:Rd F w y vy) (he:T.eX l (x.flat l) (y.flat l)=some b):
 ∃ vs us,vs.length=l.length∧us.length=l.length∧vx=valOf a vs∧vy=valOf a us∧(Op.equal t (valOf a vs) (valOf a us)).run E.P w= .ok b w:=by
 obtain⟨hx1,hy1⟩:=afl _ _ _ _ he
 have hcells:∀ {x:T} {v:Value},Rd F w x v→(x.flat l).length=l.length→∃ vs,v=valOf a vs∧vs.length=l.length∧∀ (i:Nat) (y:T) (u:Value),(x.flat l)[i]? =some y→vs[i]? =some u→Rd F w y u:=by
  intro x v r hl
  rcases hc with ⟨rfl,h2⟩|⟨rfl,rfl⟩
  · have hf:x.flat l=x.cells:=by
     unfold T.flat
     split
     · simp at hls; omega
     · rfl
    rw[hf] at hl ⊢
    obtain⟨cs,rfl⟩:=Kv (x:=x) (by omega)
    cases r with
    | @agg _ vs hl' h1 hr=>exact⟨vs,rfl,by simp[T.cells] at hl; omega,hr⟩
  · obtain⟨k,rfl⟩:=List.length_eq_one_iff.1 hls
    refine⟨[v],rfl,rfl,fun i y u g1 g2=>?_⟩
    cases i with
    |zero=>simp[T.flat] at g1 g2; subst g1 g2; exact r
    |succ i=>simp at g2
 obtain⟨vs,rfl,hv1,rv⟩:=hcells r1 hx1
 obtain⟨us,rfl,hu1,ru⟩:=hcells r2 hy1
 have hrun:=Us 9980 20 t l e1 a e2 F w _ _ vs us b hv1 hu1 hx1 hy1 rv ru he
 refine⟨vs,us,hv1,hu1,rfl,rfl,?_⟩
 unfold Op.equal Op.maxDepth
 exact hrun
set_option maxHeartbeats 1000000 in
theorem YT {t:TypeId} {l:List Nat} {s:Nat} {a:Bool} (e1:BR E.P 20 t=some l) (e2:lM E.P t=some a) (hls:l.length=s) (hc:(a=true∧2≤s)∨(a=false∧s=1)) (hg:E.P.eqGuardType E.P.depth t=false) (hkind:qC E.P t=none)
 {x y:T} {vx vy:Value} {b:Bool} (r1:Rd F w x vx) (r2:Rd F w y vy) (he:T.eX l (x.flat l) (y.flat l)=some b) (ox oy:Operand):
 (do eqGuard .eql t ox oy vx vy; binOp .eql t vx vy:Sem Value).run E.P w= .ok (.bool b) w∧(do eqGuard .neq t ox oy vx vy; binOp .neq t vx vy:Sem Value).run E.P w= .ok (.bool !b) w:=by
 obtain⟨vs,us,hv1,hu1,rfl,rfl,hrun⟩:=Bv e1 e2 hls hc r1 r2 he
 rcases hc with ⟨rfl,h2⟩|⟨rfl,rfl⟩
 · have hgd:=fun op=>run_eqGuard_agg (P:=E.P) w op t ox oy vs.toArray us.toArray hg
   have hrun':(Op.equal t (.agg vs.toArray) (.agg us.toArray)).run E.P w= .ok b w:=hrun
   constructor
   · show(do eqGuard .eql t ox oy (.agg vs.toArray) (.agg us.toArray); binOp .eql t (.agg vs.toArray) (.agg us.toArray):Sem Value).run E.P w=_
     simp only[Sem.run_bind,hgd,Result.andThen_ok,binOp,hrun',Sem.run_pure]
   · show(do eqGuard .neq t ox oy (.agg vs.toArray) (.agg us.toArray); binOp .neq t (.agg vs.toArray) (.agg us.toArray):Sem Value).run E.P w=_
     simp only[Sem.run_bind,hgd,Result.andThen_ok,binOp,hrun',Sem.run_pure]
 · obtain⟨k,rfl⟩:=List.length_eq_one_iff.1 hls
   obtain⟨v,rfl⟩:=List.length_eq_one_iff.1 hv1
   obtain⟨u,rfl⟩:=List.length_eq_one_iff.1 hu1
   have q1:Rd F w x v:=r1
   have q2:Rd F w y u:=r2
   simp only[T.flat] at he
   have hrun':(Op.equal t v u).run E.P w= .ok b w:=hrun
   show(do eqGuard .eql t ox oy v u; binOp .eql t v u:Sem Value).run E.P w=_∧(do eqGuard .neq t ox oy v u; binOp .neq t v u:Sem Value).run E.P w=_
   match k,he with
   |0,he=>
    exfalso
    unfold BR at e1
    cases hd:E.P.underlying t with
    |none=>simp[hd] at e1
    |some kd=>
     cases kd with
     |int k=>simp[qC,hd] at hkind
     |bool=>simp[hd] at e1
     |string=>simp[hd] at e1
     |struct fs=>simp[lM,hd] at e2
     |_=>simp[hd] at e1
   |1,he=>
    cases q1<;>cases q2<;>simp[T.eX] at he
    constructor
    · simp[eqGuard,binOp,hrun']
    · simp[eqGuard,binOp,hrun']
   |2,he=>
    cases q1<;>cases q2<;>simp[T.eX] at he
    subst he
    constructor
    · simp[eqGuard,binOp,Op.stringOp,beq_toListBytes]
    · simp[eqGuard,binOp,Op.stringOp,beq_toListBytes]
   |k+3,he=>simp[T.eX] at he
set_option maxHeartbeats 1000000 in
def Is (o:Operand) (v:Value):Prop:=∀ c,o= .const c→v=c
theorem OI {t:TypeId} {x y:Operand} {px py:PV} {K:Bool→ah β} {vx vy:Value} {N:Nat} (h:eqK E t x y px py K≠ .stuck) (hx:RP F κ N w px vx) (hy:RP F κ N w py vy) (ix:Is x vx) (iy:Is y vy) (hkind:qC E.P t=none):
 ∃ b,eqK E t x y px py K=K b∧(do eqGuard .eql t x y vx vy; binOp .eql t vx vy:Sem Value).run E.P w= .ok (.bool b) w∧(do eqGuard .neq t x y vx vy; binOp .neq t vx vy:Sem Value).run E.P w= .ok (.bool !b) w:=by
 unfold eqK at h ⊢
 cases hk:DX E.P t with
 |some k=>
  simp only[hk] at h ⊢
  have fin:∀ {b:Bool},(Op.equal t vx vy).run E.P w= .ok b w→(∀ op,(eqGuard op t x y vx vy).run E.P w= .ok () w)→(∀ k a k' a',¬ (vx= .int k a∧vy= .int k' a'))→(∀ k a k' a',¬ (vx= .float k a∧vy= .float k' a'))→
   (∀ k a a2 k' a' a2',¬ (vx= .complex k a a2∧vy= .complex k' a' a2'))→(∀ a b,¬ (vx= .string a∧vy= .string b))→
   (do eqGuard .eql t x y vx vy; binOp .eql t vx vy:Sem Value).run E.P w= .ok (.bool b) w∧(do eqGuard .neq t x y vx vy; binOp .neq t vx vy:Sem Value).run E.P w= .ok (.bool !b) w:=by
   intro b he hg n1 n2 n3 n4
   have e1:binOp .eql t vx vy=(do pure (.bool (←Op.equal t vx vy))):=by
    cases vx<;>cases vy<;>first|rfl|exact absurd ⟨rfl,rfl⟩ (n1 _ _ _ _)|exact absurd ⟨rfl,rfl⟩ (n2 _ _ _ _)|exact absurd ⟨rfl,rfl⟩ (n3 _ _ _ _ _ _)|exact absurd ⟨rfl,rfl⟩ (n4 _ _)
   have e2:binOp .neq t vx vy=(do pure (.bool (!(←Op.equal t vx vy)))):=by
    cases vx<;>cases vy<;>first|rfl|exact absurd ⟨rfl,rfl⟩ (n1 _ _ _ _)|exact absurd ⟨rfl,rfl⟩ (n2 _ _ _ _)|exact absurd ⟨rfl,rfl⟩ (n3 _ _ _ _ _ _)|exact absurd ⟨rfl,rfl⟩ (n4 _ _)
   rw[e1,e2]
   simp[hg,he]
  have guardOf:∀ {c:Value},((k=0∧c= .pointer none)∨(k=1∧c= .nilFunc)∨(k=2∧c= .nilIface)∨(k=3∧c= .slice none 0 0))→(x= .const c∧vx=c∨y= .const c∧vy=c)→∀ op,(eqGuard op t x y vx vy).run E.P w= .ok () w:=by
   intro c hc hxy op
   have hn:∀ cs,c≠ .agg cs:=by rintro cs rfl; simp at hc
   unfold eqGuard
   rcases hxy with ⟨rfl,rfl⟩|⟨rfl,rfl⟩
   · cases op<;>(cases vx<;>cases vy<;>first|(simp; done)|exact absurd rfl (hn _))
   · cases op<;>(cases vx<;>cases vy<;>first|(simp; done)|exact absurd rfl (hn _))
  cases hc1:Jj k y with
  |true=>
   simp only[hc1,cond_true] at h ⊢
   obtain⟨b,e1,hv⟩:=Lh h hx
   obtain⟨c,rfl,hc⟩:=Hf hc1
   obtain rfl:=iy c rfl
   refine⟨b,e1,fin (CX hk hv hc).1 (guardOf hc (.inr ⟨rfl,rfl⟩)) ?_ ?_ ?_ ?_⟩<;>(intros; rintro⟨-,rfl⟩; simp at hc)
  |false=>
   simp only[hc1,cond_false] at h ⊢
   obtain⟨hc2,e0⟩:=bD h
   rw[e0] at h ⊢
   obtain⟨b,e1,hv⟩:=Lh h hy
   obtain⟨c,rfl,hc⟩:=Hf hc2
   obtain rfl:=ix c rfl
   refine⟨b,e1,fin (CX hk hv hc).2 (guardOf hc (.inl ⟨rfl,rfl⟩)) ?_ ?_ ?_ ?_⟩<;>(intros; rintro⟨rfl,-⟩; simp at hc)
 |none=>
  simp only[hk] at h ⊢
  obtain⟨l,hl,e0⟩:=aB h
  rw[e0] at h ⊢
  unfold X8 at hl
  cases hg:E.P.eqGuardType E.P.depth t with
  |true=>simp[hg] at hl
  |false=>
   simp only[hg,cond_false] at hl
   cases e1:BR E.P 20 t with
   |none=>simp[e1] at hl
   |some l'=>
    cases e2:lM E.P t with
    |none=>simp[e1,e2] at hl
    |some a=>
     cases e3:kJ E.P t with
     |none=>simp[e1,e2,e3] at hl
     |some s=>
      simp only[e1,e2,e3] at hl
      cases hc:(l'.length==s&&((a&&decide (2≤s))||(!a&&s==1))) with
      |false=>simp[hc] at hl
      |true=>
       simp only[hc,cond_true,Option.some.injEq] at hl
       subst hl
       cases hx with
       | @t a1 _ r1=>
        cases hy with
        | @t a2 _ r2=>
         simp only[eqT] at h ⊢
         cases he:T.eX l' (a1.flat l') (a2.flat l') with
         |none=>simp[he] at h
         |some b=>
          simp only[he] at h ⊢
          simp only[Bool.and_eq_true,beq_iff_eq] at hc
          obtain⟨hls,hc⟩:=hc
          exact⟨b,rfl,YT e1 e2 hls (by cases a<;>simp_all) hg hkind r1 r2 he x y⟩
        |_=>exact absurd rfl h
       |_=>exact absurd rfl h
end
end
end Go.aT
