/- The texts of a proof, one behind the other: an interpreter and its soundness, what the functions of the program answer, and plain laws on that. -/
import Derived.Test.YtckfafoabnfbpaaK8
import Derived.ProofKit
import Derived.Test.YtckfafoabnfbpaaProg
import Derived.Shelf.Spec.SlicesInsert
import Derived.WalkLawsBesides
import Derived.Test.YtckfafoabnfbpaaRows
import Derived.Test.YtckfafoabnfbpaaK9
set_option linter.unusedVariables false
set_option linter.unusedSimpArgs false
set_option linter.unnecessarySimpa false
set_option linter.unusedSectionVars false
set_option maxRecDepth 100000
namespace Go.aO
section
open Go.RowKit
def PS (k:Nat) (cs:List T):T:=if k=1 then cs.headD .dh else .agg cs
def G7 (P:Program):List Field→Nat→Bool
 | [],_=>true
 |f::r,o=>f.offset==o&&G7 P r (o+P.cellsOf f.type)
def qc (P:Program):Nat→TypeId→Bool
 |0,_=>false
 |n+1,t=>match P.underlying t with
  |some (.int _)=>P.cellsOf t==1
  |some .bool=>P.cellsOf t==1
  |some (.slice e)=>P.cellsOf t==1&&decide (1≤P.cellsOf e)&&decide (1≤P.bytesOf e)&&qc P n e
  |some (.struct fs)=>G7 P fs.toList 0&&((fs.toList.map fun f=>P.cellsOf f.type).sum==P.cellsOf t)&&decide (2≤P.cellsOf t)&&fs.toList.all fun f=>qc P n f.type
  |_=>false
def qK (P:Program):Nat→TypeId→List T→Prop
 |0,_,_=>False
 |n+1,t,xs=>match P.underlying t with
  |some (.int k)=>∃ i,xs= [.int k i]∧kindOk k i=true
  |some .bool=>∃ b,xs= [.bool b]
  |some (.slice e)=>∃ ys,xs= [.sl (P.cellsOf e) ys]∧ys.length*P.bytesOf e≤reachBytes∧∀ y∈ys,∃ cs,qK P n e cs∧y=PS (P.cellsOf e) cs
  |some (.struct fs)=>∃ parts:List (List T),parts.length=fs.toList.length∧(∀ (i:Nat) (f:Field) (p:List T),fs.toList[i]? =some f→parts[i]? =some p→qK P n f.type p)∧xs=parts.flatten
  |_=>False
def yI (F:Nat→Prop) (w:World) (xs:List T) (cs:List Value):Prop:=xs.length=cs.length∧(∀ c∈cs,c.oneCell'=true)∧∀ (i:Nat) (x:T) (c:Value),xs[i]? =some x→cs[i]? =some c→Rd F w x c
theorem yI.one {F:Nat→Prop} {w:World} {x:T} {c:Value} (h:Rd F w x c) (h1:c.oneCell'=true):yI F w [x] [c]:=by
 refine⟨rfl,by simpa using h1,fun i y d h2 h3=>?_⟩
 cases i with
 |zero=>simp at h2 h3; subst h2; subst h3; exact h
 |succ i=>simp at h2
theorem yI.append {F:Nat→Prop} {w:World} {xs ys:List T} {cs ds:List Value} (h:yI F w xs cs) (h':yI F w ys ds):yI F w (xs++ys) (cs++ds):=by
 obtain⟨a1,a2,a3⟩:=h
 obtain⟨b1,b2,b3⟩:=h'
 refine⟨by simp[a1,b1],fun c hc=>(List.mem_append.1 hc).elim (a2 c) (b2 c),fun i x c h1 h2=>?_⟩
 rcases Nat.lt_or_ge i xs.length with h3|h3
 · rw[List.getElem?_append_left h3] at h1
   rw[List.getElem?_append_left (by omega)] at h2
   exact a3 i x c h1 h2
 · rw[List.getElem?_append_right h3] at h1
   rw[List.getElem?_append_right (by omega),←a1] at h2
   exact b3 _ x c h1 h2
theorem yI.nil {F:Nat→Prop} {w:World}:yI F w [] []:=⟨rfl,by simp,by simp⟩
theorem mapM_some {α β:Type} {f:α→Option β}:∀ {l:List α} {r:List β},l.mapM f=some r→r.length=l.length∧∀ (i:Nat) (x:α),l[i]? =some x→∃ y,f x=some y∧r[i]? =some y
 | [],r,h=>by simp at h; subst h; simp
 |a::l,r,h=>by
  simp only[List.mapM_cons,Option.pure_def,Option.bind_eq_bind,Option.bind_eq_some_iff,Option.some.injEq] at h
  obtain⟨b,h1,bs,h2,rfl⟩:=h
  obtain⟨h3,h4⟩:=mapM_some h2
  refine⟨by simp[h3],fun i x hx=>?_⟩
  cases i with
  |zero=>simp at hx; subst hx; exact⟨b,h1,rfl⟩
  |succ i=>simpa using h4 i x (by simpa using hx)
theorem weightsAll_mem {H:Type} {P:Program} {e:TypeId}:∀ {l:List (DataW H)} {d:DataW H} {n:Nat},d∈l→n∈d.weights P e→n∈DataW.weightsAll P e l
 |a::l,d,n,h,hn=>by
  simp only[DataW.weightsAll,List.mem_append]
  rcases List.mem_cons.1 h with rfl|h
  · exact .inl hn
  · exact .inr (weightsAll_mem h hn)
theorem uU {H:Type} {P:Program}:∀ {ts:List TypeId} {l:List (DataW H)} {i:Nat} {t:TypeId} {d:DataW H} {n:Nat},ts[i]? =some t→l[i]? =some d→n∈d.weights P t→n∈DataW.weightsEach P ts l
 | [],l,i,t,d,n,h,h2,hn=>by simp at h
 |s::ts,[],i,t,d,n,h,h2,hn=>by simp at h2
 |s::ts,a::l,i,t,d,n,h,h2,hn=>by
  simp only[DataW.weightsEach,List.mem_append]
  cases i with
  |zero=>simp at h h2; subst h; subst h2; exact .inl hn
  |succ i=>exact .inr (uU (by simpa using h) (by simpa using h2) hn)
theorem xP {P:Program} {F:Nat→Prop} {w:World} {D:Nat}:∀ {fs:List Field} {o:Nat} {cs:List Value},G7 P fs o=true→cs.length=o+(fs.map fun f=>P.cellsOf f.type).sum→
 (∀ f∈fs,∃ xs,qK P D f.type xs∧yI F w xs ((cs.drop f.offset).take (P.cellsOf f.type)))→
 ∃ parts:List (List T),parts.length=fs.length∧(∀ (i:Nat) (f:Field) (p:List T),fs[i]? =some f→parts[i]? =some p→qK P D f.type p)∧yI F w parts.flatten (cs.drop o)
 | [],o,cs,hc,hl,h=>⟨[],rfl,by simp,by
  rw[List.drop_of_length_le (by simp at hl; omega)]
  exact yI.nil⟩
 |f::fs,o,cs,hc,hl,h=>by
  simp only[G7,Bool.and_eq_true,beq_iff_eq] at hc
  obtain⟨c1,c2⟩:=hc
  obtain⟨xs,h1,h2⟩:=h f List.mem_cons_self
  simp only[List.map_cons,List.sum_cons] at hl
  obtain⟨parts,p1,p2,p3⟩:=xP (cs:=cs) c2 (by omega) (fun g hg=>h g (List.mem_cons_of_mem _ hg))
  refine⟨xs::parts,by simp[p1],fun i g p hg hp=>?_,?_⟩
  · cases i with
    |zero=>simp at hg hp; subst hg; subst hp; exact h1
    |succ i=>exact p2 i g p (by simpa using hg) (by simpa using hp)
  · rw[c1] at h2
    have:=h2.append p3
    rw[List.flatten_cons]
    rw[show(cs.drop o).take (P.cellsOf f.type)++cs.drop (o+P.cellsOf f.type)=cs.drop o by
     rw[←List.drop_drop]; exact List.take_append_drop _ _] at this
    exact this
theorem Qm {P:Program}:∀ {D:Nat} {t:TypeId} {xs:List T},qc P D t=true→qK P D t xs→xs.length=P.cellsOf t∧(P.cellsOf t=1→∀ x∈xs,x.isAgg=false)
 |0,t,xs,h,_=>by simp[qc] at h
 |D+1,t,xs,h,hs=>by
  unfold qc at h
  unfold qK at hs
  cases hu:P.underlying t with
  |none=>simp[hu] at h
  |some d=>
   cases d with
   |int k=>
    simp only[hu,beq_iff_eq] at h hs
    obtain⟨i,rfl,_⟩:=hs
    exact⟨by simp[h],fun _ x hx=>by simp at hx; subst hx; rfl⟩
   |bool=>
    simp only[hu,beq_iff_eq] at h hs
    obtain⟨b,rfl⟩:=hs
    exact⟨by simp[h],fun _ x hx=>by simp at hx; subst hx; rfl⟩
   |slice e=>
    simp only[hu,Bool.and_eq_true,beq_iff_eq] at h hs
    obtain⟨ys,rfl,_⟩:=hs
    exact⟨by simp[h.1.1.1],fun _ x hx=>by simp at hx; subst hx; rfl⟩
   |struct fs=>
    simp only[hu,Bool.and_eq_true,beq_iff_eq,decide_eq_true_eq,List.all_eq_true] at h hs
    obtain⟨⟨⟨c1,c2⟩,c3⟩,c4⟩:=h
    obtain⟨parts,p1,p2,rfl⟩:=hs
    refine⟨?_,fun h1=>by omega⟩
    rw[←c2]
    have:∀ (fs:List Field) (parts:List (List T)),parts.length=fs.length→(∀ f∈fs,qc P D f.type=true)→(∀ (i:Nat) (f:Field) (p:List T),fs[i]? =some f→parts[i]? =some p→qK P D f.type p)→parts.flatten.length=(fs.map fun f=>P.cellsOf f.type).sum:=by
     intro fs
     induction fs with
     |nil=>intro parts h1 _ _; have:=List.eq_nil_of_length_eq_zero h1; subst this; rfl
     |cons f fs ih=>
      intro parts h1 h2 h3
      cases parts with
      |nil=>simp at h1
      |cons p parts=>
       simp only[List.flatten_cons,List.length_append,List.map_cons,List.sum_cons]
       rw[ih parts (by simpa using h1) (fun g hg=>h2 g (List.mem_cons_of_mem _ hg)) (fun i g q a b=>h3 (i+1) g q (by simpa using a) (by simpa using b)),(Qm (h2 f List.mem_cons_self) (h3 0 f p rfl rfl)).1]
    exact this _ _ p1 c4 p2
   |_=>simp[hu] at h
theorem ahL {α:Type} [Inhabited α] {Q:Nat→α→Prop} {n:Nat} (h:∀ i,i < n→∃ x,Q i x):∃ g:Nat→α,∀ i,i < n→Q i (g i):=by
 classical
 exact⟨fun i=>if h':i < n then(h i h').choose else default,fun i hi=>by simp only[dif_pos hi]; exact(h i hi).choose_spec⟩
theorem RU {w:World} {a:Addr} {v:Value} (h:w.cell? ((a.add 0).add 0)=some v):∃ b o,a=⟨b,o,none⟩:=by
 obtain⟨b,o,s⟩:=a
 cases s with
 |none=>exact⟨b,o,rfl⟩
 |some s=>
  exfalso
  unfold World.cell? at h
  split at h
  · simp[Addr.add] at h
  · cases h
section
variable {H:Type} {enc:TypeId×Value→H} {P:Program} {w:World} {sp:Nat→Bool}
theorem Ef:∀ (D:Nat) (t:TypeId),qc P D t=true→∀ (fuel:Nat) (cs:List Value) (d:DataW H) (ps:List MemPlace),DataW.trod enc P w 0 sp true fuel t cs=some (d,ps)→(∀ n∈d.weights P t,n≤reachBytes)→
 ∃ xs,qK P D t xs∧yI (fun b=>b < w.heap.size) w xs cs
 |0,t,hst,_,_,_,_,_,_=>by simp[qc] at hst
 |D+1,t,hst,0,cs,d,ps,h,_=>by simp[DataW.trod] at h
 |D+1,t,hst,fuel+1,cs,d,ps,h,hw=>by
  have akO:=hst
  unfold qc at hst
  unfold qK
  unfold DataW.trod at h
  cases hu:P.underlying t with
  |none=>simp[hu] at hst
  |some u=>
   cases u with
   |int k=>
    simp only[hu] at h ⊢
    split at h<;>try (simp_all; done)
    rename_i k2 k' n e1
    cases e1
    split at h
    · rename_i hk
      obtain⟨rfl,hwf⟩:=hk
      have hok:kindOk k' n=true:=by
       simp only[Lit.wf,Bool.and_eq_true,decide_eq_true_eq] at hwf
       simp[kindOk,hwf]
      exact⟨[.int k' n],⟨n,rfl,hok⟩,yI.one (.int hok) rfl⟩
    · cases h
   |bool=>
    simp only[hu] at h ⊢
    split at h<;>try (simp_all; done)
    rename_i b e1
    exact⟨[.bool b],⟨b,rfl⟩,yI.one .bool rfl⟩
   |slice e=>
    simp only[hu,Bool.and_eq_true,beq_iff_eq,decide_eq_true_eq] at hst
    obtain⟨⟨⟨s1,s2⟩,s3⟩,s4⟩:=hst
    simp only[hu] at h ⊢
    split at h<;>try (simp_all; done)
    · rename_i e' e1
      refine⟨[.sl (P.cellsOf e) []],⟨[],rfl,by simp,by simp⟩,yI.one ?_ rfl⟩
      exact .sl (xs:=[]) (c:=0) 0 0 (fun _ _=>undef) (by simp) (by simp) (by simp) (by simp) (fun i j hi=>by simp at hi) (fun i j hi=>by simp at hi) (fun i x j y hx=>by simp at hx)
    · rename_i e' a len cap e1
      cases e1
      split at h
      · rename_i hc
        obtain⟨c1,c2,c3⟩:=hc
        simp only[Option.bind_eq_some_iff,Option.map_eq_some_iff] at h
        obtain⟨els,h1,rest,h2,h3⟩:=h
        injection h3 with h3 h4
        subst h3
        obtain⟨l1,l2⟩:=mapM_some h1
        simp only[List.length_range] at l1
        simp only[DataW.weights,hu] at hw
        have hlen:len*P.bytesOf e≤reachBytes:=by
         have:=hw _ List.mem_cons_self
         simp only[List.length_map,l1] at this
         refine Nat.le_trans (Nat.mul_le_mul_right _ ?_) this
         omega
        have hlb:len≤big:=by
         have h5:len≤len*P.bytesOf e:=Nat.le_mul_of_pos_right _ s3
         have h6:reachBytes≤big:=by decide
         omega
        have hel:∀ i,i < len→∃ q:List T×List Value,qK P D e q.1∧yI (fun b=>b < w.heap.size) w q.1 q.2∧q.2.length=P.cellsOf e∧∀ j v,q.2[j]? =some v→w.cell? ((a.add (i*P.cellsOf e)).add j)=some v:=by
         intro i hi
         obtain⟨y,hy,hy2⟩:=l2 i i (by simp[hi])
         simp only[Option.bind_eq_some_iff] at hy
         obtain⟨csi,hy3,hy4⟩:=hy
         obtain⟨yd,yp⟩:=y
         have hwt:∀ n∈yd.weights P e,n≤reachBytes:=fun n hn=>hw n (List.mem_cons_of_mem _ (List.mem_append_left _ (weightsAll_mem (List.mem_map.2 ⟨(yd,yp),List.mem_of_getElem? hy2,rfl⟩) hn)))
         obtain⟨xs,hx1,hx2⟩:=Ef D e s4 fuel csi yd yp hy4 hwt
         unfold World.cells? at hy3
         rw[if_pos (Nat.zero_le _)] at hy3
         obtain⟨m1,m2⟩:=mapM_some hy3
         refine⟨(xs,csi),hx1,hx2,by simpa using m1,fun j v hj=>?_⟩
         have hjl:j < P.cellsOf e:=by have h9:j < csi.length:=(List.getElem?_eq_some_iff.1 hj).1; rw[List.length_range] at m1; omega
         obtain⟨z,z1,z2⟩:=m2 j j (by simp[hjl])
         rw[hj] at z2
         injection z2 with z2
         rw[z2]; exact z1
        obtain⟨g,hg⟩:=ahL hel
        refine⟨[.sl (P.cellsOf e) ((List.range len).map fun i=>PS (P.cellsOf e) (g i).1)],⟨_,rfl,by simpa using hlen,fun y hy=>?_⟩,yI.one ?_ rfl⟩
        · simp only[List.mem_map,List.mem_range] at hy
          obtain⟨i,hi,rfl⟩:=hy
          exact⟨_,(hg i hi).1,rfl⟩
        · have hsh:∀ i,i < len→(g i).1.length=P.cellsOf e∧(P.cellsOf e=1→∀ x∈(g i).1,x.isAgg=false):=fun i hi=>Qm s4 (hg i hi).1
          have hcells:∀ i,i < len→(PS (P.cellsOf e) (g i).1).cells=(g i).1∧(P.cellsOf e=1→(PS (P.cellsOf e) (g i).1).isAgg=false):=fun i hi=>by
           obtain⟨q1,q2⟩:=hsh i hi
           unfold PS
           by_cases h1:P.cellsOf e=1
           · rw[if_pos h1]
             rw[h1] at q1
             match hgi:(g i).1,q1 with
             | [x],_=>
              have hx:=q2 h1 x (by rw[hgi]; simp)
              refine⟨?_,fun _=>hx⟩
              cases x<;>simp_all [T.isAgg,T.cells]
           · rw[if_neg h1]
             exact⟨rfl,fun h=>absurd h h1⟩
          have hgx:∀ i x,((List.range len).map fun i=>PS (P.cellsOf e) (g i).1)[i]? =some x→i < len∧x=PS (P.cellsOf e) (g i).1:=fun i x hx=>by
           have hi:i < len:=by have:=(List.getElem?_eq_some_iff.1 hx).1; simpa using this
           rw[List.getElem?_map,List.getElem?_range hi] at hx
           exact⟨hi,by simpa using hx.symm⟩
          have hl2:((List.range len).map fun i=>PS (P.cellsOf e) (g i).1).length=len:=by simp
          rcases Nat.eq_zero_or_pos len with e0|e0
          · subst e0
            exact .sl (xs:=[]) 0 0 (fun _ _=>undef) (by simp) (by simp) (by simp) (by simp) (fun i j hi=>by simp at hi) (fun i j hi=>by simp at hi) (fun i x j y hx=>by simp at hx)
          · have hcell:∀ i j,i < len→j < P.cellsOf e→w.cell? ((a.add (i*P.cellsOf e)).add j)=some ((g i).2.getD j undef):=fun i j hi hj=>by
             obtain⟨_,_,q3,q4⟩:=hg i hi
             refine q4 j _ ?_
             rw[List.getD_eq_getElem?_getD,List.getElem?_eq_getElem (by omega)]; rfl
            have h00:=hcell 0 0 e0 s2
            rw[Nat.zero_mul] at h00
            obtain⟨b,o,rfl⟩:=RU h00
            have hF:b < w.heap.size:=by
             have:=hcell 0 0 e0 s2
             rw[add_mid,add_mid] at this
             cases h7:w.heap[b]? with
             |none=>simp[World.cell?,h7] at this
             |some _=>exact(Array.getElem?_eq_some_iff.1 h7).1
            have:=Rd.sl (F:=fun b=>b < w.heap.size) (w:=w) (k:=P.cellsOf e) (xs:=(List.range len).map fun i=>PS (P.cellsOf e) (g i).1) (A:=some ⟨b,o,none⟩) (c:=cap) b o (fun i j=>(g i).2.getD j undef) (by rw[hl2]; exact c2) (by rw[hl2]; exact hlb)
             (fun x hx=>by
              obtain⟨i,hi⟩:=List.getElem?_of_mem hx
              obtain⟨h8,rfl⟩:=hgx i x hi
              refine⟨by rw[(hcells i h8).1]; exact(hsh i h8).1,(hcells i h8).2⟩) (fun _=>⟨rfl,hF⟩)
             (fun i j hi hj=>by
              rw[hl2] at hi
              obtain⟨_,q2,q3,_⟩:=hg i hi
              refine q2.2.1 _ ?_
              rw[List.getD_eq_getElem?_getD,List.getElem?_eq_getElem (by omega)]
              exact List.getElem_mem _)
             (fun i j hi hj=>by
              rw[hl2] at hi
              have:=hcell i j hi hj
              rw[add_mid,add_mid] at this
              exact this)
             (fun i x j y hx hy=>by
              obtain⟨h8,rfl⟩:=hgx i x hx
              rw[(hcells i h8).1] at hy
              obtain⟨_,q2,q3,_⟩:=hg i h8
              refine q2.2.2 j y _ hy ?_
              have hj:j < (g i).2.length:=by rw[←q2.1]; exact(List.getElem?_eq_some_iff.1 hy).1
              rw[List.getD_eq_getElem?_getD,List.getElem?_eq_getElem hj]; rfl)
            rw[hl2] at this
            exact this
      · cases h
   |struct fs=>
    simp only[hu,Bool.and_eq_true,beq_iff_eq,decide_eq_true_eq,List.all_eq_true] at hst
    obtain⟨⟨⟨s1,s2⟩,s3⟩,s4⟩:=hst
    simp only[hu] at h ⊢
    split at h
    · rename_i hcl
      simp only[Option.map_eq_some_iff] at h
      obtain⟨ys,h1,h2⟩:=h
      injection h2 with h2 h3
      subst h2
      obtain⟨l1,l2⟩:=mapM_some h1
      simp only[DataW.weights,hu] at hw
      have hf:∀ f∈fs.toList,∃ xs,qK P D f.type xs∧yI (fun b=>b < w.heap.size) w xs ((cs.drop f.offset).take (P.cellsOf f.type)):=fun f hfm=>by
       obtain⟨i,hi⟩:=List.getElem?_of_mem hfm
       obtain⟨y,y1,y2⟩:=l2 i f hi
       obtain⟨yd,yp⟩:=y
       exact Ef D f.type (s4 f hfm) fuel _ yd yp y1 fun n hn=>hw n (uU (ts:=fs.toList.map (·.type)) (l:=ys.map (·.1)) (i:=i) (by simp[hi]) (by simp[y2]) hn)
      obtain⟨parts,p1,p2,p3⟩:=xP (fs:=fs.toList) (o:=0) (cs:=cs) s1 (by rw[s2,hcl]; omega) hf
      exact⟨parts.flatten,⟨parts,p1,p2,rfl⟩,by simpa using p3⟩
    · cases h
   |_=>simp[hu] at hst
end
end
section
open Go.RowKit Go.Proofs Go.Lib
set_option maxHeartbeats 4000000
def wV (k b:Nat) (ts:List T):aj T:=match ts with
 | [.sl k' xs]=>bif k'==k&&decide (xs.length*b≤big) then .ok (.sl k xs) else .stuck
 |_=> .stuck
theorem FB (A:Option Addr) (n c:Nat) (w:World) (news:List Value) (hl:news.length=n*6) (h1:∀ u∈news,u.oneCell'=true)
 (hA:(A=none∧n=0)∨∃ ad:Addr,A=some ad∧∀ (j:Nat) (u:Value),news[j]? =some u→w.cell? (ad.add j)=some u) (hb:n*48≤big):
 Calls Try.prog 80 #[.slice A n c] w fun e w'=>∃ v',e= .returned v'∧w'.ownsRow 0 72 6 v' n news∧w.grownBy w' none∧(∀ b,v'.ownBlock=some b→w.heap.size≤b∧b < w'.heap.size)∧w.drawn≤w'.drawn:=by
 have uS:Try.prog.underlying 46=some (.slice 72):=by kernel_rfl
 have sz:jm Try.prog 72=some 6:=by kernel_rfl
 have byt:GU Try.prog 72=some 48:=by kernel_rfl
 have zr:kU Try.prog 72 6=true:=by kernel_rfl
 have hcmp:∀ (B:Option Addr) (p q:Nat) (w:World),(binOp .eql 46 (.slice B p q) (.slice none 0 0)).run Try.prog w= .ok (.bool B.isNone) w:=fun B p q w=>by
  have hu:=run_underlying uS
  have hd:Op.maxDepth=9999+1:=by decide
  have he:(Op.equalIn Op.maxDepth 46 (.slice B p q) (.slice none 0 0)).run Try.prog w= .ok B.isNone w:=by
   rw[hd,Op.equalIn]
   cases B<;>simp only[Sem.run_bind,hu,Result.andThen_ok,Sem.run_pure]<;>rfl
  simp[binOp,Op.equal,he]
 rcases hA with ⟨rfl,rfl⟩|⟨ad,rfl,hA⟩
 · have:news= []:=List.eq_nil_of_length_eq_zero (by simpa using hl)
   subst this
   go_enter Try.func80,Try.ntmps80
   go_wp2
   go_ret
   exact⟨_,rfl,World.ownsRow_nil w 0 72 6,⟨rfl,rfl,rfl,Nat.le_refl _,fun _ _ _=>rfl⟩,fun b hb=>by simp[Value.ownBlock] at hb,Nat.le_refl _⟩
 · obtain⟨N,hN⟩:∃ N,w.heap.size=N:=⟨_,rfl⟩
   have hown:(w.alloc (.cells #[] 72)).ownsRow 0 72 6 (.slice (some ⟨N,0,none⟩) 0 0) 0 []:=by
    rw[←hN]; exact World.ownsRow_lit w #[] 0 (by omega) (by simp) (by simp)
   have hA':∀ (j:Nat) (u:Value),news[j]? =some u→(w.alloc (.cells #[] 72)).cell? (ad.add j)=some u:=fun j u hj=>by
    have h2:=hA j u hj
    have hb:(ad.add j).block < w.heap.size:=by
     cases h3:w.heap[(ad.add j).block]? with
     |none=>simp[World.cell?,h3] at h2
     |some _=>exact(Array.getElem?_eq_some_iff.1 h3).1
    rw[World.cell?_of_block (heap_alloc_old w _ hb)]
    exact h2
   obtain⟨v',w',r1,r2,r3,r4⟩:=qH (w.alloc (.cells #[] 72)) 46 46 72 (k:=5) (b:=47) uS sz byt zr (.slice (some ⟨N,0,none⟩) 0 0) 0 [] hown (some ad) n c news hl (.inr ⟨ad,rfl,hA'⟩) h1 (by omega)
   have hsz:(w.alloc (.cells #[] 72)).heap.size=N+1:=by simp[hN]
   have hgb:w.grownBy w' none:=by
    refine⟨r3.os,r3.tape,r3.output,by have:=r3.size; omega,fun k hk _=>?_⟩
    rw[r3.block k (by omega) (by simp[Value.ownBlock]; omega)]
    exact heap_alloc_old w _ hk
   have hdr:w.drawn≤w'.drawn:=dX _ _ (w.alloc (.cells #[] 72)) r1
   clear hA hA' hown
   obtain⟨ab,ao,asp⟩:=ad
   go_enter Try.func80,Try.ntmps80
   go_wp2_with (at_builtin; refine Lib.wpList_append_run _ rfl _ _ _ _ rfl _ _ rfl rfl _ _ r1 ?_)
   all_goals
    go_ret
    refine⟨v',rfl,by simpa using r2,hgb,fun b hb=>?_,hdr⟩
    refine⟨?_,tZ r2 b hb⟩
    rcases r4 with r4|r4
    · rw[hb] at r4; simp[Value.ownBlock] at r4; omega
    · rw[hb] at r4; injection r4 with r4; omega
theorem Gh {E:Env} (hP:E.P=Try.prog) (hr:kR E 80=some (72,6)) (hm:E.mode 80=1):∀ ts,wV 6 48 ts≠ .stuck→∀ (F:Nat→Prop) (w:World) (vals:List Value),vals.length=ts.length→
 (∀ (i:Nat) (x:T) (v:Value),ts[i]? =some x→vals[i]? =some v→Rd F w x v)→(∀ b,F b→b < w.heap.size)→
 Invokes E.P 80 vals.toArray w fun v w'=>∃ x F',wV 6 48 ts= .ok x∧Out E 80 F' w.heap.size w' x v∧Grown F w F' w':=by
 intro ts h F w vals hl ha hfl
 unfold wV at h ⊢
 match ts,vals,hl with
 | [.sl k' xs],[v],_=>
  simp only[] at h ⊢
  obtain⟨g1,e1⟩:=aU h
  rw[e1]
  simp only[Bool.and_eq_true,beq_iff_eq,decide_eq_true_eq] at g1
  obtain⟨rfl,hb⟩:=g1
  have hv:=ha 0 _ v rfl rfl
  obtain⟨A,c,news,rfl,n1,n2,n3,n4,n5,n6⟩:=(rZ.CJ (κ:=fun _=>undef) (H:=[]) (p:= .junk) hv).news
  have hw:=FB A xs.length c w news n1 n2 (n5.imp (fun h=>⟨h.1,by rw[h.2]; rfl⟩) id) hb
  unfold Invokes
  have:(callFunc 80 [Value.slice A xs.length c].toArray).run E.P w= .ok (.enter 80 [Value.slice A xs.length c].toArray) w:=by
   rw[hP]; simp[callFunc,Try.func80,Try.f80]
  rw[this]
  rw[hP]
  refine Calls.mono hw ?_
  rintro e w' ⟨v',rfl,b1,b2,b3,bd⟩
  have hold:∀ b,b < w.heap.size→w'.heap[b]? =w.heap[b]? :=fun b hb=>b2.block b hb (by simp)
  refine⟨v',rfl,⟨.sl 6 xs,F,rfl,.row hm hr ⟨news,b1,n4,n3,n2,fun i x j y u h1 h2 h3=>(n6 i x j y u h1 h2 h3).mono (fun _ h=>h) (fun b hb=>hold b (hfl b hb))⟩ (fun b hb=>⟨(b3 b hb).1,(b3 b hb).2,fun hf=>by have:=hfl b hf; have:=(b3 b hb).1; omega⟩),
   ⟨b2.os,b2.tape,b2.output,b2.size,hold,fun _ h=>h,fun _ h=> .inl h,fun b hb=>Nat.lt_of_lt_of_le (hfl b hb) b2.size⟩⟩,bd⟩
end
section
open Go.RowKit Go.Proofs
def hints:FuncId→Nat→List Nat×List Nat:=fun f r=>match f,r with
 |6,6=>([0,1,5,6,7],[0,5,6])
 |7,8=>([0,3,6],[0,3])
 |7,13=>([0,3,6,7],[0,3,6])
 |7,18=>([0,3,6,8],[0,3,6])
 |9,6=>([0,1,5,6,7],[0,5,6])
 |11,2=>([0,3],[0])
 |13,2=>([0,1,6],[])
 |16,6=>([1,24,25,26],[1])
 |16,12=>([1,36,37,38],[1])
 |17,7=>([0,4,5],[0])
 |17,10=>([0,4,5,6],[0,4,5])
 |18,2=>([0,13,14],[])
 |18,7=>([0,4,5,6,13,14,21,22,23],[0,4,5,6,13,14])
 |18,11=>([0,4,5,6,13,14],[0,4,6,13,14])
 |18,13=>([0,4,5,6,13,14,36],[0,4,5,6,13,14])
 |18,18=>([0,4,5,6,13,14,49,50,51],[0,4,5,6,13,14,36])
 |19,2=>([0,4],[])
 |19,6=>([0,4,5,6],[0,4,5])
 |20,4=>([0,1,5],[])
 |21,3=>([1,2,7,19,20],[2,7])
 |21,11=>([7,9,55,56,57],[7])
 |22,4=>([1,2,7,8,9],[2,7,8])
 |22,11=>([2,7,8,11],[8])
 |23,5=>([1,3,49,50,51],[1])
 |23,13=>([6,76,77,78],[])
 |24,7=>([2,5,9,10,11],[])
 |25,5=>([0,3,4],[3])
 |26,2=>([1,3],[1])
 |27,2=>([0,1,7,8],[])
 |30,2=>([1,2,6],[])
 |33,2=>([0,1,12,13],[])
 |33,5=>([0,1,6,12,13,21,22],[0,1,12,13])
 |37,6=>([0,1,7,8],[])
 |37,12=>([0,1,2,7,9],[])
 |38,3=>([0,5,14,15,16],[5])
 |39,3=>([0,1,2,7,8],[7])
 |39,6=>([0,1,2,7,8,9],[0,1,2,7,8])
 |40,4=>([2,3,5],[])
 |43,7=>([4,6,25,26,27],[4,6])
 |50,5=>([1,6,12,13,14],[6])
 |52,2=>([0,1,7,8],[])
 |55,7=>([2,5,9,10,11],[])
 |56,2=>([0,1,2,7],[])
 |57,4=>([0,1,5],[])
 |58,4=>([0,1,5],[])
 |63,2=>([0,3,13,14,15],[0])
 |68,2=>([0,3],[0])
 |68,7=>([0,3,4],[0,3])
 |69,2=>([0,1,5],[0])
 |69,8=>([0,1,5,6,7],[0,1,5])
 |70,6=>([6,7,8],[6,7])
 |71,6=>([1,2,6,7,8],[6,7])
 |71,11=>([1,2,6,7,8,9,10],[1,2,6,7,8])
 |72,5=>([7,8],[])
 |73,3=>([3,4],[3])
 |76,2=>([0,1,7,8],[])
 |79,5=>([0,1,5,6],[0,5])
 |82,2=>([0,1,5],[0])
 |83,4=>([5,6,7],[5])
 |84,3=>([0,1,5,6],[5])
 |103,2=>([0,1,7,8],[])
 |_,_=>([],[])
class Lv where
 loc:Option (List T→aj T):=none
 ring:Option (List T→aj T):=none
 gao:Option (List T→aj T):=none
 abA:Option (List T→aj T):=none
noncomputable def env [Lv]:Env where
 P:=Try.prog
 hint:=hints
 mode:=fun f=>match f with
  |63=>3
  |79=>3
  |80=>1
  |_=>0
 ext:=fun f=>match f with
  |18=>Lv.ring
  |21=>Lv.gao
  |22=>Lv.abA
  |80=>some (wV 6 48)
  |_=>none
 VL:=fun f=>match f with
  |42=>true
  |_=>false
 wI:=fun _=>none
section
variable {β:Type} {N:Nat} {f:FuncId} {ts:List T} {r:aj β}
noncomputable def cl [Lv] (N:Nat) (f:FuncId) (ts:List T) (K:T→aj β):aj β:=aj.bind (aB env N f ts) K
noncomputable def jJ [Lv] (N:Nat) (f:FuncId) (ts:List T) (K:Bool→aj β):aj β:=aj.bind (aB env N f ts) fun x=>bT x K
noncomputable def Qy [Lv] (N:Nat) (f:FuncId) (ts:List T) (K:Int→aj β):aj β:=aj.bind (aB env N f ts) fun x=>iT .i64 x K
abbrev rB (b:Bool):aj T:= .ok (.bool b)
abbrev rI (n:Int):aj T:= .ok (i64 n)
def W (ts:List T) (r:aj β):aj β:=bif T.wfs ts then r else .absurd
theorem aV [Lv] {x:T} {K:T→aj β} (h:aB env N f ts= .ok x):cl N f ts K=K x:=by rw[cl,h]; rfl
theorem dM [Lv] {b:Bool} {K:Bool→aj β} (h:aB env N f ts= .ok (.bool b)):jJ N f ts K=K b:=by rw[jJ,h]; rfl
theorem wS [Lv] {n:Int} {K:Int→aj β} (h:aB env N f ts= .ok (i64 n)):Qy N f ts K=K n:=by rw[Qy,h]; rfl
theorem dA (h:T.wfs ts=true):W ts r=r:=by rw[W,h]; rfl
end
end
section
open Go.RowKit Go.Proofs Go.ChangeShapes
theorem G9 [Lv] (hring:∀ e,Lv.ring=some e→vG env 18 e) (ahu:∀ e,Lv.gao=some e→vG env 21 e) (ae8:∀ e,Lv.abA=some e→vG env 22 e):lF env where
 wI:=fun f g h=>by
  have e:env.wI f=none:=rfl
  rw[e] at h; cases h
 mixed:=by kernel_rfl
 named:=fun f fn h=>by
  have hall:(Try.prog.funcs.all fun fn=> !(fn.name== "runtime.NumGoroutine"))=true:=by kernel_rfl
  rw[Array.all_eq_true_iff_forall_mem] at hall
  have:=hall fn (Array.mem_of_getElem? h)
  simpa using this
 ext:=fun f e h=>by
  by_cases ae5:f=80
  · subst ae5
    have e1:env.ext 80=some (wV 6 48):=rfl
    rw[e1] at h; injection h with h; subst h
    exact Gh rfl (by kernel_rfl) rfl
  by_cases acS:f=18
  · subst acS
    have e1:env.ext 18=Lv.ring:=rfl
    rw[e1] at h
    exact hring e h
  by_cases ae6:f=21
  · subst ae6
    have e1:env.ext 21=Lv.gao:=rfl
    rw[e1] at h
    exact ahu e h
  by_cases acR:f=22
  · subst acR
    have e1:env.ext 22=Lv.abA:=rfl
    rw[e1] at h
    exact ae8 e h
  exfalso
  have e1:env.ext f=none:=by
   unfold env
   simp only[]
  rw[e1] at h; cases h
end
section
open Go.RowKit
structure Px where
 a:Int
 n:Int
 deriving DecidableEq,Inhabited
structure Pa where
 o:Int
 s:List Int
 h:Int
 c:Int
 deriving DecidableEq,Inhabited
structure En where
 x:Px
 p:Pa
 deriving DecidableEq,Inhabited
structure Nw where
 g:List Px
 p:Pa
 m:List Px
 deriving DecidableEq,Inhabited
def ints (s:List Int):List T:=s.map i64
def Px.t (x:Px):T:= .agg [i64 x.a,i64 x.n]
def Pa.t (p:Pa):T:= .agg [i64 p.o,.sl 1 (ints p.s),i64 p.h,i64 p.c]
def En.t (e:En):T:= .agg [i64 e.x.a,i64 e.x.n,i64 e.p.o,.sl 1 (ints e.p.s),i64 e.p.h,i64 e.p.c]
def Nw.t (n:Nw):T:= .agg [.sl 2 (n.g.map Px.t),i64 n.p.o,.sl 1 (ints n.p.s),i64 n.p.h,i64 n.p.c,.sl 2 (n.m.map Px.t)]
structure Px.ok (x:Px):Prop where
 a:aS x.a=true
 n:aS x.n=true
structure Pa.ok (p:Pa):Prop where
 o:aS p.o=true
 l:p.s.length≤big
 s:∀ i∈p.s,aS i=true
 h:aS p.h=true
 c:aS p.c=true
structure En.ok (e:En):Prop where
 x:e.x.ok
 p:e.p.ok
structure Nw.ok (n:Nw):Prop where
 g:∀ x∈n.g,x.ok
 gl:n.g.length≤big
 p:n.p.ok
 m:∀ x∈n.m,x.ok
 ml:n.m.length≤big
theorem Eh {s:List Int} (h:∀ i∈s,aS i=true):T.wfs (ints s)=true:=T.kN.2 fun x hx=>by
 obtain⟨i,hi,rfl⟩:=List.mem_map.1 hx
 simpa[T.wf] using h i hi
theorem Px.ok.wf {x:Px} (h:x.ok):x.t.wf=true:=by have:=h.a; have:=h.n; simp_all [Px.t,T.wf,T.wfs]
theorem Pa.ok.wf {p:Pa} (h:p.ok):p.t.wf=true:=by
 have h1:=h.o; have h2:=h.l; have h3:=Eh h.s; have h4:=h.h; have h5:=h.c
 simp only[aS] at h1 h4 h5
 simp[Pa.t,T.wf,T.wfs,h1,h3,h4,h5]
 simpa[ints] using h2
theorem En.ok.wf {e:En} (h:e.ok):e.t.wf=true:=by
 have h1:=h.p.o; have h2:=h.p.l; have h3:=Eh h.p.s; have h4:=h.p.h; have h5:=h.p.c; have h6:=h.x.a; have h7:=h.x.n
 simp only[aS] at h1 h4 h5 h6 h7
 simp[En.t,T.wf,T.wfs,h1,h3,h4,h5,h6,h7]
 simpa[ints] using h2
theorem aay {α:Type} {f:α→T} {l:List α} (h:∀ x∈l,(f x).wf=true):T.wfs (l.map f)=true:=T.kN.2 fun x hx=>by
 obtain⟨i,hi,rfl⟩:=List.mem_map.1 hx
 exact h i hi
theorem TP {α:Type} {f:α→T} {l:List α} {k:Nat} (hl:l.length≤big) (h:∀ x∈l,(f x).wf=true):(T.sl k (l.map f)).wf=true:=by
 simp only[T.wf,aay h,Bool.and_true,decide_eq_true_eq,List.length_map]; exact hl
theorem Nw.ok.wf {n:Nw} (h:n.ok):n.t.wf=true:=by
 have a:=TP (k:=2) h.gl fun x hx=>(h.g x hx).wf
 have b:=TP (k:=2) h.ml fun x hx=>(h.m x hx).wf
 have h1:=h.p.o; have h2:=h.p.l; have h3:=Eh h.p.s; have h4:=h.p.h; have h5:=h.p.c
 simp only[aS] at h1 h4 h5
 have c:(T.sl 1 (ints n.p.s)).wf=true:=by simp[T.wf,h3]; simpa[ints] using h2
 simp only[T.wf] at a b c
 simp only[Nw.t,T.wf,T.wfs,Bool.and_true]
 simp only[a,b,c,h1,h4,h5,Bool.and_self,T.wfs,T.wf]
theorem jD {x:T} (h:x.wf=true):T.wfs [x]=true:=by simp[T.wfs,h]
theorem iY {x y:T} (h:x.wf=true) (h2:y.wf=true):T.wfs [x,y]=true:=by simp[T.wfs,h,h2]
theorem FY {x y z:T} (h:x.wf=true) (h2:y.wf=true) (h3:z.wf=true):T.wfs [x,y,z]=true:=by simp[T.wfs,h,h2,h3]
theorem bC {n:Int} (h:aS n=true):(i64 n).wf=true:=by simpa[T.wf] using h
def dH (p:Nat→Bool):Nat→Nat→Option Nat
 |_,0=>none
 |i,k+1=>bif p i then some i else dH p (i+1) k
theorem fZ {B:St→aj (Ex×St)} {S R:Nat→St} {X:St} {id:Nat} (p:Nat→Bool):∀ (k i n:Nat),k < n→(∀ j,i≤j→j < i+k→p j=true→B (S j)= .ok (.ret,R j))→(∀ j,i≤j→j < i+k→p j=false→B (S j)= .ok (.norm,S (j+1)))→
 B (S (i+k))= .ok (.exit id,X)→eF B n (S i)=match dH p i k with|some j=> .ok (.ret,R j)|none=> .ok (.exit id,X)
 |0,i,n+1,_,_,_,h3=>by simp only[dH]; exact iH h3
 |k+1,i,n+1,hk,h1,h2,h3=>by
  cases hp:p i with
  |true=>simp only[dH,hp,cond_true]; exact iV (h1 i (by omega) (by omega) hp)
  |false=>
   simp only[dH,hp,cond_false]
   rw[bJ (h2 i (by omega) (by omega) hp)]
   exact fZ p k (i+1) n (by omega) (fun j a b=>h1 j (by omega) (by omega)) (fun j a b=>h2 j (by omega) (by omega)) (by rw[show i+1+k=i+(k+1) by omega]; exact h3)
theorem lW {p:Nat→Bool}:∀ {k i j:Nat},dH p i k=some j→i≤j∧j < i+k∧p j=true
 |0,i,j,h=>by simp[dH] at h
 |k+1,i,j,h=>by
  cases hp:p i with
  |true=>simp[dH,hp] at h; subst h; exact⟨by omega,by omega,hp⟩
  |false=>
   simp only[dH,hp,cond_false] at h
   have:=lW h
   exact⟨by omega,by omega,this.2.2⟩
theorem iI {p:Nat→Bool}:∀ {k i:Nat},dH p i k=none→∀ j,i≤j→j < i+k→p j=false
 |0,i,h,j,a,b=>by omega
 |k+1,i,h,j,a,b=>by
  cases hp:p i with
  |true=>simp[dH,hp] at h
  |false=>
   simp only[dH,hp,cond_false] at h
   rcases Nat.lt_or_ge i j with c|c
   · exact iI h j (by omega) (by omega)
   · have:j=i:=by omega
     subst this; exact hp
theorem aF {β:Type} {xs:List T} {i:Nat} {x:T} {K:T→aj β} (h:xs[i]? =some x):dF xs (i:Int) K=K x:=by
 simp only[dF,Int.toNat_natCast,h]
 rw[if_pos (by omega)]
theorem DX {s:List Int} {i:Nat} {x:Int} (h:s[i]? =some x):(ints s)[i]? =some (i64 x):=by simp[ints,h]
theorem aI {α:Type} {f:α→T} {l:List α} {i:Nat} {x:α} (h:l[i]? =some x):(l.map f)[i]? =some (f x):=by simp[h]
theorem wrap_succ {n:Nat} (h:n≤big):IntKind.i64.wrap ((n:Int)+1)=((n+1:Nat):Int):=by rw[wrap64 (by have:=bH; omega)]; omega
def wH:Option Nat→Int
 |some i=>i
 |none=> -1
theorem bM {β:Type} {n:Int} {K:Int→aj β}:iT .i64 (i64 n) K=K n:=by simp[iT]
theorem WO {β:Type} {b:Bool} {K:Bool→aj β}:bT (.bool b) K=K b:=rfl
abbrev u8 (n:Int):T:= .int .u8 n
def okI (n:Int):Prop:=aS n=true
def okB (n:Int):Prop:=kindOk .u8 n=true
def dN {α:Type} (p:α→Prop) (l:List α):Prop:=l.length≤big∧∀ x∈l,p x
theorem gq {α:Type} {f:α→T} {p:α→Prop} {k:Nat} (h:∀ x,p x→(f x).wf=true) {l:List α} (hl:dN p l):(T.sl k (l.map f)).wf=true:=TP hl.1 fun x hx=>h x (hl.2 x hx)
theorem Ak {l:List Int} (h:dN okB l):(T.sl 1 (l.map u8)).wf=true:=gq (p:=okB) (fun x hx=>by simpa[T.wf,okB] using hx) h
theorem IX {l:List Int} (h:dN okI l):(T.sl 1 (ints l)).wf=true:=gq (p:=okI) (fun x hx=>by simpa[T.wf,okI] using hx) h
theorem Px.ps (x:Px):x.t.cell 0=i64 x.a∧x.t.cell 1=i64 x.n:=⟨rfl,rfl⟩
theorem Pa.ps (x:Pa):x.t.cell 0=i64 x.o∧x.t.cell 1= .sl 1 (ints x.s)∧x.t.cell 2=i64 x.h∧x.t.cell 3=i64 x.c:=⟨rfl,rfl,rfl,rfl⟩
theorem En.ps (x:En):x.t.ah 0 2 true=x.x.t∧x.t.cell 0=i64 x.x.a∧x.t.cell 1=i64 x.x.n∧x.t.ah 2 4 true=x.p.t∧x.t.cell 2=i64 x.p.o∧x.t.cell 3= .sl 1 (ints x.p.s)∧x.t.cell 4=i64 x.p.h∧x.t.cell 5=i64 x.p.c:=⟨rfl,rfl,rfl,rfl,rfl,rfl,rfl,rfl⟩
theorem Nw.ps (x:Nw):x.t.cell 0= .sl 2 (x.g.map Px.t)∧x.t.ah 1 4 true=x.p.t∧x.t.cell 1=i64 x.p.o∧x.t.cell 2= .sl 1 (ints x.p.s)∧x.t.cell 3=i64 x.p.h∧x.t.cell 4=i64 x.p.c∧x.t.cell 5= .sl 2 (x.m.map Px.t):=⟨rfl,rfl,rfl,rfl,rfl,rfl,rfl⟩
structure Ru where
 m:Int
 x:Px
 v:Int
 a:Int
 n:Int
 deriving DecidableEq,Inhabited
def Ru.t (x:Ru):T:= .agg [i64 x.m,i64 x.x.a,i64 x.x.n,i64 x.v,i64 x.a,i64 x.n]
structure Ru.ok (q:Ru):Prop where
 m:aS q.m=true
 x:q.x.ok
 v:aS q.v=true
 a:aS q.a=true
 n:aS q.n=true
theorem Ru.ok.wf {x:Ru} (h:x.ok):x.t.wf=true:=by
 have h0:=h.m
 have h1:=h.x.wf
 have h2:=h.v
 have h3:=h.a
 have h4:=h.n
 simp only[Px.t,T.wf,T.wfs,Bool.and_true,Bool.and_eq_true,decide_eq_true_eq,aS,List.length_map] at h0 h1 h2 h3 h4
 simp[Ru.t,T.wf,T.wfs,h0,h1,h2,h3,h4]
theorem Ru.ps (x:Ru):x.t.cell 0=i64 x.m∧x.t.ah 1 2 true=x.x.t∧x.t.cell 1=i64 x.x.a∧x.t.cell 2=i64 x.x.n∧x.t.cell 3=i64 x.v∧x.t.cell 4=i64 x.a∧x.t.cell 5=i64 x.n:=⟨rfl,rfl,rfl,rfl,rfl,rfl,rfl⟩
structure Sd where
 a:Int
 r:Int
 i:List Ru
 o:List Ru
 deriving DecidableEq,Inhabited
def Sd.t (x:Sd):T:= .agg [i64 x.a,i64 x.r,.sl 6 (x.i.map Ru.t),.sl 6 (x.o.map Ru.t)]
structure Sd.ok (q:Sd):Prop where
 a:aS q.a=true
 r:aS q.r=true
 i:dN Ru.ok q.i
 o:dN Ru.ok q.o
theorem Sd.ok.wf {x:Sd} (h:x.ok):x.t.wf=true:=by
 have h0:=h.a
 have h1:=h.r
 have h2:=gq (k:=6) (fun _=>(fun h=>Ru.ok.wf h)) h.i
 have h3:=gq (k:=6) (fun _=>(fun h=>Ru.ok.wf h)) h.o
 simp only[T.wf,T.wfs,Bool.and_true,Bool.and_eq_true,decide_eq_true_eq,aS,List.length_map] at h0 h1 h2 h3
 simp[Sd.t,T.wf,T.wfs,h0,h1,h2,h3]
theorem Sd.ps (x:Sd):x.t.cell 0=i64 x.a∧x.t.cell 1=i64 x.r∧x.t.cell 2= .sl 6 (x.i.map Ru.t)∧x.t.cell 3= .sl 6 (x.o.map Ru.t):=⟨rfl,rfl,rfl,rfl⟩
structure Cf where
 a:Int
 d:Int
 h:Int
 k:Int
 w:List Px
 s:List Sd
 deriving DecidableEq,Inhabited
def Cf.t (x:Cf):T:= .agg [i64 x.a,i64 x.d,i64 x.h,i64 x.k,.sl 2 (x.w.map Px.t),.sl 4 (x.s.map Sd.t)]
structure Cf.ok (q:Cf):Prop where
 a:aS q.a=true
 d:aS q.d=true
 h:aS q.h=true
 k:aS q.k=true
 w:dN Px.ok q.w
 s:dN Sd.ok q.s
theorem Cf.ok.wf {x:Cf} (h:x.ok):x.t.wf=true:=by
 have h0:=h.a
 have h1:=h.d
 have h2:=h.h
 have h3:=h.k
 have h4:=gq (k:=2) (fun _=>(fun h=>Px.ok.wf h)) h.w
 have h5:=gq (k:=4) (fun _=>(fun h=>Sd.ok.wf h)) h.s
 simp only[T.wf,T.wfs,Bool.and_true,Bool.and_eq_true,decide_eq_true_eq,aS,List.length_map] at h0 h1 h2 h3 h4 h5
 simp[Cf.t,T.wf,T.wfs,h0,h1,h2,h3,h4,h5]
theorem Cf.ps (x:Cf):x.t.cell 0=i64 x.a∧x.t.cell 1=i64 x.d∧x.t.cell 2=i64 x.h∧x.t.cell 3=i64 x.k∧x.t.cell 4= .sl 2 (x.w.map Px.t)∧x.t.cell 5= .sl 4 (x.s.map Sd.t):=⟨rfl,rfl,rfl,rfl,rfl,rfl⟩
structure Vw where
 x:Px
 s:List Int
 c:Int
 deriving DecidableEq,Inhabited
def Vw.t (x:Vw):T:= .agg [i64 x.x.a,i64 x.x.n,.sl 1 (ints x.s),i64 x.c]
structure Vw.ok (q:Vw):Prop where
 x:q.x.ok
 s:dN okI q.s
 c:aS q.c=true
theorem Vw.ok.wf {x:Vw} (h:x.ok):x.t.wf=true:=by
 have h0:=h.x.wf
 have h1:=IX h.s
 have h2:=h.c
 simp only[Px.t,T.wf,T.wfs,Bool.and_true,Bool.and_eq_true,decide_eq_true_eq,aS,List.length_map] at h0 h1 h2
 simp[Vw.t,T.wf,T.wfs,h0,h1,h2]
theorem Vw.ps (x:Vw):x.t.ah 0 2 true=x.x.t∧x.t.cell 0=i64 x.x.a∧x.t.cell 1=i64 x.x.n∧x.t.cell 2= .sl 1 (ints x.s)∧x.t.cell 3=i64 x.c:=⟨rfl,rfl,rfl,rfl,rfl⟩
structure Rt where
 n:Int
 p:Pa
 f:Int
 deriving DecidableEq,Inhabited
def Rt.t (x:Rt):T:= .agg [i64 x.n,i64 x.p.o,.sl 1 (ints x.p.s),i64 x.p.h,i64 x.p.c,i64 x.f]
structure Rt.ok (q:Rt):Prop where
 n:aS q.n=true
 p:q.p.ok
 f:aS q.f=true
theorem Rt.ok.wf {x:Rt} (h:x.ok):x.t.wf=true:=by
 have h0:=h.n
 have h1:=h.p.wf
 have h2:=h.f
 simp only[Pa.t,T.wf,T.wfs,Bool.and_true,Bool.and_eq_true,decide_eq_true_eq,aS,List.length_map] at h0 h1 h2
 simp[Rt.t,T.wf,T.wfs,h0,h1,h2]
theorem Rt.ps (x:Rt):x.t.cell 0=i64 x.n∧x.t.ah 1 4 true=x.p.t∧x.t.cell 1=i64 x.p.o∧x.t.cell 2= .sl 1 (ints x.p.s)∧x.t.cell 3=i64 x.p.h∧x.t.cell 4=i64 x.p.c∧x.t.cell 5=i64 x.f:=⟨rfl,rfl,rfl,rfl,rfl,rfl,rfl⟩
structure Ch where
 x:Px
 r:Rt
 deriving DecidableEq,Inhabited
def Ch.t (x:Ch):T:= .agg [i64 x.x.a,i64 x.x.n,i64 x.r.n,i64 x.r.p.o,.sl 1 (ints x.r.p.s),i64 x.r.p.h,i64 x.r.p.c,i64 x.r.f]
structure Ch.ok (q:Ch):Prop where
 x:q.x.ok
 r:q.r.ok
theorem Ch.ok.wf {x:Ch} (h:x.ok):x.t.wf=true:=by
 have h0:=h.x.wf
 have h1:=h.r.wf
 simp only[Px.t,Rt.t,T.wf,T.wfs,Bool.and_true,Bool.and_eq_true,decide_eq_true_eq,aS,List.length_map] at h0 h1
 simp[Ch.t,T.wf,T.wfs,h0,h1]
theorem Ch.ps (x:Ch):x.t.ah 0 2 true=x.x.t∧x.t.cell 0=i64 x.x.a∧x.t.cell 1=i64 x.x.n∧x.t.ah 2 6 true=x.r.t∧x.t.cell 2=i64 x.r.n∧x.t.ah 3 4 true=x.r.p.t∧x.t.cell 7=i64 x.r.f:=⟨rfl,rfl,rfl,rfl,rfl,rfl,rfl⟩
structure Lk where
 a:Int
 b:Int
 r:Int
 deriving DecidableEq,Inhabited
def Lk.t (x:Lk):T:= .agg [i64 x.a,i64 x.b,i64 x.r]
structure Lk.ok (q:Lk):Prop where
 a:aS q.a=true
 b:aS q.b=true
 r:aS q.r=true
theorem Lk.ok.wf {x:Lk} (h:x.ok):x.t.wf=true:=by
 have h0:=h.a
 have h1:=h.b
 have h2:=h.r
 simp only[T.wf,T.wfs,Bool.and_true,Bool.and_eq_true,decide_eq_true_eq,aS,List.length_map] at h0 h1 h2
 simp[Lk.t,T.wf,T.wfs,h0,h1,h2]
theorem Lk.ps (x:Lk):x.t.cell 0=i64 x.a∧x.t.cell 1=i64 x.b∧x.t.cell 2=i64 x.r:=⟨rfl,rfl,rfl⟩
structure Ss where
 s:Int
 h:Int
 l:Int
 k:Int
 deriving DecidableEq,Inhabited
def Ss.t (x:Ss):T:= .agg [i64 x.s,i64 x.h,i64 x.l,i64 x.k]
structure Ss.ok (q:Ss):Prop where
 s:aS q.s=true
 h:aS q.h=true
 l:aS q.l=true
 k:aS q.k=true
theorem Ss.ok.wf {x:Ss} (h:x.ok):x.t.wf=true:=by
 have h0:=h.s
 have h1:=h.h
 have h2:=h.l
 have h3:=h.k
 simp only[T.wf,T.wfs,Bool.and_true,Bool.and_eq_true,decide_eq_true_eq,aS,List.length_map] at h0 h1 h2 h3
 simp[Ss.t,T.wf,T.wfs,h0,h1,h2,h3]
theorem Ss.ps (x:Ss):x.t.cell 0=i64 x.s∧x.t.cell 1=i64 x.h∧x.t.cell 2=i64 x.l∧x.t.cell 3=i64 x.k:=⟨rfl,rfl,rfl,rfl⟩
structure Nd where
 c:Cf
 s:List Ss
 i:List (List En)
 o:List (List En)
 b:List (List Int)
 deriving DecidableEq,Inhabited
def Nd.t (x:Nd):T:= .agg [i64 x.c.a,i64 x.c.d,i64 x.c.h,i64 x.c.k,.sl 2 (x.c.w.map Px.t),.sl 4 (x.c.s.map Sd.t),.sl 4 (x.s.map Ss.t),.sl 1 (x.i.map fun y=> .sl 6 (y.map En.t)),.sl 1 (x.o.map fun y=> .sl 6 (y.map En.t)),.sl 1 (x.b.map fun y=> .sl 1 (y.map u8))]
structure Nd.ok (q:Nd):Prop where
 c:q.c.ok
 s:dN Ss.ok q.s
 i:dN (dN En.ok) q.i
 o:dN (dN En.ok) q.o
 b:dN (dN okB) q.b
theorem Nd.ok.wf {x:Nd} (h:x.ok):x.t.wf=true:=by
 have h0:=h.c.wf
 have h1:=gq (k:=4) (fun _=>(fun h=>Ss.ok.wf h)) h.s
 have h2:=gq (k:=1) (fun _=>(fun h=>gq (k:=6) (fun _=>(fun h=>En.ok.wf h)) h)) h.i
 have h3:=gq (k:=1) (fun _=>(fun h=>gq (k:=6) (fun _=>(fun h=>En.ok.wf h)) h)) h.o
 have h4:=gq (k:=1) (fun _=>Ak) h.b
 simp only[Cf.t,T.wf,T.wfs,Bool.and_true,Bool.and_eq_true,decide_eq_true_eq,aS,List.length_map] at h0 h1 h2 h3 h4
 simp[Nd.t,T.wf,T.wfs,h0,h1,h2,h3,h4]
theorem Nd.ps (x:Nd):x.t.ah 0 6 true=x.c.t∧x.t.cell 0=i64 x.c.a∧x.t.cell 1=i64 x.c.d∧x.t.cell 2=i64 x.c.h∧x.t.cell 3=i64 x.c.k∧x.t.cell 4= .sl 2 (x.c.w.map Px.t)∧x.t.cell 5= .sl 4 (x.c.s.map Sd.t)∧x.t.cell 6= .sl 4 (x.s.map Ss.t)∧x.t.cell 7= .sl 1 (x.i.map fun y=> .sl 6 (y.map En.t))∧x.t.cell 8= .sl 1 (x.o.map fun y=> .sl 6 (y.map En.t))∧x.t.cell 9= .sl 1 (x.b.map fun y=> .sl 1 (y.map u8)):=⟨rfl,rfl,rfl,rfl,rfl,rfl,rfl,rfl,rfl,rfl,rfl⟩
structure Nt where
 n:List Nd
 q:List (List (List Int))
 deriving DecidableEq,Inhabited
def Nt.t (x:Nt):T:= .agg [.sl 10 (x.n.map Nd.t),.sl 1 (x.q.map fun y=> .sl 1 (y.map fun y=> .sl 1 (y.map u8)))]
structure Nt.ok (q:Nt):Prop where
 n:dN Nd.ok q.n
 q:dN (dN (dN okB)) q.q
theorem Nt.ok.wf {x:Nt} (h:x.ok):x.t.wf=true:=by
 have h0:=gq (k:=10) (fun _=>(fun h=>Nd.ok.wf h)) h.n
 have h1:=gq (k:=1) (fun _=>(fun h=>gq (k:=1) (fun _=>Ak) h)) h.q
 simp only[T.wf,T.wfs,Bool.and_true,Bool.and_eq_true,decide_eq_true_eq,aS,List.length_map] at h0 h1
 simp[Nt.t,T.wf,T.wfs,h0,h1]
theorem Nt.ps (x:Nt):x.t.cell 0= .sl 10 (x.n.map Nd.t)∧x.t.cell 1= .sl 1 (x.q.map fun y=> .sl 1 (y.map fun y=> .sl 1 (y.map u8))):=⟨rfl,rfl⟩
structure Ms where
 y:Int
 b:List Int
 deriving DecidableEq,Inhabited
def Ms.t (x:Ms):T:= .agg [i64 x.y,.sl 1 (x.b.map u8)]
structure Ms.ok (q:Ms):Prop where
 y:aS q.y=true
 b:dN okB q.b
theorem Ms.ok.wf {x:Ms} (h:x.ok):x.t.wf=true:=by
 have h0:=h.y
 have h1:=Ak h.b
 simp only[T.wf,T.wfs,Bool.and_true,Bool.and_eq_true,decide_eq_true_eq,aS,List.length_map] at h0 h1
 simp[Ms.t,T.wf,T.wfs,h0,h1]
theorem Ms.ps (x:Ms):x.t.cell 0=i64 x.y∧x.t.cell 1= .sl 1 (x.b.map u8):=⟨rfl,rfl⟩
structure No where
 c:Int
 s:Int
 d:List Int
 deriving DecidableEq,Inhabited
def No.t (x:No):T:= .agg [i64 x.c,i64 x.s,.sl 1 (x.d.map u8)]
structure No.ok (q:No):Prop where
 c:aS q.c=true
 s:aS q.s=true
 d:dN okB q.d
theorem No.ok.wf {x:No} (h:x.ok):x.t.wf=true:=by
 have h0:=h.c
 have h1:=h.s
 have h2:=Ak h.d
 simp only[T.wf,T.wfs,Bool.and_true,Bool.and_eq_true,decide_eq_true_eq,aS,List.length_map] at h0 h1 h2
 simp[No.t,T.wf,T.wfs,h0,h1,h2]
theorem No.ps (x:No):x.t.cell 0=i64 x.c∧x.t.cell 1=i64 x.s∧x.t.cell 2= .sl 1 (x.d.map u8):=⟨rfl,rfl,rfl⟩
structure At where
 f:Int
 y:Int
 d:List Int
 deriving DecidableEq,Inhabited
def At.t (x:At):T:= .agg [i64 x.f,i64 x.y,.sl 1 (x.d.map u8)]
structure At.ok (q:At):Prop where
 f:aS q.f=true
 y:aS q.y=true
 d:dN okB q.d
theorem At.ok.wf {x:At} (h:x.ok):x.t.wf=true:=by
 have h0:=h.f
 have h1:=h.y
 have h2:=Ak h.d
 simp only[T.wf,T.wfs,Bool.and_true,Bool.and_eq_true,decide_eq_true_eq,aS,List.length_map] at h0 h1 h2
 simp[At.t,T.wf,T.wfs,h0,h1,h2]
theorem At.ps (x:At):x.t.cell 0=i64 x.f∧x.t.cell 1=i64 x.y∧x.t.cell 2= .sl 1 (x.d.map u8):=⟨rfl,rfl,rfl⟩
structure He where
 a:Int
 h:Int
 d:Int
 r:Int
 deriving DecidableEq,Inhabited
def He.t (x:He):T:= .agg [i64 x.a,i64 x.h,i64 x.d,i64 x.r]
structure He.ok (q:He):Prop where
 a:aS q.a=true
 h:aS q.h=true
 d:aS q.d=true
 r:aS q.r=true
theorem He.ok.wf {x:He} (h:x.ok):x.t.wf=true:=by
 have h0:=h.a
 have h1:=h.h
 have h2:=h.d
 have h3:=h.r
 simp only[T.wf,T.wfs,Bool.and_true,Bool.and_eq_true,decide_eq_true_eq,aS,List.length_map] at h0 h1 h2 h3
 simp[He.t,T.wf,T.wfs,h0,h1,h2,h3]
theorem He.ps (x:He):x.t.cell 0=i64 x.a∧x.t.cell 1=i64 x.h∧x.t.cell 2=i64 x.d∧x.t.cell 3=i64 x.r:=⟨rfl,rfl,rfl,rfl⟩
structure Op where
 k:Int
 a:Int
 b:Int
 n:Int
 d:List Int
 deriving DecidableEq,Inhabited
def Op.t (x:Op):T:= .agg [i64 x.k,i64 x.a,i64 x.b,i64 x.n,.sl 1 (x.d.map u8)]
structure Op.ok (q:Op):Prop where
 k:aS q.k=true
 a:aS q.a=true
 b:aS q.b=true
 n:aS q.n=true
 d:dN okB q.d
theorem Op.ok.wf {x:Op} (h:x.ok):x.t.wf=true:=by
 have h0:=h.k
 have h1:=h.a
 have h2:=h.b
 have h3:=h.n
 have h4:=Ak h.d
 simp only[T.wf,T.wfs,Bool.and_true,Bool.and_eq_true,decide_eq_true_eq,aS,List.length_map] at h0 h1 h2 h3 h4
 simp[Op.t,T.wf,T.wfs,h0,h1,h2,h3,h4]
theorem Op.ps (x:Op):x.t.cell 0=i64 x.k∧x.t.cell 1=i64 x.a∧x.t.cell 2=i64 x.b∧x.t.cell 3=i64 x.n∧x.t.cell 4= .sl 1 (x.d.map u8):=⟨rfl,rfl,rfl,rfl,rfl⟩
end
section
open Go.RowKit Go.Proofs
def S9 (P:Program) (t:TypeId):Option (List TypeId):=match P.underlying t with|some (.struct fs)=>some (fs.toList.map (·.type))|_=>none
theorem qy {P:Program} {n:Nat} {t:TypeId} {ts:List TypeId} {xs:List T} (hu:S9 P t=some ts) (h:qK P (n+1) t xs):
 ∃ parts:List (List T),parts.length=ts.length∧(∀ (i:Nat) (u:TypeId) (p:List T),ts[i]? =some u→parts[i]? =some p→qK P n u p)∧xs=parts.flatten:=by
 unfold S9 at hu
 unfold qK at h
 split at hu
 · rename_i fs e
   injection hu with hu
   subst hu
   simp only[e] at h
   obtain⟨parts,h1,h2,h3⟩:=h
   refine⟨parts,by simpa using h1,fun i u p a b=>?_,h3⟩
   rw[List.getElem?_map,Option.map_eq_some_iff] at a
   obtain⟨f,a,rfl⟩:=a
   exact h2 i f p a b
 · cases hu
theorem jd {P:Program} {n:Nat} {t:TypeId} {k:IntKind} {xs:List T} (hu:P.underlying t=some (.int k)) (h:qK P (n+1) t xs):∃ i,xs= [.int k i]∧kindOk k i=true:=by
 unfold qK at h
 simpa only[hu] using h
theorem sJ {P:Program} {n:Nat} {t e:TypeId} {xs:List T} (hu:P.underlying t=some (.slice e)) (h:qK P (n+1) t xs):∃ ys,xs= [.sl (P.cellsOf e) ys]∧ys.length*P.bytesOf e≤reachBytes∧∀ y∈ys,∃ cs,qK P n e cs∧y=PS (P.cellsOf e) cs:=by
 unfold qK at h
 simpa only[hu] using h
theorem vN {α:Type} {f:α→T} {q:α→Prop}:∀ {ys:List T},(∀ y∈ys,∃ a,y=f a∧q a)→∃ l:List α,ys=l.map f∧∀ a∈l,q a
 | [],_=>⟨[],rfl,by simp⟩
 |y::ys,h=>by
  obtain⟨a,rfl,ha⟩:=h y List.mem_cons_self
  obtain⟨l,rfl,hl⟩:=vN (f:=f) (q:=q) (fun z hz=>h z (List.mem_cons_of_mem _ hz))
  exact⟨a::l,rfl,fun b hb=>(List.mem_cons.1 hb).elim (fun e=>e ▸ ha) (hl b)⟩
theorem qx {n b:Nat} (h:n*(b+1)≤reachBytes):n≤big:=by
 have h6:reachBytes≤big:=by decide
 have:n≤n*(b+1):=Nat.le_mul_of_pos_right _ (by omega)
 omega
theorem u_i:Try.prog.underlying 3=some (.int .i64):=by kernel_rfl
theorem adu:Try.prog.underlying 4=some .bool:=by kernel_rfl
theorem ahS:S9 Try.prog 66=some [3,3]:=by kernel_rfl
theorem UH {n:Nat} {xs:List T} (h:qK Try.prog (n+2) 66 xs):∃ x:Px,xs= [i64 x.a,i64 x.n]∧x.ok:=by
 obtain⟨parts,h1,h2,rfl⟩:=qy ahS h
 match parts,h1 with
 | [p0,p1],_=>
  obtain⟨f0,rfl,k0⟩:=jd u_i (h2 0 3 p0 rfl rfl)
  obtain⟨f1,rfl,k1⟩:=jd u_i (h2 1 3 p1 rfl rfl)
  exact⟨⟨f0,f1⟩,rfl,k0,k1⟩
theorem adr:Try.prog.underlying 34=some (.slice 66):=by kernel_rfl
theorem abZ:Try.prog.cellsOf 66=2:=by kernel_rfl
theorem adF:Try.prog.bytesOf 66=16:=by kernel_rfl
theorem Vu {n:Nat} {xs:List T} (h:qK Try.prog (n+3) 34 xs):∃ l:List Px,xs= [T.sl 2 (l.map Px.t)]∧dN Px.ok l∧l.length*16≤reachBytes:=by
 obtain⟨ys,rfl,h1,h2⟩:=sJ adr h
 rw[adF] at h1
 rw[abZ] at h2 ⊢
 obtain⟨l,rfl,hl⟩:=vN (f:=Px.t) (q:=Px.ok) (ys:=ys) fun y hy=>by
  obtain⟨cs,h3,rfl⟩:=h2 y hy
  obtain⟨x,rfl,hx⟩:=UH h3
  exact⟨x,rfl,hx⟩
 rw[List.length_map] at h1
 exact⟨l,rfl,⟨qx h1,hl⟩,h1⟩
theorem ahT:S9 Try.prog 72=some [3,66,3,3,3]:=by kernel_rfl
theorem adi {n:Nat} {xs:List T} (h:qK Try.prog (n+3) 72 xs):∃ x:Ru,xs= [i64 x.m,i64 x.x.a,i64 x.x.n,i64 x.v,i64 x.a,i64 x.n]∧x.ok:=by
 obtain⟨parts,h1,h2,rfl⟩:=qy ahT h
 match parts,h1 with
 | [p0,p1,p2,p3,p4],_=>
  obtain⟨f0,rfl,k0⟩:=jd u_i (h2 0 3 p0 rfl rfl)
  obtain⟨f1,rfl,k1⟩:=UH (h2 1 66 p1 rfl rfl)
  obtain⟨f2,rfl,k2⟩:=jd u_i (h2 2 3 p2 rfl rfl)
  obtain⟨f3,rfl,k3⟩:=jd u_i (h2 3 3 p3 rfl rfl)
  obtain⟨f4,rfl,k4⟩:=jd u_i (h2 4 3 p4 rfl rfl)
  exact⟨⟨f0,f1,f2,f3,f4⟩,rfl,k0,k1,k2,k3,k4⟩
theorem ads:Try.prog.underlying 46=some (.slice 72):=by kernel_rfl
theorem ab1:Try.prog.cellsOf 72=6:=by kernel_rfl
theorem adG:Try.prog.bytesOf 72=48:=by kernel_rfl
theorem KY {n:Nat} {xs:List T} (h:qK Try.prog (n+4) 46 xs):∃ l:List Ru,xs= [T.sl 6 (l.map Ru.t)]∧dN Ru.ok l∧l.length*48≤reachBytes:=by
 obtain⟨ys,rfl,h1,h2⟩:=sJ ads h
 rw[adG] at h1
 rw[ab1] at h2 ⊢
 obtain⟨l,rfl,hl⟩:=vN (f:=Ru.t) (q:=Ru.ok) (ys:=ys) fun y hy=>by
  obtain⟨cs,h3,rfl⟩:=h2 y hy
  obtain⟨x,rfl,hx⟩:=adi h3
  exact⟨x,rfl,hx⟩
 rw[List.length_map] at h1
 exact⟨l,rfl,⟨qx h1,hl⟩,h1⟩
theorem ahU:S9 Try.prog 48=some [3,3,46,46]:=by kernel_rfl
theorem adk {n:Nat} {xs:List T} (h:qK Try.prog (n+5) 48 xs):∃ x:Sd,xs= [i64 x.a,i64 x.r,T.sl 6 (x.i.map Ru.t),T.sl 6 (x.o.map Ru.t)]∧x.ok:=by
 obtain⟨parts,h1,h2,rfl⟩:=qy ahU h
 match parts,h1 with
 | [p0,p1,p2,p3],_=>
  obtain⟨f0,rfl,k0⟩:=jd u_i (h2 0 3 p0 rfl rfl)
  obtain⟨f1,rfl,k1⟩:=jd u_i (h2 1 3 p1 rfl rfl)
  obtain⟨f2,rfl,k2,_⟩:=KY (h2 2 46 p2 rfl rfl)
  obtain⟨f3,rfl,k3,_⟩:=KY (h2 3 46 p3 rfl rfl)
  exact⟨⟨f0,f1,f2,f3⟩,rfl,k0,k1,k2,k3⟩
theorem adt:Try.prog.underlying 43=some (.slice 48):=by kernel_rfl
theorem ab2:Try.prog.cellsOf 48=4:=by kernel_rfl
theorem adH:Try.prog.bytesOf 48=64:=by kernel_rfl
theorem Vx {n:Nat} {xs:List T} (h:qK Try.prog (n+6) 43 xs):∃ l:List Sd,xs= [T.sl 4 (l.map Sd.t)]∧dN Sd.ok l∧l.length*64≤reachBytes:=by
 obtain⟨ys,rfl,h1,h2⟩:=sJ adt h
 rw[adH] at h1
 rw[ab2] at h2 ⊢
 obtain⟨l,rfl,hl⟩:=vN (f:=Sd.t) (q:=Sd.ok) (ys:=ys) fun y hy=>by
  obtain⟨cs,h3,rfl⟩:=h2 y hy
  obtain⟨x,rfl,hx⟩:=adk h3
  exact⟨x,rfl,hx⟩
 rw[List.length_map] at h1
 exact⟨l,rfl,⟨qx h1,hl⟩,h1⟩
theorem ahQ:S9 Try.prog 45=some [3,3,3,3,34,43]:=by kernel_rfl
theorem adg {n:Nat} {xs:List T} (h:qK Try.prog (n+7) 45 xs):∃ x:Cf,xs= [i64 x.a,i64 x.d,i64 x.h,i64 x.k,T.sl 2 (x.w.map Px.t),T.sl 4 (x.s.map Sd.t)]∧x.ok:=by
 obtain⟨parts,h1,h2,rfl⟩:=qy ahQ h
 match parts,h1 with
 | [p0,p1,p2,p3,p4,p5],_=>
  obtain⟨f0,rfl,k0⟩:=jd u_i (h2 0 3 p0 rfl rfl)
  obtain⟨f1,rfl,k1⟩:=jd u_i (h2 1 3 p1 rfl rfl)
  obtain⟨f2,rfl,k2⟩:=jd u_i (h2 2 3 p2 rfl rfl)
  obtain⟨f3,rfl,k3⟩:=jd u_i (h2 3 3 p3 rfl rfl)
  obtain⟨f4,rfl,k4,_⟩:=Vu (h2 4 34 p4 rfl rfl)
  obtain⟨f5,rfl,k5,_⟩:=Vx (h2 5 43 p5 rfl rfl)
  exact⟨⟨f0,f1,f2,f3,f4,f5⟩,rfl,k0,k1,k2,k3,k4,k5⟩
theorem UJ:Try.prog.underlying 22=some (.slice 45):=by kernel_rfl
theorem abX:Try.prog.cellsOf 45=6:=by kernel_rfl
theorem adD:Try.prog.bytesOf 45=80:=by kernel_rfl
theorem Vt {n:Nat} {xs:List T} (h:qK Try.prog (n+8) 22 xs):∃ l:List Cf,xs= [T.sl 6 (l.map Cf.t)]∧dN Cf.ok l∧l.length*80≤reachBytes:=by
 obtain⟨ys,rfl,h1,h2⟩:=sJ UJ h
 rw[adD] at h1
 rw[abX] at h2 ⊢
 obtain⟨l,rfl,hl⟩:=vN (f:=Cf.t) (q:=Cf.ok) (ys:=ys) fun y hy=>by
  obtain⟨cs,h3,rfl⟩:=h2 y hy
  obtain⟨x,rfl,hx⟩:=adg h3
  exact⟨x,rfl,hx⟩
 rw[List.length_map] at h1
 exact⟨l,rfl,⟨qx h1,hl⟩,h1⟩
theorem aaq:qc Try.prog 8 22=true:=by kernel_rfl
theorem abI:qc Try.prog 8 3=true:=by kernel_rfl
end
section
open Go.RowKit Go.Proofs Go.ChangeShapes
theorem xW {H:Type} {enc:TypeId×Value→H} {P:Program} (hl:laidOutB P=true) {W W':World} (hb:Below W.heap.size W W'):∀ {ts:List TypeId} {vs:List Value} {ds:List (DataW H)} {ps:List MemPlace},
 (∀ t∈ts,P.readableRec t=true∧t < P.types.size)→DataW.TrodAll enc P W 0 (fun _=>true) true ts vs ds ps→(∀ x∈ps,x.block < W.heap.size)→DataW.TrodAll enc P W' 0 (fun b=>decide (b < W.heap.size)) true ts vs ds ps
 | [],vs,ds,ps,_,h,_=>by
  obtain⟨rfl,rfl,rfl⟩:=trodAll_nil h
  exact h
 |t::ts,vs,ds,ps,hr,h,hlt=>by
  obtain⟨v,vs',d,ds',p,q,rfl,rfl,rfl,hd,hrest⟩:=trodAll_cons h
  exact⟨p,q,Below.trod hl (hr t List.mem_cons_self).1 (hr t List.mem_cons_self).2 hd hb (fun x hx=>hlt x (List.mem_append_left _ hx)),xW hl hb (fun s hs=>hr s (List.mem_cons_of_mem _ hs)) hrest (fun x hx=>hlt x (List.mem_append_right _ hx)),rfl⟩
theorem Cb {H:Type} {enc:TypeId×Value→H} {P:Program} {w:World} {sp:Nat→Bool} {D:Nat}:∀ {ts:List TypeId} {vs:List Value} {ds:List (DataW H)} {ps:List MemPlace},(∀ t∈ts,qc P D t=true)→DataW.TrodAll enc P w 0 sp true ts vs ds ps→
 (∀ n∈DataW.weightsEach P ts ds,n≤reachBytes)→vs.length=ts.length∧∀ (i:Nat) (t:TypeId) (v:Value),ts[i]? =some t→vs[i]? =some v→∃ xs,qK P D t xs∧yI (fun b=>b < w.heap.size) w xs v.cells.toList
 | [],vs,ds,ps,_,h,_=>by
  obtain⟨rfl,rfl,rfl⟩:=trodAll_nil h
  exact⟨rfl,by simp⟩
 |t::ts,vs,ds,ps,hr,h,hw=>by
  obtain⟨v,vs',d,ds',p,q,rfl,rfl,rfl,hd,hrest⟩:=trodAll_cons h
  obtain⟨fuel,hf⟩:=hd
  simp only[DataW.weightsEach,List.mem_append] at hw
  obtain⟨g1,g2⟩:=Cb (fun s hs=>hr s (List.mem_cons_of_mem _ hs)) hrest (fun n hn=>hw n (.inr hn))
  refine⟨by simp[g1],fun i u w' h1 h2=>?_⟩
  cases i with
  |zero=>
   simp at h1 h2
   subst h1; subst h2
   exact Ef D t (hr t List.mem_cons_self) fuel _ d p hf (fun n hn=>hw n (.inl hn))
  |succ i=>exact g2 i u w' (by simpa using h1) (by simpa using h2)
theorem Ij {F:Nat→Prop} {w:World} {x:T} {v:Value} (h:yI F w [x] v.cells.toList) (h1:v.oneCell'=true):Rd F w x v:=by
 rw[cells_one h1] at h
 exact h.2.2 0 x v rfl rfl
theorem ok_slice {P:Program} {w:World} {base:Nat} {t e:TypeId} {v:Value} (hu:P.underlying t=some (.slice e)) (h:Value.okWide P w .any base t v):v.oneCell'=true:=by
 simp only[Value.okWide,hu,Cell.okWide,Cell.ok] at h
 cases v<;>simp_all [Value.oneCell']
theorem ok_int {P:Program} {w:World} {base:Nat} {t:TypeId} {k:IntKind} {v:Value} (hu:P.underlying t=some (.int k)) (h:Value.okWide P w .any base t v):v.oneCell'=true:=by
 simp only[Value.okWide,hu,Cell.okWide,Cell.ok] at h
 cases v<;>simp_all [Value.oneCell']
theorem U8 [Lv] (he:lF env) {H:Type} {enc:TypeId×Value→H} {f:FuncId} {fn:Func} {s:ChangeSpec} {apart:Bool} {W:World} {args:Array Value} {ds gs:List (DataW H)} {before:List MemPlace} (M:Nat) (ts:List T)
 (hlaid:laidOutB Try.prog=true) (hread:∀ t∈fn.params.toList,Try.prog.readableRec t=true∧t < Try.prog.types.size) (hres:fn.resultTypes= #[4]) (hvars:s.vars= [])
 (hW:DataW.Whole enc Try.prog fn.params.toList s.vars apart W args.toList ds gs before) (hspec:(s.fn H (ds++gs)).results= [.lit (.bool true)]∧(s.fn H (ds++gs)).args=ds∧(s.fn H (ds++gs)).vars= [])
 (hx:env.ext f=none) (hm:env.mode f=0) (hc:aB env M f ts= .ok (.bool true)) (hl:args.toList.length=ts.length) (ha:∀ (i:Nat) (x:T) (v:Value),ts[i]? =some x→args.toList[i]? =some v→Rd (fun b=>b < W.heap.size) W x v):
 Calls Try.prog f args W fun e W'=>∃ v,e= .returned v∧s.post enc Try.prog fn apart true false false W args v W':=by
 have h:=BA (F:=fun b=>b < W.heap.size) (w:=W) (vals:=args.toList) he hx (by rw[hc]; simp) hl ha (fun b hb=>hb)
 rw[Array.toArray_toList] at h
 refine Calls.mono h ?_
 rintro e W' ⟨v,rfl,x,F',h1,h2,h3⟩
 rw[hc] at h1
 injection h1 with h1
 subst h1
 have hv:v= .bool true:=by
  cases h2 with
  |frozen _ h=>cases h; rfl
 subst hv
 refine⟨_,rfl,?_⟩
 have hb:Below W.heap.size W W':=⟨h3.os,h3.tape,h3.output,h3.size,h3.old⟩
 obtain⟨p,q,hA,hV,rfl,hz,hn⟩:=hW
 have hlt:∀ x∈p++q,x.block < W.heap.size:=fun x hx=>(DataW.Whole.lt ⟨p,q,hA,hV,rfl,hz,hn⟩) x hx
 have hV':=hV
 rw[hvars] at hV'
 obtain⟨rfl,rfl⟩:=trodVars_none hV'
 obtain⟨s1,s2,s3⟩:=hspec
 refine⟨ds,[],p++ [],[],p,[],⟨p,[],hA,hV,rfl,hz,hn⟩,?_,?_,?_,hb.frame _,fun h=>by cases h⟩
 · rw[hres,s1]
   exact trodAll_mk1 (shut_bool adu true)
 · rw[s2]
   exact xW hlaid hb hread hA (fun x hx=>hlt x (by simpa using hx))
 · rw[s3]
   rw[hvars] at hV ⊢
   exact hV
theorem ahj {args:Array Value} (h:args.toList.length=4):∃ a b c d,args= #[a,b,c,d]:=by
 obtain⟨l⟩:=args
 match l,h with
 | [a,b,c,d],_=>exact⟨a,b,c,d,rfl⟩
theorem ahy {α:Type} {l:List α} (h:l.length=4):∃ a b c d,l= [a,b,c,d]:=by
 match l,h with
 | [a,b,c,d],_=>exact⟨a,b,c,d,rfl⟩
theorem Ai {H:Type} {enc:TypeId×Value→H} {P:Program} {w:World} {base:Nat} {sp:Nat→Bool} {held:Bool}:∀ {ts:List TypeId} {vs:List Value} {ds:List (DataW H)} {ps:List MemPlace},DataW.TrodAll enc P w base sp held ts vs ds ps→ds.length=ts.length
 | [],vs,ds,ps,h=>by
  obtain⟨rfl,rfl,rfl⟩:=trodAll_nil h
  rfl
 |t::ts,vs,ds,ps,h=>by
  obtain⟨v,vs',d,ds',p,q,rfl,rfl,rfl,hd,hrest⟩:=trodAll_cons h
  simp[Ai hrest]
theorem ahF {F:Nat→Prop} {w:World} {x0 x1 x2 x3:T} {v0 v1 v2 v3:Value} (h0:Rd F w x0 v0) (h1:Rd F w x1 v1) (h2:Rd F w x2 v2) (h3:Rd F w x3 v3):∀ (i:Nat) (x:T) (v:Value),[x0,x1,x2,x3][i]? =some x→(#[v0,v1,v2,v3]:Array Value).toList[i]? =some v→Rd F w x v:=by
 intro i x v e1 e2
 match i with
 |0=>cases e1; cases e2; exact h0
 |1=>cases e1; cases e2; exact h1
 |2=>cases e1; cases e2; exact h2
 |3=>cases e1; cases e2; exact h3
 |_+4=>cases e1
end
section
open Go.RowKit Go.Proofs
variable [Lv]
theorem q46 (N:Nat) (n:Int):aB env (N+1) 46 [i64 n]=W [i64 n] (bif decide (n > 0) then rB (decide (n≤4294967295)) else rB false):=by kernel_rfl
theorem q47 (N:Nat) (n:Int):aB env (N+1) 47 [i64 n]=W [i64 n] (bif n==0 then rB true else bif decide (n≥3) then rB (decide (n≤65535)) else rB false):=by kernel_rfl
theorem q61 (N:Nat) (l:List Ru) (b:Bool):aB env (N+1) 61 [.sl 6 (l.map Ru.t),.bool b]=W [.sl 6 (l.map Ru.t),.bool b] (bif decide ((↑(List.map Ru.t l).length:Int)≤8) then jJ N 64 [T.sl 6 (List.map Ru.t l),T.fn 74 [] [(T.bool b).ref]] fun b=>rB !b else rB false):=by kernel_rfl
theorem q74 (N:Nat) (r:Ru) (b:Bool):aB env (N+1) 74 [r.t,.ref (.bool b)]=W [r.t,.ref (.bool b)] (jJ N 75 [r.t,T.bool b] fun b=>rB !b):=by kernel_rfl
theorem q48 (N:Nat) (s:Sd):aB env (N+1) 48 [s.t]=W [s.t] (jJ N 46 [i64 s.a] fun b=>bif b then bif decide (s.r≥1) then bif decide (s.r≤3) then jJ N 61 [T.sl 6 (List.map Ru.t s.i),T.bool true] fun b=>bif b then cl N 61 [T.sl 6 (List.map Ru.t s.o),T.bool false] fun x=>aj.ok x else rB false else rB false else rB false else rB false):=by kernel_rfl
def xJ (c:Cf) (es:List (T×T×Nat)) (k:Nat) (i:Int):St:=⟨slots 98 [(1,.ptr 0 0),(3,.mp 1),(49,.t (.sl 2 (c.w.map Px.t))),(50,.t (i64 (c.w.map Px.t).length)),(51,.t (i64 i))],[.box 45 6 (.t c.t),.map es k]⟩
def o7 (c:Cf) (es:List (T×T×Nat)) (k:Nat) (i:Int):St:=⟨slots 98 [(6,.mp 0),(76,.t (.sl 4 (c.s.map Sd.t))),(77,.t (i64 (c.s.map Sd.t).length)),(78,.t (i64 i))],[.map es k]⟩
theorem q23 (N:Nat) (c:Cf):aB env (N+1) 23 [c.t]=W [c.t] (jJ N 46 [i64 c.a] fun b=>bif !b then rB false else jJ N 46 [i64 c.d] fun b=>bif !b then rB false else jJ N 47 [i64 c.h] fun b=>bif !b then rB false else bif decide (c.k < 1) then rB false else bif decide (c.k > 1000) then rB false else bif decide ((↑(List.map Px.t c.w).length:Int) > 8) then rB false else bif decide ((↑(List.map Sd.t c.s).length:Int) > 8) then rB false else eG env N 23 5 (xJ c [] 0 0)):=by kernel_rfl
theorem aaD (N:Nat) (c:Cf) (es:List (T×T×Nat)) (k:Nat) (i:Int):aT env N 23 0 5 (xJ c es k i)=bif decide (i < (↑(List.map Px.t c.w).length:Int)) then dF (List.map Px.t c.w) i fun e=>chk (e.cells.length==2&& !e.dS) (chk (jg [0,0] e) (eY [0,0] e es (chk (jg [0,0] e) (eY [0,0] e es (chk (decide (k≤140737488355328)) (aK (mM (es++ [(e,i64 0,k)]) (↑k:Int)) fun kV=>match (es++ [(e,i64 0,k)])[kV]? with|some (F8,fst,b)=>chk (jg [0,0] e) (eY [0,0] e ((es++ [(e,i64 0,k)]).set kV (F8,i64 1,b)) (jJ N 41 [e] fun b_1=>bif !b_1 then aj.ok (Ex.ret,{tmps:=slots 98 [(2,PV.t (T.bool false))],heap:=[]}) else aj.ok (Ex.norm,xJ c ((es++ [(e,i64 0,k)]).set kV (F8,i64 1,b)) (k+1) (IntKind.i64.wrap (i+1)))) fun x v x_1=>iT IntKind.i64 v fun a=>bif decide (a > 1) then aj.ok (Ex.ret,{tmps:=slots 98 [(2,PV.t (T.bool false))],heap:=[]}) else jJ N 41 [e] fun b_1=>bif !b_1 then aj.ok (Ex.ret,{tmps:=slots 98 [(2,PV.t (T.bool false))],heap:=[]}) else aj.ok (Ex.norm,xJ c ((es++ [(e,i64 0,k)]).set kV (F8,i64 1,b)) (k+1) (IntKind.i64.wrap (i+1))))|none=>aj.stuck)) fun x v b=>chk (decide (b≤140737488355328)) (aK (mM es (↑b:Int)) fun kV=>match es[kV]? with|some (F8,fst,b)=>chk (jg [0,0] e) (eY [0,0] e (es.set kV (F8,i64 1,b)) (jJ N 41 [e] fun b_1=>bif !b_1 then aj.ok (Ex.ret,{tmps:=slots 98 [(2,PV.t (T.bool false))],heap:=[]}) else aj.ok (Ex.norm,xJ c (es.set kV (F8,i64 1,b)) k (IntKind.i64.wrap (i+1)))) fun x v x_1=>iT IntKind.i64 v fun a=>bif decide (a > 1) then aj.ok (Ex.ret,{tmps:=slots 98 [(2,PV.t (T.bool false))],heap:=[]}) else jJ N 41 [e] fun b_1=>bif !b_1 then aj.ok (Ex.ret,{tmps:=slots 98 [(2,PV.t (T.bool false))],heap:=[]}) else aj.ok (Ex.norm,xJ c (es.set kV (F8,i64 1,b)) k (IntKind.i64.wrap (i+1))))|none=>aj.stuck))) fun x v x_1=>iT IntKind.i64 v fun a=>chk (jg [0,0] e) (eY [0,0] e es (chk (decide (k≤140737488355328)) (aK (mM (es++ [(e,i64 0,k)]) (↑k:Int)) fun kV=>match (es++ [(e,i64 0,k)])[kV]? with|some (F8,fst,b)=>chk (jg [0,0] e) (eY [0,0] e ((es++ [(e,i64 0,k)]).set kV (F8,i64 (IntKind.i64.wrap (a+1)),b)) (jJ N 41 [e] fun b_1=>bif !b_1 then aj.ok (Ex.ret,{tmps:=slots 98 [(2,PV.t (T.bool false))],heap:=[]}) else aj.ok (Ex.norm,xJ c ((es++ [(e,i64 0,k)]).set kV (F8,i64 (IntKind.i64.wrap (a+1)),b)) (k+1) (IntKind.i64.wrap (i+1)))) fun x v x_2=>iT IntKind.i64 v fun a_1=>bif decide (a_1 > 1) then aj.ok (Ex.ret,{tmps:=slots 98 [(2,PV.t (T.bool false))],heap:=[]}) else jJ N 41 [e] fun b_1=>bif !b_1 then aj.ok (Ex.ret,{tmps:=slots 98 [(2,PV.t (T.bool false))],heap:=[]}) else aj.ok (Ex.norm,xJ c ((es++ [(e,i64 0,k)]).set kV (F8,i64 (IntKind.i64.wrap (a+1)),b)) (k+1) (IntKind.i64.wrap (i+1))))|none=>aj.stuck)) fun x v b=>chk (decide (b≤140737488355328)) (aK (mM es (↑b:Int)) fun kV=>match es[kV]? with|some (F8,fst,b)=>chk (jg [0,0] e) (eY [0,0] e (es.set kV (F8,i64 (IntKind.i64.wrap (a+1)),b)) (jJ N 41 [e] fun b_1=>bif !b_1 then aj.ok (Ex.ret,{tmps:=slots 98 [(2,PV.t (T.bool false))],heap:=[]}) else aj.ok (Ex.norm,xJ c (es.set kV (F8,i64 (IntKind.i64.wrap (a+1)),b)) k (IntKind.i64.wrap (i+1)))) fun x v x_2=>iT IntKind.i64 v fun a_1=>bif decide (a_1 > 1) then aj.ok (Ex.ret,{tmps:=slots 98 [(2,PV.t (T.bool false))],heap:=[]}) else jJ N 41 [e] fun b_1=>bif !b_1 then aj.ok (Ex.ret,{tmps:=slots 98 [(2,PV.t (T.bool false))],heap:=[]}) else aj.ok (Ex.norm,xJ c (es.set kV (F8,i64 (IntKind.i64.wrap (a+1)),b)) k (IntKind.i64.wrap (i+1))))|none=>aj.stuck)))) else aj.ok (Ex.exit 0,{tmps:=slots 98 [(1,PV.ptr 0 0)],heap:=[au.box 45 6 (PV.t c.t)]}):=by kernel_rfl
theorem LZ (N:Nat) (c:Cf):bK env N 23 0 5 (bU env 23) (.exit 0) (⟨slots 98 [(1,.ptr 0 0)],[.box 45 6 (.t c.t)]⟩)=chk (jg [0] (i64 c.a)) (eY [0] (i64 c.a) [] (eG env N 23 13 (o7 c [(i64 c.a,i64 1,0)] 1 0)) fun i x b=>eG env N 23 13 (o7 c [] 0 0)):=by kernel_rfl
theorem Sl (N:Nat):bK env N 23 0 5 (bU env 23) (.ret) (⟨slots 98 [(2,.t (.bool false))],[]⟩)=rB false:=by kernel_rfl
theorem TT (N:Nat) (c:Cf) (es:List (T×T×Nat)) (k:Nat) (i:Int):aT env N 23 0 13 (o7 c es k i)=bif decide (i < (↑(List.map Sd.t c.s).length:Int)) then dF (List.map Sd.t c.s) i fun e=>chk (e.cells.length==4&& !e.dS) (chk (jg [0] (e.ah 0 1 false)) (eY [0] (e.ah 0 1 false) es (chk (jg [0] (e.ah 0 1 false)) (eY [0] (e.ah 0 1 false) es (chk (jg [0] (e.ah 0 1 false)) (eY [0] (e.ah 0 1 false) (es++ [(e.ah 0 1 false,i64 1,k)]) (jJ N 48 [e] fun b=>bif !b then aj.ok (Ex.ret,{tmps:=slots 98 [(2,PV.t (T.bool false))],heap:=[]}) else aj.ok (Ex.norm,o7 c (es++ [(e.ah 0 1 false,i64 1,k)]) (k+1) (IntKind.i64.wrap (i+1)))) fun x v x_1=>iT IntKind.i64 v fun a=>bif decide (a > 1) then aj.ok (Ex.ret,{tmps:=slots 98 [(2,PV.t (T.bool false))],heap:=[]}) else jJ N 48 [e] fun b=>bif !b then aj.ok (Ex.ret,{tmps:=slots 98 [(2,PV.t (T.bool false))],heap:=[]}) else aj.ok (Ex.norm,o7 c (es++ [(e.ah 0 1 false,i64 1,k)]) (k+1) (IntKind.i64.wrap (i+1))))) fun kV x b=>chk (jg [0] (e.ah 0 1 false)) (eY [0] (e.ah 0 1 false) (es.set kV (e.ah 0 1 false,i64 1,b)) (jJ N 48 [e] fun b_1=>bif !b_1 then aj.ok (Ex.ret,{tmps:=slots 98 [(2,PV.t (T.bool false))],heap:=[]}) else aj.ok (Ex.norm,o7 c (es.set kV (e.ah 0 1 false,i64 1,b)) k (IntKind.i64.wrap (i+1)))) fun x v x_1=>iT IntKind.i64 v fun a=>bif decide (a > 1) then aj.ok (Ex.ret,{tmps:=slots 98 [(2,PV.t (T.bool false))],heap:=[]}) else jJ N 48 [e] fun b_1=>bif !b_1 then aj.ok (Ex.ret,{tmps:=slots 98 [(2,PV.t (T.bool false))],heap:=[]}) else aj.ok (Ex.norm,o7 c (es.set kV (e.ah 0 1 false,i64 1,b)) k (IntKind.i64.wrap (i+1)))))) fun x v x_1=>iT IntKind.i64 v fun a=>chk (jg [0] (e.ah 0 1 false)) (eY [0] (e.ah 0 1 false) es (chk (jg [0] (e.ah 0 1 false)) (eY [0] (e.ah 0 1 false) (es++ [(e.ah 0 1 false,i64 (IntKind.i64.wrap (a+1)),k)]) (jJ N 48 [e] fun b=>bif !b then aj.ok (Ex.ret,{tmps:=slots 98 [(2,PV.t (T.bool false))],heap:=[]}) else aj.ok (Ex.norm,o7 c (es++ [(e.ah 0 1 false,i64 (IntKind.i64.wrap (a+1)),k)]) (k+1) (IntKind.i64.wrap (i+1)))) fun x v x_2=>iT IntKind.i64 v fun a_1=>bif decide (a_1 > 1) then aj.ok (Ex.ret,{tmps:=slots 98 [(2,PV.t (T.bool false))],heap:=[]}) else jJ N 48 [e] fun b=>bif !b then aj.ok (Ex.ret,{tmps:=slots 98 [(2,PV.t (T.bool false))],heap:=[]}) else aj.ok (Ex.norm,o7 c (es++ [(e.ah 0 1 false,i64 (IntKind.i64.wrap (a+1)),k)]) (k+1) (IntKind.i64.wrap (i+1))))) fun kV x b=>chk (jg [0] (e.ah 0 1 false)) (eY [0] (e.ah 0 1 false) (es.set kV (e.ah 0 1 false,i64 (IntKind.i64.wrap (a+1)),b)) (jJ N 48 [e] fun b_1=>bif !b_1 then aj.ok (Ex.ret,{tmps:=slots 98 [(2,PV.t (T.bool false))],heap:=[]}) else aj.ok (Ex.norm,o7 c (es.set kV (e.ah 0 1 false,i64 (IntKind.i64.wrap (a+1)),b)) k (IntKind.i64.wrap (i+1)))) fun x v x_2=>iT IntKind.i64 v fun a_1=>bif decide (a_1 > 1) then aj.ok (Ex.ret,{tmps:=slots 98 [(2,PV.t (T.bool false))],heap:=[]}) else jJ N 48 [e] fun b_1=>bif !b_1 then aj.ok (Ex.ret,{tmps:=slots 98 [(2,PV.t (T.bool false))],heap:=[]}) else aj.ok (Ex.norm,o7 c (es.set kV (e.ah 0 1 false,i64 (IntKind.i64.wrap (a+1)),b)) k (IntKind.i64.wrap (i+1))))))) else aj.ok (Ex.exit 2,{tmps:=slots 98 [],heap:=[]}):=by kernel_rfl
theorem Ju (N:Nat):bK env N 23 0 13 (bU env 23) (.exit 2) (⟨slots 98 [],[]⟩)=rB true:=by kernel_rfl
theorem Pj (N:Nat):bK env N 23 0 13 (bU env 23) (.ret) (⟨slots 98 [(2,.t (.bool false))],[]⟩)=rB false:=by kernel_rfl
def Ob (c:Cf) (i:Int):St:=⟨slots 39 [(1,.ptr 0 0),(3,.t (i64 i))],[.box 45 6 (.t c.t)]⟩
theorem q26 (N:Nat) (c:Cf):aB env (N+1) 26 [c.t]=W [c.t] (eG env N 26 2 (Ob c 0)):=by kernel_rfl
theorem aaF (N:Nat) (c:Cf) (i:Int):aT env N 26 0 2 (Ob c i)=bif decide (i < (↑(List.map Sd.t c.s).length:Int)) then dF (List.map Sd.t c.s) i fun e=>jF (e.ah 2 1 false) fun n=>bif decide (n > 20) then aj.ok (Ex.ret,{tmps:=slots 39 [(2,PV.t (T.bool false))],heap:=[]}) else dF (List.map Sd.t c.s) i fun e=>jF (e.ah 3 1 false) fun n=>bif decide (n > 20) then aj.ok (Ex.ret,{tmps:=slots 39 [(2,PV.t (T.bool false))],heap:=[]}) else aj.ok (Ex.norm,Ob c (IntKind.i64.wrap (i+1))) else aj.ok (Ex.exit 0,{tmps:=slots 39 [(1,PV.ptr 0 0)],heap:=[au.box 45 6 (PV.t c.t)]}):=by kernel_rfl
theorem L9 (N:Nat) (c:Cf):bK env N 26 0 2 (bU env 26) (.exit 0) (⟨slots 39 [(1,.ptr 0 0)],[.box 45 6 (.t c.t)]⟩)=bif decide ((↑(List.map Px.t c.w).length:Int)≤20) then rB (decide ((↑(List.map Sd.t c.s).length:Int)≤20)) else rB false:=by kernel_rfl
theorem Sr (N:Nat):bK env N 26 0 2 (bU env 26) (.ret) (⟨slots 39 [(2,.t (.bool false))],[]⟩)=rB false:=by kernel_rfl
end
section
open Go.RowKit Go.Proofs
variable [Lv]
theorem q59 (N:Nat) (a n:Int):aB env (N+1) 59 [i64 a,i64 n]=W [i64 a,i64 n] (chk (decide (0≤IntKind.i64.wrap (32 - dP true [dP false [32] n] 0))) (chk (decide (0≤IntKind.i64.wrap (32 - dP true [dP false [32] n] 0))) (rI (IntKind.i64.wrap ((IntKind.i64.wrap (↑(BitVec.ofInt 64 a&&& BitVec.ofInt 64 4294967295).toNat:Int)).fdiv (2 ^ min (IntKind.i64.wrap (32 - dP true [dP false [32] n] 0)).toNat 64)*2 ^ min (IntKind.i64.wrap (32 - dP true [dP false [32] n] 0)).toNat 64))))):=by kernel_rfl
theorem q41 (N:Nat) (x:Px):aB env (N+1) 41 [x.t]=W [x.t] (bif decide (x.n≥0) then bif decide (x.n≤32) then Qy N 59 [i64 x.a,i64 x.n] fun b=>rB (x.a==b) else rB false else rB false):=by kernel_rfl
theorem q91 (N:Nat) (r:Ru) (lo hi:Int):aB env (N+1) 91 [r.t,i64 lo,i64 hi]=W [r.t,i64 lo,i64 hi] (bif r.x.a==0&&(r.x.n==0&&true) then bif decide (r.v≥lo) then rB (decide (r.v≤hi)) else rB false else rB false):=by kernel_rfl
theorem q75 (N:Nat) (r:Ru) (b:Bool):aB env (N+1) 75 [r.t,.bool b]=W [r.t,.bool b] (cl N 85 [r.t] fun x=>aH x 0 fun y=>aH x 1 fun y_1=>chk (y.cells.length==2&& !y.dS) (bT y_1 fun b_1=>bif !b_1 then rB false else vg env (aJ env N) (y.ah 0 1 false) [r.t] fun r_1=>bT r_1 fun JR=>bif !JR then rB false else bif b then bif r.m==4 then rB false else bif r.a==0 then rB (r.n==0) else bif r.a==1 then bif !b then rB (r.n==0) else rB false else bif r.a==2 then bif b then bif decide (r.n > 0) then rB (decide (r.n < 400)) else rB false else rB false else bif r.a==3 then bif !b then bif decide (r.n > 0) then rB (decide (r.n≤8)) else rB false else rB false else rB false else bif r.a==0 then rB (r.n==0) else bif r.a==1 then bif !b then rB (r.n==0) else rB false else bif r.a==2 then bif b then bif decide (r.n > 0) then rB (decide (r.n < 400)) else rB false else rB false else bif r.a==3 then bif !b then bif decide (r.n > 0) then rB (decide (r.n≤8)) else rB false else rB false else rB false)):=by kernel_rfl
theorem q78 (N:Nat) (r:Ru) (c:Int):aB env (N+1) 78 [r.t,i64 c]=W [r.t,i64 c] (bif r.m==0 then rB true else bif r.m==4 then rB (r.v==c) else rB false):=by kernel_rfl
theorem q85 (N:Nat) (r:Ru):aB env (N+1) 85 [r.t]=W [r.t] (bif decide (r.m < 0) then aj.ok (T.ak [T.agg [T.lT,T.lT],T.bool false]) else bif decide (r.m≥5) then aj.ok (T.ak [T.agg [T.lT,T.lT],T.bool false]) else cl N 88 [] fun x=>chk (decide (0≤r.m)&&decide (r.m < 5)) (chk (x.cells.length==10&& !x.dS&&true&&decide (r.m.toNat*2+2≤10)) (chk ((x.ah (r.m.toNat*2) 2 true).cells.length==2&& !(x.ah (r.m.toNat*2) 2 true).dS) (aj.ok (T.ak [x.ah (r.m.toNat*2) 2 true,T.bool true]))))):=by kernel_rfl
theorem q88 (N:Nat):aB env (N+1) 88 []=W [] (aj.ok (T.agg [T.fn 90 [] [],T.fn 92 [] [],T.fn 93 [] [],T.fn 94 [] [],T.fn 96 [] [],T.fn 97 [] [],T.fn 99 [] [],T.fn 100 [] [],T.fn 101 [] [],T.fn 102 [] []])):=by kernel_rfl
theorem q90 (N:Nat) (r:Ru):aB env (N+1) 90 [r.t]=W [r.t] (cl N 91 [r.t,i64 0,i64 0] fun x=>aj.ok x):=by kernel_rfl
theorem q93 (N:Nat) (r:Ru):aB env (N+1) 93 [r.t]=W [r.t] (jJ N 41 [r.x.t] fun b=>bif b then rB (r.v==0) else rB false):=by kernel_rfl
theorem q96 (N:Nat) (r:Ru):aB env (N+1) 96 [r.t]=W [r.t] (cl N 91 [r.t,i64 1,i64 4294967295] fun x=>aj.ok x):=by kernel_rfl
theorem q99 (N:Nat) (r:Ru):aB env (N+1) 99 [r.t]=W [r.t] (cl N 91 [r.t,i64 0,i64 32] fun x=>aj.ok x):=by kernel_rfl
theorem ahD (N:Nat) (r:Ru):aB env (N+1) 101 [r.t]=W [r.t] (cl N 91 [r.t,i64 0,i64 3] fun x=>aj.ok x):=by kernel_rfl
theorem q77 (N:Nat) (r:Ru) (c:Int):aB env (N+1) 77 [r.t,.ref (i64 c)]=W [r.t,.ref (i64 c)] (cl N 78 [r.t,i64 c] fun x=>aj.ok x):=by kernel_rfl
theorem q81 (N:Nat) (r:Ru) (c:Int):aB env (N+1) 81 [r.t,.ref (i64 c)]=W [r.t,.ref (i64 c)] (bif r.m==4 then rB (r.v !=c) else rB false):=by kernel_rfl
def VX (l:List Ru) (f:T) (i:Int):St:=⟨slots 19 [(0,.t (.sl 6 (l.map Ru.t))),(1,.t f),(7,.t (i64 (l.map Ru.t).length)),(8,.t (i64 i))],[]⟩
theorem q76 (N:Nat) (l:List Ru) (f:T):aB env (N+1) 76 [.sl 6 (l.map Ru.t),f]=W [.sl 6 (l.map Ru.t),f] (eG env N 76 2 (VX l f 0)):=by kernel_rfl
theorem aeS (N:Nat) (l:List Ru) (f:T) (i:Int):aT env N 76 0 2 (VX l f i)=bif decide (i < (↑(List.map Ru.t l).length:Int)) then dF (List.map Ru.t l) i fun e=>vg env (aJ env N) f [e] fun r=>bT r fun v=>bif v then aj.ok (Ex.ret,{tmps:=slots 19 [(4,PV.t (i64 i))],heap:=[]}) else aj.ok (Ex.norm,VX l f (IntKind.i64.wrap (i+1))) else aj.ok (Ex.exit 0,{tmps:=slots 19 [],heap:=[]}):=by kernel_rfl
theorem SN (N:Nat) (i:Int):bK env N 76 0 2 (bU env 76) (.ret) (⟨slots 19 [(4,.t (i64 i))],[]⟩)=rI i:=by kernel_rfl
theorem MW (N:Nat):bK env N 76 0 2 (bU env 76) (.exit 0) (⟨slots 19 [],[]⟩)=rI (-1):=by kernel_rfl
theorem q64 (N:Nat) (l:List Ru) (f:T):aB env (N+1) 64 [.sl 6 (l.map Ru.t),f]=W [.sl 6 (l.map Ru.t),f] (Qy N 76 [T.sl 6 (List.map Ru.t l),f] fun a=>rB (decide (a≥0))):=by kernel_rfl
theorem k79 (N:Nat) (l:List T) (f x:T) {β:Type} (K:PV→List au→aj β):kL env (aJ env N) N 79 [.own 1,.t f] [.kK 3 1 x,.row 72 6 l] K=cl N 76 [T.sl 6 l,f] fun x_1=>chk x_1.plain (iT IntKind.i64 x_1 fun a=>bif a== -1 then K (PV.own 1) [au.kK 3 1 x,au.row 72 6 l] else iT IntKind.i64 x_1 fun a=>Jc env (aJ env N) N 79 2 5 K {tmps:=slots 42 [(0,PV.own 1),(1,PV.t f),(5,PV.t x_1),(6,PV.t (i64 (IntKind.i64.wrap (a+1))))],heap:=[au.kK 3 1 x,au.row 72 6 l]}):=by kernel_rfl
def Oa (l:List T) (f x:T) (i j:Int):St:=⟨slots 42 [(0,.own 1),(1,.t f),(5,.t (i64 i)),(6,.t (i64 j))],[.kK 3 1 x,.row 72 6 l]⟩
theorem Uu (N:Nat) (l:List T) (f x:T) (i j:Int):um env (aJ env N) N 79 2 5 (Oa l f x i j)=bif decide (j < (↑l.length:Int)) then chk (decide (0≤j)&&decide (j < (↑l.length:Int))) (chk ((l.getD j.toNat T.dh).cells.length==6&& !(l.getD j.toNat T.dh).dS) (vg env (aJ env N) f [l.getD j.toNat T.dh] fun r=>bT r fun b=>bif !b then chk (decide (0≤i)&&decide (i < (↑l.length:Int))) (chk ((l.getD j.toNat T.dh).cells.length==6&& !(l.getD j.toNat T.dh).dS) (aj.ok (Ex.norm,Oa (l.set i.toNat (l.getD j.toNat T.dh)) f x (IntKind.i64.wrap (i+1)) (IntKind.i64.wrap (j+1))))) else aj.ok (Ex.norm,Oa l f x i (IntKind.i64.wrap (j+1))))) else aj.ok (Ex.exit 0,{tmps:=slots 42 [(0,PV.own 1),(5,PV.t (i64 i))],heap:=[au.kK 3 1 x,au.row 72 6 l]}):=by kernel_rfl
theorem Jb (N:Nat) (l:List T) (x:T) (i:Int) {β:Type} (K:PV→List au→aj β):Jw env (aJ env N) N 79 2 5 K (.exit 0) (⟨slots 42 [(0,.own 1),(5,.t (i64 i))],[.kK 3 1 x,.row 72 6 l]⟩)=chk (decide (0≤i)&&decide (i≤(↑l.length:Int))) (chk (decide (0+i.toNat≤0+l.length)&&decide (0+l.length≤l.length)) (chk (decide (0≤i)&&decide (i≤(↑(gJ l (0+i.toNat) (List.replicate (0+l.length - (0+i.toNat)) (T.agg [i64 0,i64 0,i64 0,i64 0,i64 0,i64 0]))).length:Int))) (K (PV.view 1 6 0 (0+i.toNat)) [au.kK 3 1 x,au.row 72 6 (gJ l (0+i.toNat) (List.replicate (0+l.length - (0+i.toNat)) (T.agg [i64 0,i64 0,i64 0,i64 0,i64 0,i64 0])))]))):=by kernel_rfl
def NY (l:List T) (c:Int) (r:PV) (l':List T):Pin:=⟨79,[.own 1,.t (.fn 81 [] [.ref (i64 c)])],[.kK 3 1 (i64 c),.row 72 6 l],r,[.kK 3 1 (i64 c),.row 72 6 l']⟩
theorem ahC (N:Nat) (l xs ys:List T) (c:Int):kL env (qG env N [NY xs c (.own 1) ys]) N 65 [.t (.sl 6 l),.t (i64 c)] [] (bU env 65)=cl N 76 [T.sl 6 l,T.fn 77 [] [(i64 c).ref]] fun x=>iT IntKind.i64 x fun a=>bif decide (a≥0) then iT IntKind.i64 x fun a=>chk (decide (0≤IntKind.i64.wrap (a+1))&&decide (IntKind.i64.wrap (a+1)≤(↑l.length:Int))) (cl N 80 [T.sl 6 (List.drop 0 (List.take (IntKind.i64.wrap (a+1)).toNat l))] fun x=>nD 6 x fun JG=>tC ([PV.own 1,PV.t (T.fn 81 [] [(i64 c).ref])]= [PV.own 1,PV.t (T.fn 81 [] [(i64 c).ref])]∧ [au.kK 3 1 (i64 c),au.row 72 6 JG]= [au.kK 3 1 (i64 c),au.row 72 6 xs]) (aj.ok (T.sl 6 ys))) else cl N 80 [T.sl 6 l] fun x=>nD 6 x fun JG=>tC ([PV.own 1,PV.t (T.fn 81 [] [(i64 c).ref])]= [PV.own 1,PV.t (T.fn 81 [] [(i64 c).ref])]∧ [au.kK 3 1 (i64 c),au.row 72 6 JG]= [au.kK 3 1 (i64 c),au.row 72 6 xs]) (aj.ok (T.sl 6 ys)):=by kernel_rfl
theorem ac7 (N:Nat) (l xs ys:List T) (c:Int) (n:Nat):kL env (qG env N [NY xs c (.view 1 6 0 n) ys]) N 65 [.t (.sl 6 l),.t (i64 c)] [] (bU env 65)=cl N 76 [T.sl 6 l,T.fn 77 [] [(i64 c).ref]] fun x=>iT IntKind.i64 x fun a=>bif decide (a≥0) then iT IntKind.i64 x fun a=>chk (decide (0≤IntKind.i64.wrap (a+1))&&decide (IntKind.i64.wrap (a+1)≤(↑l.length:Int))) (cl N 80 [T.sl 6 (List.drop 0 (List.take (IntKind.i64.wrap (a+1)).toNat l))] fun x=>nD 6 x fun JG=>tC ([PV.own 1,PV.t (T.fn 81 [] [(i64 c).ref])]= [PV.own 1,PV.t (T.fn 81 [] [(i64 c).ref])]∧ [au.kK 3 1 (i64 c),au.row 72 6 JG]= [au.kK 3 1 (i64 c),au.row 72 6 xs]) (bif decide (n≤ys.length) then aj.ok (T.sl 6 (List.take n ys)) else aK (bif decide (n≤ys.length) then some (T.sl 6 (List.drop 0 (List.take n ys))) else none) fun x=>aj.ok x)) else cl N 80 [T.sl 6 l] fun x=>nD 6 x fun JG=>tC ([PV.own 1,PV.t (T.fn 81 [] [(i64 c).ref])]= [PV.own 1,PV.t (T.fn 81 [] [(i64 c).ref])]∧ [au.kK 3 1 (i64 c),au.row 72 6 JG]= [au.kK 3 1 (i64 c),au.row 72 6 xs]) (bif decide (n≤ys.length) then aj.ok (T.sl 6 (List.take n ys)) else aK (bif decide (n≤ys.length) then some (T.sl 6 (List.drop 0 (List.take n ys))) else none) fun x=>aj.ok x):=by kernel_rfl
end
end Go.aO
