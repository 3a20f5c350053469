/- The texts of a proof, one behind the other: an interpreter and its soundness, what the functions of the program answer, and plain laws on that. -/
import Derived.Test.YtjlpnhpfbgbkhaaGreatK8
import Derived.ProofKit
import Derived.Test.YtjlpnhpfbgbkhaaGreatProg
import Derived.WalkKit
import Derived.Lib.Walk
import Derived.Lib.SliceRun
import Derived.Lib.AppendZerosOnto
import Derived.Shelf.Spec.SlicesInsert
import Derived.WalkLawsBesides
import Derived.Test.YtjlpnhpfbgbkhaaGreatRows
set_option linter.unusedVariables false
set_option linter.unusedSimpArgs false
set_option linter.unnecessarySimpa false
set_option linter.unusedSectionVars false
set_option maxRecDepth 100000
namespace Go.aT
section
open Go.RowKit
def elC (k:Nat) (cs:List T):T:=if k=1 then cs.headD .dS else .agg cs
def OA (P:Program):List Field→Nat→Bool
 | [],_=>true
 |f::r,o=>f.offset==o&&OA P r (o+P.cellsOf f.type)
def vg (P:Program):Nat→TypeId→Bool
 |0,_=>false
 |n+1,t=>match P.underlying t with
  |some (.int _)=>P.cellsOf t==1
  |some .bool=>P.cellsOf t==1
  |some (.slice e)=>P.cellsOf t==1&&decide (1≤P.cellsOf e)&&decide (1≤P.bytesOf e)&&vg P n e
  |some (.struct fs)=>OA P fs.toList 0&&((fs.toList.map fun f=>P.cellsOf f.type).sum==P.cellsOf t)&&decide (2≤P.cellsOf t)&&fs.toList.all fun f=>vg P n f.type
  |_=>false
def uy (P:Program):Nat→TypeId→List T→Prop
 |0,_,_=>False
 |n+1,t,xs=>match P.underlying t with
  |some (.int k)=>∃ i,xs= [.int k i]∧kindOk k i=true
  |some .bool=>∃ b,xs= [.bool b]
  |some (.slice e)=>∃ ys,xs= [.sl (P.cellsOf e) ys]∧ys.length*P.bytesOf e≤reachBytes∧∀ y∈ys,∃ cs,uy P n e cs∧y=elC (P.cellsOf e) cs
  |some (.struct fs)=>∃ parts:List (List T),parts.length=fs.toList.length∧(∀ (i:Nat) (f:Field) (p:List T),fs.toList[i]? =some f→parts[i]? =some p→uy P n f.type p)∧xs=parts.flatten
  |_=>False
def DC (F:Nat→Prop) (w:World) (xs:List T) (cs:List Value):Prop:=xs.length=cs.length∧(∀ c∈cs,c.oneCell'=true)∧∀ (i:Nat) (x:T) (c:Value),xs[i]? =some x→cs[i]? =some c→Rd F w x c
theorem DC.one {F:Nat→Prop} {w:World} {x:T} {c:Value} (h:Rd F w x c) (h1:c.oneCell'=true):DC F w [x] [c]:=by
 refine⟨rfl,by simpa using h1,fun i y d h2 h3=>?_⟩
 cases i with
 |zero=>simp at h2 h3; subst h2; subst h3; exact h
 |succ i=>simp at h2
theorem DC.append {F:Nat→Prop} {w:World} {xs ys:List T} {cs ds:List Value} (h:DC F w xs cs) (h':DC F w ys ds):DC F w (xs++ys) (cs++ds):=by
 obtain⟨a1,a2,a3⟩:=h
 obtain⟨b1,b2,b3⟩:=h'
 refine⟨by simp[a1,b1],fun c hc=>(List.mem_append.1 hc).elim (a2 c) (b2 c),fun i x c h1 h2=>?_⟩
 rcases Nat.lt_or_ge i xs.length with h3|h3
 · rw[List.getElem?_append_left h3] at h1
   rw[List.getElem?_append_left (by omega)] at h2
   exact a3 i x c h1 h2
 · rw[List.getElem?_append_right h3] at h1
   rw[List.getElem?_append_right (by omega),←a1] at h2
   exact b3 _ x c h1 h2
theorem DC.nil {F:Nat→Prop} {w:World}:DC F w [] []:=⟨rfl,by simp,by simp⟩
theorem mapM_some {α β:Type} {f:α→Option β}:∀ {l:List α} {r:List β},l.mapM f=some r→r.length=l.length∧∀ (i:Nat) (x:α),l[i]? =some x→∃ y,f x=some y∧r[i]? =some y
 | [],r,h=>by simp at h; subst h; simp
 |a::l,r,h=>by
  simp only[List.mapM_cons,Option.pure_def,Option.bind_eq_bind,Option.bind_eq_some_iff,Option.some.injEq] at h
  obtain⟨b,h1,bs,h2,rfl⟩:=h
  obtain⟨h3,h4⟩:=mapM_some h2
  refine⟨by simp[h3],fun i x hx=>?_⟩
  cases i with
  |zero=>simp at hx; subst hx; exact⟨b,h1,rfl⟩
  |succ i=>simpa using h4 i x (by simpa using hx)
theorem weightsAll_mem {H:Type} {P:Program} {e:TypeId}:∀ {l:List (DataW H)} {d:DataW H} {n:Nat},d∈l→n∈d.weights P e→n∈DataW.weightsAll P e l
 |a::l,d,n,h,hn=>by
  simp only[DataW.weightsAll,List.mem_append]
  rcases List.mem_cons.1 h with rfl|h
  · exact .inl hn
  · exact .inr (weightsAll_mem h hn)
theorem zJ {H:Type} {P:Program}:∀ {ts:List TypeId} {l:List (DataW H)} {i:Nat} {t:TypeId} {d:DataW H} {n:Nat},ts[i]? =some t→l[i]? =some d→n∈d.weights P t→n∈DataW.weightsEach P ts l
 | [],l,i,t,d,n,h,h2,hn=>by simp at h
 |s::ts,[],i,t,d,n,h,h2,hn=>by simp at h2
 |s::ts,a::l,i,t,d,n,h,h2,hn=>by
  simp only[DataW.weightsEach,List.mem_append]
  cases i with
  |zero=>simp at h h2; subst h; subst h2; exact .inl hn
  |succ i=>exact .inr (zJ (by simpa using h) (by simpa using h2) hn)
theorem CS {P:Program} {F:Nat→Prop} {w:World} {D:Nat}:∀ {fs:List Field} {o:Nat} {cs:List Value},OA P fs o=true→cs.length=o+(fs.map fun f=>P.cellsOf f.type).sum→
 (∀ f∈fs,∃ xs,uy P D f.type xs∧DC F w xs ((cs.drop f.offset).take (P.cellsOf f.type)))→
 ∃ parts:List (List T),parts.length=fs.length∧(∀ (i:Nat) (f:Field) (p:List T),fs[i]? =some f→parts[i]? =some p→uy P D f.type p)∧DC F w parts.flatten (cs.drop o)
 | [],o,cs,hc,hl,h=>⟨[],rfl,by simp,by
  rw[List.drop_of_length_le (by simp at hl; omega)]
  exact DC.nil⟩
 |f::fs,o,cs,hc,hl,h=>by
  simp only[OA,Bool.and_eq_true,beq_iff_eq] at hc
  obtain⟨c1,c2⟩:=hc
  obtain⟨xs,h1,h2⟩:=h f List.mem_cons_self
  simp only[List.map_cons,List.sum_cons] at hl
  obtain⟨parts,p1,p2,p3⟩:=CS (cs:=cs) c2 (by omega) (fun g hg=>h g (List.mem_cons_of_mem _ hg))
  refine⟨xs::parts,by simp[p1],fun i g p hg hp=>?_,?_⟩
  · cases i with
    |zero=>simp at hg hp; subst hg; subst hp; exact h1
    |succ i=>exact p2 i g p (by simpa using hg) (by simpa using hp)
  · rw[c1] at h2
    have:=h2.append p3
    rw[List.flatten_cons]
    rw[show(cs.drop o).take (P.cellsOf f.type)++cs.drop (o+P.cellsOf f.type)=cs.drop o by
     rw[←List.drop_drop]; exact List.take_append_drop _ _] at this
    exact this
theorem aa1 {P:Program}:∀ {D:Nat} {t:TypeId} {xs:List T},vg P D t=true→uy P D t xs→xs.length=P.cellsOf t∧(P.cellsOf t=1→∀ x∈xs,x.isAgg=false)
 |0,t,xs,h,_=>by simp[vg] at h
 |D+1,t,xs,h,hs=>by
  unfold vg at h
  unfold uy at hs
  cases hu:P.underlying t with
  |none=>simp[hu] at h
  |some d=>
   cases d with
   |int k=>
    simp only[hu,beq_iff_eq] at h hs
    obtain⟨i,rfl,_⟩:=hs
    exact⟨by simp[h],fun _ x hx=>by simp at hx; subst hx; rfl⟩
   |bool=>
    simp only[hu,beq_iff_eq] at h hs
    obtain⟨b,rfl⟩:=hs
    exact⟨by simp[h],fun _ x hx=>by simp at hx; subst hx; rfl⟩
   |slice e=>
    simp only[hu,Bool.and_eq_true,beq_iff_eq] at h hs
    obtain⟨ys,rfl,_⟩:=hs
    exact⟨by simp[h.1.1.1],fun _ x hx=>by simp at hx; subst hx; rfl⟩
   |struct fs=>
    simp only[hu,Bool.and_eq_true,beq_iff_eq,decide_eq_true_eq,List.all_eq_true] at h hs
    obtain⟨⟨⟨c1,c2⟩,c3⟩,c4⟩:=h
    obtain⟨parts,p1,p2,rfl⟩:=hs
    refine⟨?_,fun h1=>by omega⟩
    rw[←c2]
    have:∀ (fs:List Field) (parts:List (List T)),parts.length=fs.length→(∀ f∈fs,vg P D f.type=true)→(∀ (i:Nat) (f:Field) (p:List T),fs[i]? =some f→parts[i]? =some p→uy P D f.type p)→parts.flatten.length=(fs.map fun f=>P.cellsOf f.type).sum:=by
     intro fs
     induction fs with
     |nil=>intro parts h1 _ _; have:=List.eq_nil_of_length_eq_zero h1; subst this; rfl
     |cons f fs ih=>
      intro parts h1 h2 h3
      cases parts with
      |nil=>simp at h1
      |cons p parts=>
       simp only[List.flatten_cons,List.length_append,List.map_cons,List.sum_cons]
       rw[ih parts (by simpa using h1) (fun g hg=>h2 g (List.mem_cons_of_mem _ hg)) (fun i g q a b=>h3 (i+1) g q (by simpa using a) (by simpa using b)),(aa1 (h2 f List.mem_cons_self) (h3 0 f p rfl rfl)).1]
    exact this _ _ p1 c4 p2
   |_=>simp[hu] at h
theorem atm {α:Type} [Inhabited α] {Q:Nat→α→Prop} {n:Nat} (h:∀ i,i < n→∃ x,Q i x):∃ g:Nat→α,∀ i,i < n→Q i (g i):=by
 classical
 exact⟨fun i=>if h':i < n then(h i h').choose else default,fun i hi=>by simp only[dif_pos hi]; exact(h i hi).choose_spec⟩
theorem acO {w:World} {a:Addr} {v:Value} (h:w.cell? ((a.add 0).add 0)=some v):∃ b o,a=⟨b,o,none⟩:=by
 obtain⟨b,o,s⟩:=a
 cases s with
 |none=>exact⟨b,o,rfl⟩
 |some s=>
  exfalso
  unfold World.cell? at h
  split at h
  · simp[Addr.add] at h
  · cases h
section
variable {H:Type} {enc:TypeId×Value→H} {P:Program} {w:World} {sp:Nat→Bool}
theorem Kr:∀ (D:Nat) (t:TypeId),vg P D t=true→∀ (fuel:Nat) (cs:List Value) (d:DataW H) (ps:List MemPlace),DataW.trod enc P w 0 sp true fuel t cs=some (d,ps)→(∀ n∈d.weights P t,n≤reachBytes)→
 ∃ xs,uy P D t xs∧DC (fun b=>b < w.heap.size) w xs cs
 |0,t,hst,_,_,_,_,_,_=>by simp[vg] at hst
 |D+1,t,hst,0,cs,d,ps,h,_=>by simp[DataW.trod] at h
 |D+1,t,hst,fuel+1,cs,d,ps,h,hw=>by
  have aw3:=hst
  unfold vg at hst
  unfold uy
  unfold DataW.trod at h
  cases hu:P.underlying t with
  |none=>simp[hu] at hst
  |some u=>
   cases u with
   |int k=>
    simp only[hu] at h ⊢
    split at h<;>try (simp_all; done)
    rename_i k2 k' n e1
    cases e1
    split at h
    · rename_i hk
      obtain⟨rfl,hwf⟩:=hk
      have hok:kindOk k' n=true:=by
       simp only[Lit.wf,Bool.and_eq_true,decide_eq_true_eq] at hwf
       simp[kindOk,hwf]
      exact⟨[.int k' n],⟨n,rfl,hok⟩,DC.one (.int hok) rfl⟩
    · cases h
   |bool=>
    simp only[hu] at h ⊢
    split at h<;>try (simp_all; done)
    rename_i b e1
    exact⟨[.bool b],⟨b,rfl⟩,DC.one .bool rfl⟩
   |slice e=>
    simp only[hu,Bool.and_eq_true,beq_iff_eq,decide_eq_true_eq] at hst
    obtain⟨⟨⟨s1,s2⟩,s3⟩,s4⟩:=hst
    simp only[hu] at h ⊢
    split at h<;>try (simp_all; done)
    · rename_i e' e1
      refine⟨[.sl (P.cellsOf e) []],⟨[],rfl,by simp,by simp⟩,DC.one ?_ rfl⟩
      exact .sl (xs:=[]) (c:=0) 0 0 (fun _ _=>undef) (by simp) (by simp) (by simp) (by simp) (fun i j hi=>by simp at hi) (fun i j hi=>by simp at hi) (fun i x j y hx=>by simp at hx)
    · rename_i e' a len cap e1
      cases e1
      split at h
      · rename_i hc
        obtain⟨c1,c2,c3⟩:=hc
        simp only[Option.bind_eq_some_iff,Option.map_eq_some_iff] at h
        obtain⟨els,h1,rest,h2,h3⟩:=h
        injection h3 with h3 h4
        subst h3
        obtain⟨l1,l2⟩:=mapM_some h1
        simp only[List.length_range] at l1
        simp only[DataW.weights,hu] at hw
        have hlen:len*P.bytesOf e≤reachBytes:=by
         have:=hw _ List.mem_cons_self
         simp only[List.length_map,l1] at this
         refine Nat.le_trans (Nat.mul_le_mul_right _ ?_) this
         omega
        have hlb:len≤big:=by
         have h5:len≤len*P.bytesOf e:=Nat.le_mul_of_pos_right _ s3
         have h6:reachBytes≤big:=by decide
         omega
        have hel:∀ i,i < len→∃ q:List T×List Value,uy P D e q.1∧DC (fun b=>b < w.heap.size) w q.1 q.2∧q.2.length=P.cellsOf e∧∀ j v,q.2[j]? =some v→w.cell? ((a.add (i*P.cellsOf e)).add j)=some v:=by
         intro i hi
         obtain⟨y,hy,hy2⟩:=l2 i i (by simp[hi])
         simp only[Option.bind_eq_some_iff] at hy
         obtain⟨csi,hy3,hy4⟩:=hy
         obtain⟨yd,yp⟩:=y
         have hwt:∀ n∈yd.weights P e,n≤reachBytes:=fun n hn=>hw n (List.mem_cons_of_mem _ (List.mem_append_left _ (weightsAll_mem (List.mem_map.2 ⟨(yd,yp),List.mem_of_getElem? hy2,rfl⟩) hn)))
         obtain⟨xs,hx1,hx2⟩:=Kr D e s4 fuel csi yd yp hy4 hwt
         unfold World.cells? at hy3
         rw[if_pos (Nat.zero_le _)] at hy3
         obtain⟨m1,m2⟩:=mapM_some hy3
         refine⟨(xs,csi),hx1,hx2,by simpa using m1,fun j v hj=>?_⟩
         have hjl:j < P.cellsOf e:=by have h9:j < csi.length:=(List.getElem?_eq_some_iff.1 hj).1; rw[List.length_range] at m1; omega
         obtain⟨z,z1,z2⟩:=m2 j j (by simp[hjl])
         rw[hj] at z2
         injection z2 with z2
         rw[z2]; exact z1
        obtain⟨g,hg⟩:=atm hel
        refine⟨[.sl (P.cellsOf e) ((List.range len).map fun i=>elC (P.cellsOf e) (g i).1)],⟨_,rfl,by simpa using hlen,fun y hy=>?_⟩,DC.one ?_ rfl⟩
        · simp only[List.mem_map,List.mem_range] at hy
          obtain⟨i,hi,rfl⟩:=hy
          exact⟨_,(hg i hi).1,rfl⟩
        · have hsh:∀ i,i < len→(g i).1.length=P.cellsOf e∧(P.cellsOf e=1→∀ x∈(g i).1,x.isAgg=false):=fun i hi=>aa1 s4 (hg i hi).1
          have hcells:∀ i,i < len→(elC (P.cellsOf e) (g i).1).cells=(g i).1∧(P.cellsOf e=1→(elC (P.cellsOf e) (g i).1).isAgg=false):=fun i hi=>by
           obtain⟨q1,q2⟩:=hsh i hi
           unfold elC
           by_cases h1:P.cellsOf e=1
           · rw[if_pos h1]
             rw[h1] at q1
             match hgi:(g i).1,q1 with
             | [x],_=>
              have hx:=q2 h1 x (by rw[hgi]; simp)
              refine⟨?_,fun _=>hx⟩
              cases x<;>simp_all [T.isAgg,T.cells]
           · rw[if_neg h1]
             exact⟨rfl,fun h=>absurd h h1⟩
          have hgx:∀ i x,((List.range len).map fun i=>elC (P.cellsOf e) (g i).1)[i]? =some x→i < len∧x=elC (P.cellsOf e) (g i).1:=fun i x hx=>by
           have hi:i < len:=by have:=(List.getElem?_eq_some_iff.1 hx).1; simpa using this
           rw[List.getElem?_map,List.getElem?_range hi] at hx
           exact⟨hi,by simpa using hx.symm⟩
          have hl2:((List.range len).map fun i=>elC (P.cellsOf e) (g i).1).length=len:=by simp
          rcases Nat.eq_zero_or_pos len with e0|e0
          · subst e0
            exact .sl (xs:=[]) 0 0 (fun _ _=>undef) (by simp) (by simp) (by simp) (by simp) (fun i j hi=>by simp at hi) (fun i j hi=>by simp at hi) (fun i x j y hx=>by simp at hx)
          · have hcell:∀ i j,i < len→j < P.cellsOf e→w.cell? ((a.add (i*P.cellsOf e)).add j)=some ((g i).2.getD j undef):=fun i j hi hj=>by
             obtain⟨_,_,q3,q4⟩:=hg i hi
             refine q4 j _ ?_
             rw[List.getD_eq_getElem?_getD,List.getElem?_eq_getElem (by omega)]; rfl
            have h00:=hcell 0 0 e0 s2
            rw[Nat.zero_mul] at h00
            obtain⟨b,o,rfl⟩:=acO h00
            have hF:b < w.heap.size:=by
             have:=hcell 0 0 e0 s2
             rw[add_mid,add_mid] at this
             cases h7:w.heap[b]? with
             |none=>simp[World.cell?,h7] at this
             |some _=>exact(Array.getElem?_eq_some_iff.1 h7).1
            have:=Rd.sl (F:=fun b=>b < w.heap.size) (w:=w) (k:=P.cellsOf e) (xs:=(List.range len).map fun i=>elC (P.cellsOf e) (g i).1) (A:=some ⟨b,o,none⟩) (c:=cap) b o (fun i j=>(g i).2.getD j undef) (by rw[hl2]; exact c2) (by rw[hl2]; exact hlb)
             (fun x hx=>by
              obtain⟨i,hi⟩:=List.getElem?_of_mem hx
              obtain⟨h8,rfl⟩:=hgx i x hi
              refine⟨by rw[(hcells i h8).1]; exact(hsh i h8).1,(hcells i h8).2⟩) (fun _=>⟨rfl,hF⟩)
             (fun i j hi hj=>by
              rw[hl2] at hi
              obtain⟨_,q2,q3,_⟩:=hg i hi
              refine q2.2.1 _ ?_
              rw[List.getD_eq_getElem?_getD,List.getElem?_eq_getElem (by omega)]
              exact List.getElem_mem _)
             (fun i j hi hj=>by
              rw[hl2] at hi
              have:=hcell i j hi hj
              rw[add_mid,add_mid] at this
              exact this)
             (fun i x j y hx hy=>by
              obtain⟨h8,rfl⟩:=hgx i x hx
              rw[(hcells i h8).1] at hy
              obtain⟨_,q2,q3,_⟩:=hg i h8
              refine q2.2.2 j y _ hy ?_
              have hj:j < (g i).2.length:=by rw[←q2.1]; exact(List.getElem?_eq_some_iff.1 hy).1
              rw[List.getD_eq_getElem?_getD,List.getElem?_eq_getElem hj]; rfl)
            rw[hl2] at this
            exact this
      · cases h
   |struct fs=>
    simp only[hu,Bool.and_eq_true,beq_iff_eq,decide_eq_true_eq,List.all_eq_true] at hst
    obtain⟨⟨⟨s1,s2⟩,s3⟩,s4⟩:=hst
    simp only[hu] at h ⊢
    split at h
    · rename_i hcl
      simp only[Option.map_eq_some_iff] at h
      obtain⟨ys,h1,h2⟩:=h
      injection h2 with h2 h3
      subst h2
      obtain⟨l1,l2⟩:=mapM_some h1
      simp only[DataW.weights,hu] at hw
      have hf:∀ f∈fs.toList,∃ xs,uy P D f.type xs∧DC (fun b=>b < w.heap.size) w xs ((cs.drop f.offset).take (P.cellsOf f.type)):=fun f hfm=>by
       obtain⟨i,hi⟩:=List.getElem?_of_mem hfm
       obtain⟨y,y1,y2⟩:=l2 i f hi
       obtain⟨yd,yp⟩:=y
       exact Kr D f.type (s4 f hfm) fuel _ yd yp y1 fun n hn=>hw n (zJ (ts:=fs.toList.map (·.type)) (l:=ys.map (·.1)) (i:=i) (by simp[hi]) (by simp[y2]) hn)
      obtain⟨parts,p1,p2,p3⟩:=CS (fs:=fs.toList) (o:=0) (cs:=cs) s1 (by rw[s2,hcl]; omega) hf
      exact⟨parts.flatten,⟨parts,p1,p2,rfl⟩,by simpa using p3⟩
    · cases h
   |_=>simp[hu] at hst
end
end
section
open Go.RowKit Go.Proofs Go.Lib
set_option maxHeartbeats 4000000
theorem O7 (base:Option Addr) (l c n:Nat) (w:World) (hlc:l≤c) (hc63:c≤9223372036854775807) (hn63:n≤9223372036854775807) (hroom:l+n≤c):
 Calls Tryz.prog 155 #[.slice base l c,.int .i64 n] w fun e w'=>e= .returned (.slice base l c)∧w'=w:=by
 have h1:¬ ((n:Int) < 0):=by omega
 have h2:Go.RowKit.wrap64 ((c:Int) - (l:Int))=(c:Int) - (l:Int):=by unfold Go.RowKit.wrap64; omega
 have h3:Go.RowKit.wrap64 ((n:Int) - ((c:Int) - (l:Int)))=(n:Int) - ((c:Int) - (l:Int)):=by unfold Go.RowKit.wrap64; omega
 have h4:¬ ((n:Int) - ((c:Int) - (l:Int)) > 0):=by omega
 go_enter Tryz.func155,Tryz.ntmps155
 go_wp2
 go_ret
 exact⟨rfl,rfl⟩
theorem afC:∃ i:TypeInfo,Tryz.prog.info? 3=some i∧i.size=1∧i.bytes=8∧i.zero=some (.int .i64 0):=⟨_,rfl,by kernel_rfl,by kernel_rfl,by kernel_rfl⟩
theorem grow_grow (base:Option Addr) (l c n:Nat) (cs:List Value) (w:World) (hlc:l≤c) (hroom:c < l+n) (hbig:(l+n)*8≤140737488355328) (hcl:cs.length=c) (hnil:base=none→c=0)
 (hcs:∀ a,base=some a→∀ j v,cs[j]? =some v→w.cell? (a.add j)=some v):
 Calls Tryz.prog 155 #[.slice base l c,.int .i64 n] w fun e w'=>
  e= .returned (.slice (some ⟨w.heap.size,0,none⟩) l (grownCap w (l+n) c 3))∧
  w'=w.drew.alloc (.cells (cs.toArray++Builtin.zeroCells (Value.int .i64 0).cells (l+n - c)++Builtin.zeroCells (Value.int .i64 0).cells (grownCap w (l+n) c 3 - (l+n))) 3):=by
 have h1:¬ ((n:Int) < 0):=by omega
 have h2:Go.RowKit.wrap64 ((c:Int) - (l:Int))=(c:Int) - (l:Int):=by unfold Go.RowKit.wrap64; omega
 have h3:Go.RowKit.wrap64 ((n:Int) - ((c:Int) - (l:Int)))=(n:Int) - ((c:Int) - (l:Int)):=by unfold Go.RowKit.wrap64; omega
 have h4:(n:Int) - ((c:Int) - (l:Int)) > 0:=by omega
 obtain⟨i0,hi0,is0,ib0,iz0⟩:=afC
 have hck:c+(l+n - c)=l+n:=by omega
 have hold:(Builtin.firstCells i0.size c (.slice base c c)).run Tryz.prog w.drew= .ok cs.toArray w.drew:=by
  cases base with
  |none=>
   have h0:=hnil rfl
   subst h0
   have hc0:cs= []:=List.length_eq_zero_iff.1 hcl
   rw[hc0]
   exact run_firstCells_none w.drew i0.size 0 0 0
  |some a=>exact run_firstCells_some w.drew i0.size c a c c cs (by rw[is0]; omega) (fun j v hj=>hcs a rfl j v hj)
 have hrz:∀ ty,(Builtin.append_ #[31,3] ty #[.slice base c c,.int .i64 ((n:Int) - ((c:Int) - (l:Int)))]).run Tryz.prog w=
  .ok (.slice (some ⟨w.heap.size,0,none⟩) (l+n) (grownCap w (l+n) c 3)) (w.drew.alloc (.cells (cs.toArray++Builtin.zeroCells (Value.int .i64 0).cells (l+n - c)++Builtin.zeroCells (Value.int .i64 0).cells (grownCap w (l+n) c 3 - (l+n))) 3)):=fun ty=>by
  have h:=Lib.run_append_grow_zeros (P:=Tryz.prog) w 31 3 ty 3 i0 (.int .i64 0) .i64 .i64 (by kernel_rfl) (by kernel_rfl) hi0 iz0 base c c cs hold (l+n - c) (by omega) (by omega) (by omega) (by omega)
   (by rw[ib0]; omega)
   (by rw[hck,ib0]; exact growslice_fits hroom hbig)
  rw[hck] at h
  rw[show(n:Int) - ((c:Int) - (l:Int))=((l+n - c:Nat):Int) by omega]
  exact h
 have hGn:l+n≤grownCap w (l+n) c 3:=grownCap_ge w _ _ _
 obtain⟨G,hG⟩:∃ G,G=grownCap w (l+n) c 3:=⟨_,rfl⟩
 rw[←hG] at hrz hGn ⊢
 have hG63:G≤9223372036854775807:=by
  have:=grownCap_le_maxLen w (l+n) c 3 (by unfold maxLen; omega)
  rw[←hG] at this
  unfold maxLen at this
  omega
 clear hold hck hG hcs hcl hi0 is0 ib0 iz0
 go_enter Tryz.func155,Tryz.ntmps155
 cases base with
 |none=>
  have h0:=hnil rfl
  subst h0
  obtain rfl:l=0:=by omega
  go_wp2_with (at_builtin; refine Lib.wpList_append_run _ rfl _ _ _ _ rfl _ _ rfl rfl _ _ (hrz _) ?_)
  all_goals (go_ret; exact⟨rfl,rfl⟩)
 |some a=>
  obtain⟨ab,ao,asp⟩:=a
  go_wp2_with (at_builtin; refine Lib.wpList_append_run _ rfl _ _ _ _ rfl _ _ rfl rfl _ _ (hrz _) ?_)
  all_goals (go_ret; exact⟨rfl,rfl⟩)
def Rh (b:Nat) (H:List aj) (xs:List T) (rest:List PV):ah (List T):=match rest with
 | [.t (.int .i64 n)]=>bif decide (0≤n)&&decide ((xs.length+n.toNat)*b≤big) then .ok xs else .stuck
 |_=> .stuck
theorem Ou:(Value.int .i64 0).cells.size=1:=rfl
theorem abA {E:Env} (hP:E.P=Tryz.prog) (hr:lu E 155=some (3,1)):Je E 155 (Rh 8):=by
 intro F κ w H l e k xs rest vals s ho hret hnm hl ha h
 rw[hr] at hret
 injection hret with hret
 injection hret with e1 e2
 subst e1; subst e2
 unfold Rh at h ⊢
 match rest,vals,hl with
 | [.t (.int .i64 n)],[v],_=>
  have hv:=ha 0 _ v rfl rfl
  cases hv with
  |t hv=>
  cases hv with
  |int hik=>
  simp only[] at h ⊢
  obtain⟨g1,e1⟩:=bD h
  rw[e1]
  simp only[Bool.and_eq_true,decide_eq_true_eq] at g1
  obtain⟨g1,g2⟩:=g1
  obtain⟨q,rfl⟩:∃ q:Nat,n=q:=⟨n.toNat,by omega⟩
  rw[Int.toNat_natCast] at g2
  have hb:big=140737488355328:=rfl
  obtain⟨cs,o1,o2,o3,o4,o5⟩:=s.ro l _ ho
  have hcs:cs.length=xs.length*1:=o1.1
  have fin:∀ (r:Value) (w':World),w'.ownsRow 0 3 1 r xs.length cs→w.grownBy w' (κ l).ownBlock→(r.ownBlock=(κ l).ownBlock∨∃ b,r.ownBlock=some b∧w.heap.size≤b)→
   ∃ ys,(ah.ok xs:ah (List T))= .ok ys∧w.grownBy w' (κ l).ownBlock∧(r.ownBlock=(κ l).ownBlock∨∃ b,r.ownBlock=some b∧w.heap.size≤b)∧(∀ b,r.ownBlock=some b→b < w'.heap.size)∧
    ∀ F1:Nat→Prop,(∀ b,F b→F1 b)→(∀ m'∈PV.dU [PV.t (.int .i64 (q:Int))],∀ (e' k':Nat) (xs':List T) (b:Nat),H[m']? =some (.row e' k' xs')→(κ m').ownBlock=some b→F1 b)→(∀ b,F1 b→w'.heap[b]? =w.heap[b]?)→Row F1 w' 3 1 ys r:=by
   intro r w' f1 f2 f3
   refine⟨_,rfl,f2,f3,fun b hb=>vS f1 b hb,fun F1 a1 _ a3=>?_⟩
   exact⟨cs,f1,o2,o3,o4,fun i x j y v b1 b2 b3=>(o5 i x j y v b1 b2 b3).mono a1 (fun b hb=>a3 b (a1 b hb))⟩
  have enter:∀ R:Value→World→Prop,(Calls E.P 155 #[κ l,.int .i64 q] w fun e w'=>∃ v,e= .returned v∧R v w'∧w.drawn≤w'.drawn)→Invokes E.P 155 [κ l,.int .i64 (q:Int)].toArray w R:=fun R hc=>by
   unfold Invokes
   have:(callFunc 155 [κ l,.int .i64 (q:Int)].toArray).run E.P w= .ok (.enter 155 [κ l,.int .i64 (q:Int)].toArray) w:=by
    rw[hP]; simp[callFunc,Tryz.func155,Tryz.f155]
   rw[this]
   exact hc
  refine enter _ ?_
  rw[hP]
  have grown:∀ (o:Obj) (row:Option Nat),w.grownBy (w.drew.alloc o) row:=fun o row=>⟨rfl,rfl,rfl,by show w.heap.size≤(w.heap.push o).size; rw[Array.size_push]; omega,fun k hk _=>heap_alloc_old w.drew _ hk⟩
  rcases o1.2 with ⟨t1,t2⟩|⟨g,c,cur,t1,t0,t2,t3,t4,t5,t6⟩
  · rcases Nat.eq_zero_or_pos q with rfl|hq
    · rw[t1]
      refine Calls.mono (O7 none 0 0 0 w (by omega) (by omega) (by omega) (by omega)) ?_
      rintro e w' ⟨rfl,rfl⟩
      have:=fin (.slice none 0 0) w' ⟨hcs,.inl ⟨rfl,t2⟩⟩ ⟨rfl,rfl,rfl,Nat.le_refl _,fun _ _ _=>rfl⟩ (.inl (by rw[t1]))
      rw[t1] at this
      exact⟨_,rfl,this,Nat.le_refl _⟩
    · rw[t1]
      refine Calls.mono (grow_grow none 0 0 q [] w (by omega) (by omega) (by omega) rfl (fun _=>rfl) (fun a h=>by cases h)) ?_
      rintro e w' ⟨rfl,rfl⟩
      have hG:=grownCap_ge w (0+q) 0 3
      have hG2:=grownCap_le_maxLen w (0+q) 0 3 (by unfold maxLen; omega)
      generalize grownCap w (0+q) 0 3=G at hG hG2 ⊢
      have:=fin (.slice (some ⟨w.heap.size,0,none⟩) 0 G) (w.drew.alloc (.cells (#[]++Builtin.zeroCells (Value.int .i64 0).cells (0+q - 0)++Builtin.zeroCells (Value.int .i64 0).cells (G - (0+q))) 3))
       ⟨hcs,.inr ⟨w.heap.size,G,_,by rw[t2],by omega,heap_alloc_new w.drew _,by omega,hG2,by simp only[Array.size_append,size_zeroCells,Ou]; simp; omega,by rw[t2] at hcs ⊢; rw[List.eq_nil_of_length_eq_zero (by omega:cs.length=0)]; simp⟩⟩ (grown _ _) (.inr ⟨_,rfl,Nat.le_refl _⟩)
      rw[t1] at this
      exact⟨_,rfl,this,by show w.drawn≤w.drawn+1; omega⟩
  · rw[t1]
    rcases Nat.lt_or_ge c (xs.length+q) with hc|hc
    · refine Calls.mono (grow_grow (some ⟨g,0,none⟩) xs.length c q cur.toList w t3 hc g2 (by rw[Array.length_toList]; omega) (fun h=>by cases h) (fun a h j v hj=>?_)) ?_
      · injection h with h
        subst h
        rw[add_mid,Nat.zero_add,cell_of_row w g j cur 3 (0,0) t2]
        simpa using hj
      rintro e w' ⟨rfl,rfl⟩
      have hG:=grownCap_ge w (xs.length+q) c 3
      have hG2:=grownCap_le_maxLen w (xs.length+q) c 3 (by unfold maxLen; omega)
      generalize grownCap w (xs.length+q) c 3=G at hG hG2 ⊢
      have:=fin (.slice (some ⟨w.heap.size,0,none⟩) xs.length G) (w.drew.alloc (.cells (cur.toList.toArray++Builtin.zeroCells (Value.int .i64 0).cells (xs.length+q - c)++Builtin.zeroCells (Value.int .i64 0).cells (G - (xs.length+q))) 3))
       ⟨hcs,.inr ⟨w.heap.size,G,_,rfl,by omega,heap_alloc_new w.drew _,by omega,hG2,by simp only[Array.size_append,size_zeroCells,Ou]; simp; omega,by
        rw[←t6]
        simp only[Array.toList_append,Array.toArray_toList,List.append_assoc]
        have hl:xs.length*1≤cur.toList.length:=by have:cur.toList.length=cur.size:=Array.length_toList; omega
        rw[List.take_append_of_le_length hl]⟩⟩ (grown _ _) (.inr ⟨_,rfl,Nat.le_refl _⟩)
      rw[t1] at this
      exact⟨_,rfl,this,by show w.drawn≤w.drawn+1; omega⟩
    · refine Calls.mono (O7 (some ⟨g,0,none⟩) xs.length c q w t3 (by unfold maxLen at t4; omega) (by omega) hc) ?_
      rintro e w' ⟨rfl,rfl⟩
      have:=fin (.slice (some ⟨g,0,none⟩) xs.length c) w' ⟨hcs,.inr ⟨g,c,cur,rfl,t0,t2,t3,t4,t5,t6⟩⟩ ⟨rfl,rfl,rfl,Nat.le_refl _,fun _ _ _=>rfl⟩ (.inl (by rw[t1]))
      rw[t1] at this
      exact⟨_,rfl,this,Nat.le_refl _⟩
 | [],_,_=>exact absurd rfl h
 | [.t (.int .i64 i)],[],hl=>simp at hl
end
section
open Go.RowKit Go.Proofs Go.Lib
set_option maxHeartbeats 4000000
def BJ (k b:Nat) (ts:List T):ah T:=match ts with
 | [.sl k' xs]=>bif k'==k&&decide (xs.length*b≤big) then .ok (.sl k xs) else .stuck
 |_=> .stuck
theorem MF (A:Option Addr) (n c:Nat) (w:World) (news:List Value) (hl:news.length=n*6) (h1:∀ u∈news,u.oneCell'=true)
 (hA:(A=none∧n=0)∨∃ ad:Addr,A=some ad∧∀ (j:Nat) (u:Value),news[j]? =some u→w.cell? (ad.add j)=some u) (hb:n*48≤big):
 Calls Tryz.prog 165 #[.slice A n c] w fun e w'=>∃ v',e= .returned v'∧w'.ownsRow 0 123 6 v' n news∧w.grownBy w' none∧(∀ b,v'.ownBlock=some b→w.heap.size≤b∧b < w'.heap.size)∧w.drawn≤w'.drawn:=by
 have uS:Tryz.prog.underlying 84=some (.slice 123):=by kernel_rfl
 have sz:kJ Tryz.prog 123=some 6:=by kernel_rfl
 have byt:Oq Tryz.prog 123=some 48:=by kernel_rfl
 have zr:nJ Tryz.prog 123 6=true:=by kernel_rfl
 have hcmp:∀ (B:Option Addr) (p q:Nat) (w:World),(binOp .eql 84 (.slice B p q) (.slice none 0 0)).run Tryz.prog w= .ok (.bool B.isNone) w:=fun B p q w=>by
  have hu:=run_underlying uS
  have hd:Op.maxDepth=9999+1:=by decide
  have he:(Op.equalIn Op.maxDepth 84 (.slice B p q) (.slice none 0 0)).run Tryz.prog w= .ok B.isNone w:=by
   rw[hd,Op.equalIn]
   cases B<;>simp only[Sem.run_bind,hu,Result.andThen_ok,Sem.run_pure]<;>rfl
  simp[binOp,Op.equal,he]
 rcases hA with ⟨rfl,rfl⟩|⟨ad,rfl,hA⟩
 · have:news= []:=List.eq_nil_of_length_eq_zero (by simpa using hl)
   subst this
   go_enter Tryz.func165,Tryz.ntmps165
   go_wp2
   go_ret
   exact⟨_,rfl,World.ownsRow_nil w 0 123 6,⟨rfl,rfl,rfl,Nat.le_refl _,fun _ _ _=>rfl⟩,fun b hb=>by simp[Value.ownBlock] at hb,Nat.le_refl _⟩
 · obtain⟨N,hN⟩:∃ N,w.heap.size=N:=⟨_,rfl⟩
   have hown:(w.alloc (.cells #[] 123)).ownsRow 0 123 6 (.slice (some ⟨N,0,none⟩) 0 0) 0 []:=by
    rw[←hN]; exact World.ownsRow_lit w #[] 0 (by omega) (by simp) (by simp)
   have hA':∀ (j:Nat) (u:Value),news[j]? =some u→(w.alloc (.cells #[] 123)).cell? (ad.add j)=some u:=fun j u hj=>by
    have h2:=hA j u hj
    have hb:(ad.add j).block < w.heap.size:=by
     cases h3:w.heap[(ad.add j).block]? with
     |none=>simp[World.cell?,h3] at h2
     |some _=>exact(Array.getElem?_eq_some_iff.1 h3).1
    rw[World.cell?_of_block (heap_alloc_old w _ hb)]
    exact h2
   obtain⟨v',w',r1,r2,r3,r4⟩:=wz (w.alloc (.cells #[] 123)) 84 84 123 (k:=5) (b:=47) uS sz byt zr (.slice (some ⟨N,0,none⟩) 0 0) 0 [] hown (some ad) n c news hl (.inr ⟨ad,rfl,hA'⟩) h1 (by omega)
   have hsz:(w.alloc (.cells #[] 123)).heap.size=N+1:=by simp[hN]
   have hgb:w.grownBy w' none:=by
    refine⟨r3.os,r3.tape,r3.output,by have:=r3.size; omega,fun k hk _=>?_⟩
    rw[r3.block k (by omega) (by simp[Value.ownBlock]; omega)]
    exact heap_alloc_old w _ hk
   have hdr:w.drawn≤w'.drawn:=fK _ _ (w.alloc (.cells #[] 123)) r1
   clear hA hA' hown
   obtain⟨ab,ao,asp⟩:=ad
   go_enter Tryz.func165,Tryz.ntmps165
   go_wp2_with (at_builtin; refine Lib.wpList_append_run _ rfl _ _ _ _ rfl _ _ rfl rfl _ _ r1 ?_)
   all_goals
    go_ret
    refine⟨v',rfl,by simpa using r2,hgb,fun b hb=>?_,hdr⟩
    refine⟨?_,vS r2 b hb⟩
    rcases r4 with r4|r4
    · rw[hb] at r4; simp[Value.ownBlock] at r4; omega
    · rw[hb] at r4; injection r4 with r4; omega
theorem NQ {E:Env} (hP:E.P=Tryz.prog) (hr:lu E 165=some (123,6)) (hm:E.mode 165=1):∀ ts,BJ 6 48 ts≠ .stuck→∀ (F:Nat→Prop) (w:World) (vals:List Value),vals.length=ts.length→
 (∀ (i:Nat) (x:T) (v:Value),ts[i]? =some x→vals[i]? =some v→Rd F w x v)→(∀ b,F b→b < w.heap.size)→
 Invokes E.P 165 vals.toArray w fun v w'=>∃ x F',BJ 6 48 ts= .ok x∧Out E 165 F' w.heap.size w' x v∧Grown F w F' w':=by
 intro ts h F w vals hl ha hfl
 unfold BJ at h ⊢
 match ts,vals,hl with
 | [.sl k' xs],[v],_=>
  simp only[] at h ⊢
  obtain⟨g1,e1⟩:=bD h
  rw[e1]
  simp only[Bool.and_eq_true,beq_iff_eq,decide_eq_true_eq] at g1
  obtain⟨rfl,hb⟩:=g1
  have hv:=ha 0 _ v rfl rfl
  obtain⟨A,c,news,rfl,n1,n2,n3,n4,n5,n6⟩:=(xX.IB (κ:=fun _=>undef) (H:=[]) (p:= .junk) hv).news
  have hw:=MF A xs.length c w news n1 n2 (n5.imp (fun h=>⟨h.1,by rw[h.2]; rfl⟩) id) hb
  unfold Invokes
  have:(callFunc 165 [Value.slice A xs.length c].toArray).run E.P w= .ok (.enter 165 [Value.slice A xs.length c].toArray) w:=by
   rw[hP]; simp[callFunc,Tryz.func165,Tryz.f165]
  rw[this]
  rw[hP]
  refine Calls.mono hw ?_
  rintro e w' ⟨v',rfl,b1,b2,b3,bd⟩
  have hold:∀ b,b < w.heap.size→w'.heap[b]? =w.heap[b]? :=fun b hb=>b2.block b hb (by simp)
  refine⟨v',rfl,⟨.sl 6 xs,F,rfl,.row hm hr ⟨news,b1,n4,n3,n2,fun i x j y u h1 h2 h3=>(n6 i x j y u h1 h2 h3).mono (fun _ h=>h) (fun b hb=>hold b (hfl b hb))⟩ (fun b hb=>⟨(b3 b hb).1,(b3 b hb).2,fun hf=>by have:=hfl b hf; have:=(b3 b hb).1; omega⟩),
   ⟨b2.os,b2.tape,b2.output,b2.size,hold,fun _ h=>h,fun _ h=> .inl h,fun b hb=>Nat.lt_of_lt_of_le (hfl b hb) b2.size⟩⟩,bd⟩
end
section
open Go.RowKit Go.Proofs
def hints:FuncId→Nat→List Nat×List Nat:=fun f r=>match f,r with
 |4,10=>([0,1,5,6,7],[0,5])
 |4,13=>([0,1,5,6,7,8],[0,1,5,6,7])
 |5,11=>([0,3,6,8],[3])
 |5,14=>([0,3,6,8,9],[0,3,6,8])
 |6,9=>([0,1,5,8,10],[1,5,8])
 |7,15=>([0,5,7,10,12,16],[0,5,7,12])
 |7,18=>([0,5,7,10,12,16,17],[0,5,7,10,12,16])
 |9,2=>([0,3],[0])
 |10,2=>([0,3],[0])
 |12,3=>([0,4,5],[0,4])
 |13,4=>([0,1,2,7,10],[8,9])
 |14,4=>([0,1,2,7,10],[8,9])
 |15,4=>([0,1,5],[])
 |16,4=>([0,1,5],[])
 |18,3=>([0,3,4],[3])
 |20,3=>([0,1,5,6],[5])
 |25,6=>([1,24,25,26],[1])
 |25,12=>([1,36,37,38],[1])
 |30,3=>([26,27,28],[])
 |31,2=>([0,3,5],[])
 |32,3=>([1,2,7,19,20],[2,7])
 |32,11=>([7,9,55,56,57],[7])
 |33,2=>([1,3],[1])
 |34,2=>([0,3],[0])
 |38,2=>([0,3,4,6],[4])
 |41,4=>([0,1,5],[])
 |42,5=>([1,5,13,14,15],[5])
 |42,9=>([1,5,6,7,8,13,14,15,25,26],[1,5,7,8,13,14,15])
 |44,3=>([1,2,5,6],[1,2,5])
 |44,7=>([1,2,5,7],[1,2,5])
 |44,10=>([1,2,5,7,8],[1,2,5,7])
 |44,15=>([1,2,5,9,10],[9])
 |46,3=>([1,2,3,7,12,13,14],[7])
 |47,3=>([0,1,2,7,8],[7])
 |48,4=>([1,2,15,16,17],[])
 |52,5=>([1,3,49,50,51],[1])
 |52,13=>([6,76,77,78],[])
 |55,2=>([0,1,12,13],[])
 |55,5=>([0,1,6,12,13,21,22],[0,1,12,13])
 |59,7=>([2,5,9,10,11],[])
 |60,2=>([0,13,14],[])
 |60,7=>([0,4,5,6,13,14,21,22,23],[0,4,5,6,13,14])
 |60,11=>([0,4,5,6,13,14],[0,4,6,13,14])
 |60,13=>([0,4,5,6,13,14,36],[0,4,5,6,13,14])
 |60,18=>([0,4,5,6,13,14,49,50,51],[0,4,5,6,13,14,36])
 |61,2=>([0,1,7,8],[])
 |72,7=>([4,6,25,26,27],[4,6])
 |73,2=>([0,1,6],[])
 |74,2=>([1,2,6],[])
 |76,3=>([1,2,5,17,18,19],[1,2,5])
 |76,8=>([1,2,5,35,36],[1,2,5])
 |76,11=>([1,2,5,35,36,42,43,44],[1,2,5,35,36])
 |76,18=>([1,2,11,58],[11])
 |77,4=>([0,3,5,6,7],[3,5,6])
 |78,5=>([0,2,4,5],[2,4])
 |79,5=>([1,3,5,7,8],[1,3,5,7])
 |79,10=>([1,3,5,7,9],[7])
 |82,5=>([1,2,3,7,8],[7])
 |83,4=>([1,2,15,16,17],[])
 |85,2=>([0,1,7,8],[])
 |87,2=>([0,1,7,8],[])
 |93,5=>([1,6,12,13,14],[6])
 |95,3=>([0,5,14,15,16],[5])
 |97,2=>([0,1,9,10,11],[0,1])
 |99,4=>([2,3,5],[])
 |101,7=>([1,3,5,7,31,32],[7])
 |105,3=>([2,3,5,6],[2,3,5])
 |105,8=>([5,7],[])
 |108,3=>([3,4,6,7],[4])
 |110,3=>([3,6,7,8],[3])
 |111,2=>([5,6,7],[])
 |122,3=>([0,3,9,10,11],[0,3])
 |122,11=>([6,25,26,27],[6])
 |123,8=>([7,8],[7])
 |124,2=>([0,3],[])
 |125,11=>([4,7,8,11,13,15,16],[4,7,8,13,15])
 |128,2=>([0,3,13,14,15],[0])
 |133,5=>([0,1,4,5,6],[4,5])
 |137,2=>([0,1,2,3,4,10,11],[])
 |141,2=>([0,3],[0])
 |141,7=>([0,3,4],[0,3])
 |142,2=>([0,1,5],[0])
 |142,8=>([0,1,5,6,7],[0,1,5])
 |146,2=>([1,3],[1])
 |147,2=>([0,1,5],[])
 |149,2=>([0,3,4,6],[4])
 |151,2=>([0,1,7,8],[])
 |164,5=>([0,1,5,6],[0,5])
 |167,2=>([0,3,7,8],[])
 |177,1=>([0,1,2,3,8],[])
 |177,4=>([0,1,2,3,8,9],[0,1,2,3,8])
 |178,4=>([0,3,8,9,10,11],[0,3,8,9,10])
 |178,8=>([0,3,8,9,12],[])
 |179,5=>([0,1,8,9,10,11],[])
 |181,2=>([0,8,9],[])
 |182,3=>([0,1,2,3,9,10],[])
 |182,5=>([0,1,2,3,9,10],[0,1,2,3,9,10])
 |182,14=>([0,1,2,3,9,10,11],[0,1,2,3,9,10])
 |182,20=>([0,1,2,3,9,10,12],[0,1,2,3,9,10])
 |183,3=>([0,1,4,11,12],[11])
 |183,5=>([0,1,4,11,12],[0,1,4,11,12])
 |184,3=>([0,1,4,12,13],[0,1,4,12,13])
 |184,5=>([0,1,4,12,13],[0,1,4,12,13])
 |184,13=>([0,1,4,12,13],[0,1,13])
 |184,15=>([0,1,4,12,13],[0,1,4,12,13])
 |187,2=>([0,1,5],[0])
 |188,2=>([0,3],[])
 |197,3=>([0,2,4,8,9,10],[0,2,4,8,9])
 |199,2=>([0,1,7,8],[])
 |200,1=>([0,2,3,4,10],[])
 |206,3=>([3,4],[3])
 |208,2=>([0,1,5],[])
 |209,2=>([0,1,7,8],[])
 |213,2=>([0,1,5],[])
 |229,2=>([0,1,7,8],[])
 |_,_=>([],[])
class Lv where
 loc:Option (List T→ah T):=none
 ring:Option (List T→ah T):=none
 gao:Option (List T→ah T):=none
 axf:Option (List T→ah T):=none
noncomputable def env [Lv]:Env where
 P:=Tryz.prog
 hint:=hints
 mode:=fun f=>match f with
  |35=>3
  |111=>3
  |112=>3
  |115=>3
  |116=>3
  |119=>3
  |121=>3
  |128=>3
  |164=>3
  |165=>1
  |170=>3
  |171=>3
  |172=>3
  |174=>3
  |176=>3
  |_=>0
 ext:=fun f=>match f with
  |32=>Lv.gao
  |60=>Lv.ring
  |76=>Lv.loc
  |165=>some (BJ 6 48)
  |_=>none
 agH:=fun f=>match f with
  |35=>true
  |71=>true
  |112=>true
  |115=>true
  |116=>true
  |119=>true
  |121=>true
  |170=>true
  |171=>true
  |172=>true
  |174=>true
  |176=>true
  |_=>false
 zM:=fun f=>match f with
  |155=>some (Rh 8)
  |_=>none
section
variable {β:Type} {N:Nat} {f:FuncId} {ts:List T} {r:ah β}
noncomputable def cl [Lv] (N:Nat) (f:FuncId) (ts:List T) (K:T→ah β):ah β:=ah.bind (ak env N f ts) K
noncomputable def iw [Lv] (N:Nat) (f:FuncId) (ts:List T) (K:Bool→ah β):ah β:=ah.bind (ak env N f ts) fun x=>bT x K
noncomputable def DI [Lv] (N:Nat) (f:FuncId) (ts:List T) (K:Int→ah β):ah β:=ah.bind (ak env N f ts) fun x=>iT .i64 x K
abbrev rB (b:Bool):ah T:= .ok (.bool b)
abbrev rI (n:Int):ah T:= .ok (i64 n)
def W (ts:List T) (r:ah β):ah β:=bif T.wfs ts then r else .absurd
theorem aH [Lv] {x:T} {K:T→ah β} (h:ak env N f ts= .ok x):cl N f ts K=K x:=by rw[cl,h]; rfl
theorem bJ [Lv] {b:Bool} {K:Bool→ah β} (h:ak env N f ts= .ok (.bool b)):iw N f ts K=K b:=by rw[iw,h]; rfl
theorem nG [Lv] {n:Int} {K:Int→ah β} (h:ak env N f ts= .ok (i64 n)):DI N f ts K=K n:=by rw[DI,h]; rfl
theorem aX (h:T.wfs ts=true):W ts r=r:=by rw[W,h]; rfl
end
end
section
open Go.RowKit Go.Proofs Go.ChangeShapes
theorem OH [Lv] (hloc:∀ e,Lv.loc=some e→xK env 76 e) (hring:∀ e,Lv.ring=some e→xK env 60 e) (aqL:∀ e,Lv.gao=some e→xK env 32 e):nK env where
 zM:=fun f g h=>by
  by_cases hg:f=155
  · subst hg
    have:g=Rh 8:=by
     have e:env.zM 155=some (Rh 8):=rfl
     rw[e] at h; injection h with h; exact h.symm
    subst this
    exact abA rfl (by kernel_rfl)
  have e:env.zM f=none:=by
   unfold env
   simp only[]
  rw[e] at h; cases h
 mixed:=by kernel_rfl
 named:=fun f fn h=>by
  have hall:(Tryz.prog.funcs.all fun fn=> !(fn.name== "runtime.NumGoroutine"))=true:=by kernel_rfl
  rw[Array.all_eq_true_iff_forall_mem] at hall
  have:=hall fn (Array.mem_of_getElem? h)
  simpa using this
 ext:=fun f e h=>by
  by_cases aoX:f=165
  · subst aoX
    have e1:env.ext 165=some (BJ 6 48):=rfl
    rw[e1] at h; injection h with h; subst h
    exact NQ rfl (by kernel_rfl) rfl
  by_cases aoZ:f=76
  · subst aoZ
    have e1:env.ext 76=Lv.loc:=rfl
    rw[e1] at h
    exact hloc e h
  by_cases amz:f=60
  · subst amz
    have e1:env.ext 60=Lv.ring:=rfl
    rw[e1] at h
    exact hring e h
  by_cases aoY:f=32
  · subst aoY
    have e1:env.ext 32=Lv.gao:=rfl
    rw[e1] at h
    exact aqL e h
  exfalso
  have e1:env.ext f=none:=by
   unfold env
   simp only[]
  rw[e1] at h; cases h
end
section
open Go.RowKit
structure Px where
 a:Int
 n:Int
 deriving DecidableEq,Inhabited
structure Pa where
 o:Int
 s:List Int
 h:Int
 c:Int
 deriving DecidableEq,Inhabited
structure En where
 x:Px
 p:Pa
 deriving DecidableEq,Inhabited
structure Nw where
 g:List Px
 p:Pa
 m:List Px
 deriving DecidableEq,Inhabited
def ints (s:List Int):List T:=s.map i64
def Px.t (x:Px):T:= .agg [i64 x.a,i64 x.n]
def Pa.t (p:Pa):T:= .agg [i64 p.o,.sl 1 (ints p.s),i64 p.h,i64 p.c]
def En.t (e:En):T:= .agg [i64 e.x.a,i64 e.x.n,i64 e.p.o,.sl 1 (ints e.p.s),i64 e.p.h,i64 e.p.c]
def Nw.t (n:Nw):T:= .agg [.sl 2 (n.g.map Px.t),i64 n.p.o,.sl 1 (ints n.p.s),i64 n.p.h,i64 n.p.c,.sl 2 (n.m.map Px.t)]
structure Px.ok (x:Px):Prop where
 a:aV x.a=true
 n:aV x.n=true
structure Pa.ok (p:Pa):Prop where
 o:aV p.o=true
 l:p.s.length≤big
 s:∀ i∈p.s,aV i=true
 h:aV p.h=true
 c:aV p.c=true
structure En.ok (e:En):Prop where
 x:e.x.ok
 p:e.p.ok
structure Nw.ok (n:Nw):Prop where
 g:∀ x∈n.g,x.ok
 gl:n.g.length≤big
 p:n.p.ok
 m:∀ x∈n.m,x.ok
 ml:n.m.length≤big
theorem Kt {s:List Int} (h:∀ i∈s,aV i=true):T.wfs (ints s)=true:=T.nC.2 fun x hx=>by
 obtain⟨i,hi,rfl⟩:=List.mem_map.1 hx
 simpa[T.wf] using h i hi
theorem Px.ok.wf {x:Px} (h:x.ok):x.t.wf=true:=by have:=h.a; have:=h.n; simp_all [Px.t,T.wf,T.wfs]
theorem Pa.ok.wf {p:Pa} (h:p.ok):p.t.wf=true:=by
 have h1:=h.o; have h2:=h.l; have h3:=Kt h.s; have h4:=h.h; have h5:=h.c
 simp only[aV] at h1 h4 h5
 simp[Pa.t,T.wf,T.wfs,h1,h3,h4,h5]
 simpa[ints] using h2
theorem En.ok.wf {e:En} (h:e.ok):e.t.wf=true:=by
 have h1:=h.p.o; have h2:=h.p.l; have h3:=Kt h.p.s; have h4:=h.p.h; have h5:=h.p.c; have h6:=h.x.a; have h7:=h.x.n
 simp only[aV] at h1 h4 h5 h6 h7
 simp[En.t,T.wf,T.wfs,h1,h3,h4,h5,h6,h7]
 simpa[ints] using h2
theorem ajy {α:Type} {f:α→T} {l:List α} (h:∀ x∈l,(f x).wf=true):T.wfs (l.map f)=true:=T.nC.2 fun x hx=>by
 obtain⟨i,hi,rfl⟩:=List.mem_map.1 hx
 exact h i hi
theorem wZ {α:Type} {f:α→T} {l:List α} {k:Nat} (hl:l.length≤big) (h:∀ x∈l,(f x).wf=true):(T.sl k (l.map f)).wf=true:=by
 simp only[T.wf,ajy h,Bool.and_true,decide_eq_true_eq,List.length_map]; exact hl
theorem Nw.ok.wf {n:Nw} (h:n.ok):n.t.wf=true:=by
 have a:=wZ (k:=2) h.gl fun x hx=>(h.g x hx).wf
 have b:=wZ (k:=2) h.ml fun x hx=>(h.m x hx).wf
 have h1:=h.p.o; have h2:=h.p.l; have h3:=Kt h.p.s; have h4:=h.p.h; have h5:=h.p.c
 simp only[aV] at h1 h4 h5
 have c:(T.sl 1 (ints n.p.s)).wf=true:=by simp[T.wf,h3]; simpa[ints] using h2
 simp only[T.wf] at a b c
 simp only[Nw.t,T.wf,T.wfs,Bool.and_true]
 simp only[a,b,c,h1,h4,h5,Bool.and_self,T.wfs,T.wf]
theorem gJ {x:T} (h:x.wf=true):T.wfs [x]=true:=by simp[T.wfs,h]
theorem dM {x y:T} (h:x.wf=true) (h2:y.wf=true):T.wfs [x,y]=true:=by simp[T.wfs,h,h2]
theorem yG {x y z:T} (h:x.wf=true) (h2:y.wf=true) (h3:z.wf=true):T.wfs [x,y,z]=true:=by simp[T.wfs,h,h2,h3]
theorem II (f:FuncId):(T.fn f [] []).wf=true:=by simp[T.wf,T.wfs]
theorem aZ {n:Int} (h:aV n=true):(i64 n).wf=true:=by simpa[T.wf] using h
def dF (p:Nat→Bool):Nat→Nat→Option Nat
 |_,0=>none
 |i,k+1=>bif p i then some i else dF p (i+1) k
theorem fB {B:St→ah (Ex×St)} {S R:Nat→St} {X:St} {id:Nat} (p:Nat→Bool):∀ (k i n:Nat),k < n→(∀ j,i≤j→j < i+k→p j=true→B (S j)= .ok (.ret,R j))→(∀ j,i≤j→j < i+k→p j=false→B (S j)= .ok (.norm,S (j+1)))→
 B (S (i+k))= .ok (.exit id,X)→bF B n (S i)=match dF p i k with|some j=> .ok (.ret,R j)|none=> .ok (.exit id,X)
 |0,i,n+1,_,_,_,h3=>by simp only[dF]; exact dV h3
 |k+1,i,n+1,hk,h1,h2,h3=>by
  cases hp:p i with
  |true=>simp only[dF,hp,cond_true]; exact dR (h1 i (by omega) (by omega) hp)
  |false=>
   simp only[dF,hp,cond_false]
   rw[bf (h2 i (by omega) (by omega) hp)]
   exact fB p k (i+1) n (by omega) (fun j a b=>h1 j (by omega) (by omega)) (fun j a b=>h2 j (by omega) (by omega)) (by rw[show i+1+k=i+(k+1) by omega]; exact h3)
theorem iK {p:Nat→Bool}:∀ {k i j:Nat},dF p i k=some j→i≤j∧j < i+k∧p j=true
 |0,i,j,h=>by simp[dF] at h
 |k+1,i,j,h=>by
  cases hp:p i with
  |true=>simp[dF,hp] at h; subst h; exact⟨by omega,by omega,hp⟩
  |false=>
   simp only[dF,hp,cond_false] at h
   have:=iK h
   exact⟨by omega,by omega,this.2.2⟩
theorem gI {p:Nat→Bool}:∀ {k i:Nat},dF p i k=none→∀ j,i≤j→j < i+k→p j=false
 |0,i,h,j,a,b=>by omega
 |k+1,i,h,j,a,b=>by
  cases hp:p i with
  |true=>simp[dF,hp] at h
  |false=>
   simp only[dF,hp,cond_false] at h
   rcases Nat.lt_or_ge i j with c|c
   · exact gI h j (by omega) (by omega)
   · have:j=i:=by omega
     subst this; exact hp
theorem acK {α:Type} {l:List α} {q:α→Bool} {p:Nat→Bool} (hp:∀ i x,l[i]? =some x→p i=q x):(dF p 0 l.length).isSome=l.any q:=by
 rw[Bool.eq_iff_iff,List.any_eq_true]
 constructor
 · intro h
   obtain⟨j,hj⟩:=Option.isSome_iff_exists.1 h
   obtain⟨_,b,c⟩:=iK hj
   have hlt:j < l.length:=by omega
   exact⟨l[j],List.getElem_mem _,by rw[←hp j _ (List.getElem?_eq_getElem hlt)]; exact c⟩
 · rintro⟨x,hx,hq⟩
   obtain⟨i,hi⟩:=List.getElem?_of_mem hx
   cases h:dF p 0 l.length with
   |some _=>rfl
   |none=>
    have:=gI h i (by omega) (by have:=(List.getElem?_eq_some_iff.1 hi).1; omega)
    rw[hp i x hi,hq] at this
    cases this
theorem aA {β:Type} {xs:List T} {i:Nat} {x:T} {K:T→ah β} (h:xs[i]? =some x):bK xs (i:Int) K=K x:=by
 simp only[bK,Int.toNat_natCast,h]
 rw[if_pos (by omega)]
theorem iV {s:List Int} {i:Nat} {x:Int} (h:s[i]? =some x):(ints s)[i]? =some (i64 x):=by simp[ints,h]
theorem aC {α:Type} {f:α→T} {l:List α} {i:Nat} {x:α} (h:l[i]? =some x):(l.map f)[i]? =some (f x):=by simp[h]
theorem EC {n:Nat} (h:n≤big+big):IntKind.i64.wrap (n:Int)=n:=wrap64 (by have:=aU; omega)
theorem wrap_succ {n:Nat} (h:n≤big):IntKind.i64.wrap ((n:Int)+1)=((n+1:Nat):Int):=by rw[wrap64 (by have:=aU; omega)]; omega
def rH:Option Nat→Int
 |some i=>i
 |none=> -1
theorem dI {β:Type} {n:Int} {K:Int→ah β}:iT .i64 (i64 n) K=K n:=by simp[iT]
theorem jW {β:Type} {b:Bool} {K:Bool→ah β}:bT (.bool b) K=K b:=rfl
abbrev u8 (n:Int):T:= .int .u8 n
def okI (n:Int):Prop:=aV n=true
def okB (n:Int):Prop:=kindOk .u8 n=true
def cO {α:Type} (p:α→Prop) (l:List α):Prop:=l.length≤big∧∀ x∈l,p x
theorem dD {α:Type} {f:α→T} {p:α→Prop} {k:Nat} (h:∀ x,p x→(f x).wf=true) {l:List α} (hl:cO p l):(T.sl k (l.map f)).wf=true:=wZ hl.1 fun x hx=>h x (hl.2 x hx)
theorem FD {l:List Int} (h:cO okB l):(T.sl 1 (l.map u8)).wf=true:=dD (p:=okB) (fun x hx=>by simpa[T.wf,okB] using hx) h
theorem qK {l:List Int} (h:cO okI l):(T.sl 1 (ints l)).wf=true:=dD (p:=okI) (fun x hx=>by simpa[T.wf,okI] using hx) h
theorem Px.ps (x:Px):x.t.cell 0=i64 x.a∧x.t.cell 1=i64 x.n:=⟨rfl,rfl⟩
theorem Pa.ps (x:Pa):x.t.cell 0=i64 x.o∧x.t.cell 1= .sl 1 (ints x.s)∧x.t.cell 2=i64 x.h∧x.t.cell 3=i64 x.c:=⟨rfl,rfl,rfl,rfl⟩
theorem En.ps (x:En):x.t.ay 0 2 true=x.x.t∧x.t.cell 0=i64 x.x.a∧x.t.cell 1=i64 x.x.n∧x.t.ay 2 4 true=x.p.t∧x.t.cell 2=i64 x.p.o∧x.t.cell 3= .sl 1 (ints x.p.s)∧x.t.cell 4=i64 x.p.h∧x.t.cell 5=i64 x.p.c:=⟨rfl,rfl,rfl,rfl,rfl,rfl,rfl,rfl⟩
theorem Nw.ps (x:Nw):x.t.cell 0= .sl 2 (x.g.map Px.t)∧x.t.ay 1 4 true=x.p.t∧x.t.cell 1=i64 x.p.o∧x.t.cell 2= .sl 1 (ints x.p.s)∧x.t.cell 3=i64 x.p.h∧x.t.cell 4=i64 x.p.c∧x.t.cell 5= .sl 2 (x.m.map Px.t):=⟨rfl,rfl,rfl,rfl,rfl,rfl,rfl⟩
structure Ru where
 m:Int
 x:Px
 v:Int
 a:Int
 n:Int
 deriving DecidableEq,Inhabited
def Ru.t (x:Ru):T:= .agg [i64 x.m,i64 x.x.a,i64 x.x.n,i64 x.v,i64 x.a,i64 x.n]
structure Ru.ok (q:Ru):Prop where
 m:aV q.m=true
 x:q.x.ok
 v:aV q.v=true
 a:aV q.a=true
 n:aV q.n=true
theorem Ru.ok.wf {x:Ru} (h:x.ok):x.t.wf=true:=by
 have h0:=h.m
 have h1:=h.x.wf
 have h2:=h.v
 have h3:=h.a
 have h4:=h.n
 simp only[Px.t,T.wf,T.wfs,Bool.and_true,Bool.and_eq_true,decide_eq_true_eq,aV,List.length_map] at h0 h1 h2 h3 h4
 simp[Ru.t,T.wf,T.wfs,h0,h1,h2,h3,h4]
theorem Ru.ps (x:Ru):x.t.cell 0=i64 x.m∧x.t.ay 1 2 true=x.x.t∧x.t.cell 1=i64 x.x.a∧x.t.cell 2=i64 x.x.n∧x.t.cell 3=i64 x.v∧x.t.cell 4=i64 x.a∧x.t.cell 5=i64 x.n:=⟨rfl,rfl,rfl,rfl,rfl,rfl,rfl⟩
structure Sd where
 a:Int
 r:Int
 i:List Ru
 o:List Ru
 deriving DecidableEq,Inhabited
def Sd.t (x:Sd):T:= .agg [i64 x.a,i64 x.r,.sl 6 (x.i.map Ru.t),.sl 6 (x.o.map Ru.t)]
structure Sd.ok (q:Sd):Prop where
 a:aV q.a=true
 r:aV q.r=true
 i:cO Ru.ok q.i
 o:cO Ru.ok q.o
theorem Sd.ok.wf {x:Sd} (h:x.ok):x.t.wf=true:=by
 have h0:=h.a
 have h1:=h.r
 have h2:=dD (k:=6) (fun _=>(fun h=>Ru.ok.wf h)) h.i
 have h3:=dD (k:=6) (fun _=>(fun h=>Ru.ok.wf h)) h.o
 simp only[T.wf,T.wfs,Bool.and_true,Bool.and_eq_true,decide_eq_true_eq,aV,List.length_map] at h0 h1 h2 h3
 simp[Sd.t,T.wf,T.wfs,h0,h1,h2,h3]
theorem Sd.ps (x:Sd):x.t.cell 0=i64 x.a∧x.t.cell 1=i64 x.r∧x.t.cell 2= .sl 6 (x.i.map Ru.t)∧x.t.cell 3= .sl 6 (x.o.map Ru.t):=⟨rfl,rfl,rfl,rfl⟩
structure Cf where
 a:Int
 d:Int
 h:Int
 k:Int
 w:List Px
 s:List Sd
 deriving DecidableEq,Inhabited
def Cf.t (x:Cf):T:= .agg [i64 x.a,i64 x.d,i64 x.h,i64 x.k,.sl 2 (x.w.map Px.t),.sl 4 (x.s.map Sd.t)]
structure Cf.ok (q:Cf):Prop where
 a:aV q.a=true
 d:aV q.d=true
 h:aV q.h=true
 k:aV q.k=true
 w:cO Px.ok q.w
 s:cO Sd.ok q.s
theorem Cf.ok.wf {x:Cf} (h:x.ok):x.t.wf=true:=by
 have h0:=h.a
 have h1:=h.d
 have h2:=h.h
 have h3:=h.k
 have h4:=dD (k:=2) (fun _=>(fun h=>Px.ok.wf h)) h.w
 have h5:=dD (k:=4) (fun _=>(fun h=>Sd.ok.wf h)) h.s
 simp only[T.wf,T.wfs,Bool.and_true,Bool.and_eq_true,decide_eq_true_eq,aV,List.length_map] at h0 h1 h2 h3 h4 h5
 simp[Cf.t,T.wf,T.wfs,h0,h1,h2,h3,h4,h5]
theorem Cf.ps (x:Cf):x.t.cell 0=i64 x.a∧x.t.cell 1=i64 x.d∧x.t.cell 2=i64 x.h∧x.t.cell 3=i64 x.k∧x.t.cell 4= .sl 2 (x.w.map Px.t)∧x.t.cell 5= .sl 4 (x.s.map Sd.t):=⟨rfl,rfl,rfl,rfl,rfl,rfl⟩
structure Vw where
 x:Px
 s:List Int
 c:Int
 deriving DecidableEq,Inhabited
def Vw.t (x:Vw):T:= .agg [i64 x.x.a,i64 x.x.n,.sl 1 (ints x.s),i64 x.c]
structure Vw.ok (q:Vw):Prop where
 x:q.x.ok
 s:cO okI q.s
 c:aV q.c=true
theorem Vw.ok.wf {x:Vw} (h:x.ok):x.t.wf=true:=by
 have h0:=h.x.wf
 have h1:=qK h.s
 have h2:=h.c
 simp only[Px.t,T.wf,T.wfs,Bool.and_true,Bool.and_eq_true,decide_eq_true_eq,aV,List.length_map] at h0 h1 h2
 simp[Vw.t,T.wf,T.wfs,h0,h1,h2]
theorem Vw.ps (x:Vw):x.t.ay 0 2 true=x.x.t∧x.t.cell 0=i64 x.x.a∧x.t.cell 1=i64 x.x.n∧x.t.cell 2= .sl 1 (ints x.s)∧x.t.cell 3=i64 x.c:=⟨rfl,rfl,rfl,rfl,rfl⟩
structure Rt where
 n:Int
 p:Pa
 f:Int
 deriving DecidableEq,Inhabited
def Rt.t (x:Rt):T:= .agg [i64 x.n,i64 x.p.o,.sl 1 (ints x.p.s),i64 x.p.h,i64 x.p.c,i64 x.f]
structure Rt.ok (q:Rt):Prop where
 n:aV q.n=true
 p:q.p.ok
 f:aV q.f=true
theorem Rt.ok.wf {x:Rt} (h:x.ok):x.t.wf=true:=by
 have h0:=h.n
 have h1:=h.p.wf
 have h2:=h.f
 simp only[Pa.t,T.wf,T.wfs,Bool.and_true,Bool.and_eq_true,decide_eq_true_eq,aV,List.length_map] at h0 h1 h2
 simp[Rt.t,T.wf,T.wfs,h0,h1,h2]
theorem Rt.ps (x:Rt):x.t.cell 0=i64 x.n∧x.t.ay 1 4 true=x.p.t∧x.t.cell 1=i64 x.p.o∧x.t.cell 2= .sl 1 (ints x.p.s)∧x.t.cell 3=i64 x.p.h∧x.t.cell 4=i64 x.p.c∧x.t.cell 5=i64 x.f:=⟨rfl,rfl,rfl,rfl,rfl,rfl,rfl⟩
structure Ch where
 x:Px
 r:Rt
 deriving DecidableEq,Inhabited
def Ch.t (x:Ch):T:= .agg [i64 x.x.a,i64 x.x.n,i64 x.r.n,i64 x.r.p.o,.sl 1 (ints x.r.p.s),i64 x.r.p.h,i64 x.r.p.c,i64 x.r.f]
structure Ch.ok (q:Ch):Prop where
 x:q.x.ok
 r:q.r.ok
theorem Ch.ok.wf {x:Ch} (h:x.ok):x.t.wf=true:=by
 have h0:=h.x.wf
 have h1:=h.r.wf
 simp only[Px.t,Rt.t,T.wf,T.wfs,Bool.and_true,Bool.and_eq_true,decide_eq_true_eq,aV,List.length_map] at h0 h1
 simp[Ch.t,T.wf,T.wfs,h0,h1]
theorem Ch.ps (x:Ch):x.t.ay 0 2 true=x.x.t∧x.t.cell 0=i64 x.x.a∧x.t.cell 1=i64 x.x.n∧x.t.ay 2 6 true=x.r.t∧x.t.cell 2=i64 x.r.n∧x.t.ay 3 4 true=x.r.p.t∧x.t.cell 7=i64 x.r.f:=⟨rfl,rfl,rfl,rfl,rfl,rfl,rfl⟩
structure Lk where
 a:Int
 b:Int
 r:Int
 deriving DecidableEq,Inhabited
def Lk.t (x:Lk):T:= .agg [i64 x.a,i64 x.b,i64 x.r]
structure Lk.ok (q:Lk):Prop where
 a:aV q.a=true
 b:aV q.b=true
 r:aV q.r=true
theorem Lk.ok.wf {x:Lk} (h:x.ok):x.t.wf=true:=by
 have h0:=h.a
 have h1:=h.b
 have h2:=h.r
 simp only[T.wf,T.wfs,Bool.and_true,Bool.and_eq_true,decide_eq_true_eq,aV,List.length_map] at h0 h1 h2
 simp[Lk.t,T.wf,T.wfs,h0,h1,h2]
theorem Lk.ps (x:Lk):x.t.cell 0=i64 x.a∧x.t.cell 1=i64 x.b∧x.t.cell 2=i64 x.r:=⟨rfl,rfl,rfl⟩
structure Ss where
 s:Int
 h:Int
 l:Int
 k:Int
 deriving DecidableEq,Inhabited
def Ss.t (x:Ss):T:= .agg [i64 x.s,i64 x.h,i64 x.l,i64 x.k]
structure Ss.ok (q:Ss):Prop where
 s:aV q.s=true
 h:aV q.h=true
 l:aV q.l=true
 k:aV q.k=true
theorem Ss.ok.wf {x:Ss} (h:x.ok):x.t.wf=true:=by
 have h0:=h.s
 have h1:=h.h
 have h2:=h.l
 have h3:=h.k
 simp only[T.wf,T.wfs,Bool.and_true,Bool.and_eq_true,decide_eq_true_eq,aV,List.length_map] at h0 h1 h2 h3
 simp[Ss.t,T.wf,T.wfs,h0,h1,h2,h3]
theorem Ss.ps (x:Ss):x.t.cell 0=i64 x.s∧x.t.cell 1=i64 x.h∧x.t.cell 2=i64 x.l∧x.t.cell 3=i64 x.k:=⟨rfl,rfl,rfl,rfl⟩
structure Nd where
 c:Cf
 s:List Ss
 i:List (List En)
 o:List (List En)
 b:List (List Int)
 deriving DecidableEq,Inhabited
def Nd.t (x:Nd):T:= .agg [i64 x.c.a,i64 x.c.d,i64 x.c.h,i64 x.c.k,.sl 2 (x.c.w.map Px.t),.sl 4 (x.c.s.map Sd.t),.sl 4 (x.s.map Ss.t),.sl 1 (x.i.map fun y=> .sl 6 (y.map En.t)),.sl 1 (x.o.map fun y=> .sl 6 (y.map En.t)),.sl 1 (x.b.map fun y=> .sl 1 (y.map u8))]
structure Nd.ok (q:Nd):Prop where
 c:q.c.ok
 s:cO Ss.ok q.s
 i:cO (cO En.ok) q.i
 o:cO (cO En.ok) q.o
 b:cO (cO okB) q.b
theorem Nd.ok.wf {x:Nd} (h:x.ok):x.t.wf=true:=by
 have h0:=h.c.wf
 have h1:=dD (k:=4) (fun _=>(fun h=>Ss.ok.wf h)) h.s
 have h2:=dD (k:=1) (fun _=>(fun h=>dD (k:=6) (fun _=>(fun h=>En.ok.wf h)) h)) h.i
 have h3:=dD (k:=1) (fun _=>(fun h=>dD (k:=6) (fun _=>(fun h=>En.ok.wf h)) h)) h.o
 have h4:=dD (k:=1) (fun _=>FD) h.b
 simp only[Cf.t,T.wf,T.wfs,Bool.and_true,Bool.and_eq_true,decide_eq_true_eq,aV,List.length_map] at h0 h1 h2 h3 h4
 simp[Nd.t,T.wf,T.wfs,h0,h1,h2,h3,h4]
theorem Nd.ps (x:Nd):x.t.ay 0 6 true=x.c.t∧x.t.cell 0=i64 x.c.a∧x.t.cell 1=i64 x.c.d∧x.t.cell 2=i64 x.c.h∧x.t.cell 3=i64 x.c.k∧x.t.cell 4= .sl 2 (x.c.w.map Px.t)∧x.t.cell 5= .sl 4 (x.c.s.map Sd.t)∧x.t.cell 6= .sl 4 (x.s.map Ss.t)∧x.t.cell 7= .sl 1 (x.i.map fun y=> .sl 6 (y.map En.t))∧x.t.cell 8= .sl 1 (x.o.map fun y=> .sl 6 (y.map En.t))∧x.t.cell 9= .sl 1 (x.b.map fun y=> .sl 1 (y.map u8)):=⟨rfl,rfl,rfl,rfl,rfl,rfl,rfl,rfl,rfl,rfl,rfl⟩
structure Nt where
 n:List Nd
 q:List (List (List Int))
 deriving DecidableEq,Inhabited
def Nt.t (x:Nt):T:= .agg [.sl 10 (x.n.map Nd.t),.sl 1 (x.q.map fun y=> .sl 1 (y.map fun y=> .sl 1 (y.map u8)))]
structure Nt.ok (q:Nt):Prop where
 n:cO Nd.ok q.n
 q:cO (cO (cO okB)) q.q
theorem Nt.ok.wf {x:Nt} (h:x.ok):x.t.wf=true:=by
 have h0:=dD (k:=10) (fun _=>(fun h=>Nd.ok.wf h)) h.n
 have h1:=dD (k:=1) (fun _=>(fun h=>dD (k:=1) (fun _=>FD) h)) h.q
 simp only[T.wf,T.wfs,Bool.and_true,Bool.and_eq_true,decide_eq_true_eq,aV,List.length_map] at h0 h1
 simp[Nt.t,T.wf,T.wfs,h0,h1]
theorem Nt.ps (x:Nt):x.t.cell 0= .sl 10 (x.n.map Nd.t)∧x.t.cell 1= .sl 1 (x.q.map fun y=> .sl 1 (y.map fun y=> .sl 1 (y.map u8))):=⟨rfl,rfl⟩
structure Ms where
 y:Int
 b:List Int
 deriving DecidableEq,Inhabited
def Ms.t (x:Ms):T:= .agg [i64 x.y,.sl 1 (x.b.map u8)]
structure Ms.ok (q:Ms):Prop where
 y:aV q.y=true
 b:cO okB q.b
theorem Ms.ok.wf {x:Ms} (h:x.ok):x.t.wf=true:=by
 have h0:=h.y
 have h1:=FD h.b
 simp only[T.wf,T.wfs,Bool.and_true,Bool.and_eq_true,decide_eq_true_eq,aV,List.length_map] at h0 h1
 simp[Ms.t,T.wf,T.wfs,h0,h1]
theorem Ms.ps (x:Ms):x.t.cell 0=i64 x.y∧x.t.cell 1= .sl 1 (x.b.map u8):=⟨rfl,rfl⟩
structure No where
 c:Int
 s:Int
 d:List Int
 deriving DecidableEq,Inhabited
def No.t (x:No):T:= .agg [i64 x.c,i64 x.s,.sl 1 (x.d.map u8)]
structure No.ok (q:No):Prop where
 c:aV q.c=true
 s:aV q.s=true
 d:cO okB q.d
theorem No.ok.wf {x:No} (h:x.ok):x.t.wf=true:=by
 have h0:=h.c
 have h1:=h.s
 have h2:=FD h.d
 simp only[T.wf,T.wfs,Bool.and_true,Bool.and_eq_true,decide_eq_true_eq,aV,List.length_map] at h0 h1 h2
 simp[No.t,T.wf,T.wfs,h0,h1,h2]
theorem No.ps (x:No):x.t.cell 0=i64 x.c∧x.t.cell 1=i64 x.s∧x.t.cell 2= .sl 1 (x.d.map u8):=⟨rfl,rfl,rfl⟩
structure At where
 f:Int
 y:Int
 d:List Int
 deriving DecidableEq,Inhabited
def At.t (x:At):T:= .agg [i64 x.f,i64 x.y,.sl 1 (x.d.map u8)]
structure At.ok (q:At):Prop where
 f:aV q.f=true
 y:aV q.y=true
 d:cO okB q.d
theorem At.ok.wf {x:At} (h:x.ok):x.t.wf=true:=by
 have h0:=h.f
 have h1:=h.y
 have h2:=FD h.d
 simp only[T.wf,T.wfs,Bool.and_true,Bool.and_eq_true,decide_eq_true_eq,aV,List.length_map] at h0 h1 h2
 simp[At.t,T.wf,T.wfs,h0,h1,h2]
theorem At.ps (x:At):x.t.cell 0=i64 x.f∧x.t.cell 1=i64 x.y∧x.t.cell 2= .sl 1 (x.d.map u8):=⟨rfl,rfl,rfl⟩
structure He where
 a:Int
 h:Int
 d:Int
 r:Int
 deriving DecidableEq,Inhabited
def He.t (x:He):T:= .agg [i64 x.a,i64 x.h,i64 x.d,i64 x.r]
structure He.ok (q:He):Prop where
 a:aV q.a=true
 h:aV q.h=true
 d:aV q.d=true
 r:aV q.r=true
theorem He.ok.wf {x:He} (h:x.ok):x.t.wf=true:=by
 have h0:=h.a
 have h1:=h.h
 have h2:=h.d
 have h3:=h.r
 simp only[T.wf,T.wfs,Bool.and_true,Bool.and_eq_true,decide_eq_true_eq,aV,List.length_map] at h0 h1 h2 h3
 simp[He.t,T.wf,T.wfs,h0,h1,h2,h3]
theorem He.ps (x:He):x.t.cell 0=i64 x.a∧x.t.cell 1=i64 x.h∧x.t.cell 2=i64 x.d∧x.t.cell 3=i64 x.r:=⟨rfl,rfl,rfl,rfl⟩
structure Op where
 k:Int
 a:Int
 b:Int
 n:Int
 d:List Int
 deriving DecidableEq,Inhabited
def Op.t (x:Op):T:= .agg [i64 x.k,i64 x.a,i64 x.b,i64 x.n,.sl 1 (x.d.map u8)]
structure Op.ok (q:Op):Prop where
 k:aV q.k=true
 a:aV q.a=true
 b:aV q.b=true
 n:aV q.n=true
 d:cO okB q.d
theorem Op.ok.wf {x:Op} (h:x.ok):x.t.wf=true:=by
 have h0:=h.k
 have h1:=h.a
 have h2:=h.b
 have h3:=h.n
 have h4:=FD h.d
 simp only[T.wf,T.wfs,Bool.and_true,Bool.and_eq_true,decide_eq_true_eq,aV,List.length_map] at h0 h1 h2 h3 h4
 simp[Op.t,T.wf,T.wfs,h0,h1,h2,h3,h4]
theorem Op.ps (x:Op):x.t.cell 0=i64 x.k∧x.t.cell 1=i64 x.a∧x.t.cell 2=i64 x.b∧x.t.cell 3=i64 x.n∧x.t.cell 4= .sl 1 (x.d.map u8):=⟨rfl,rfl,rfl,rfl,rfl⟩
end
section
open Go.RowKit Go.Proofs
def XT (P:Program) (t:TypeId):Option (List TypeId):=match P.underlying t with|some (.struct fs)=>some (fs.toList.map (·.type))|_=>none
theorem pU {P:Program} {n:Nat} {t:TypeId} {ts:List TypeId} {xs:List T} (hu:XT P t=some ts) (h:uy P (n+1) t xs):
 ∃ parts:List (List T),parts.length=ts.length∧(∀ (i:Nat) (u:TypeId) (p:List T),ts[i]? =some u→parts[i]? =some p→uy P n u p)∧xs=parts.flatten:=by
 unfold XT at hu
 unfold uy at h
 split at hu
 · rename_i fs e
   injection hu with hu
   subst hu
   simp only[e] at h
   obtain⟨parts,h1,h2,h3⟩:=h
   refine⟨parts,by simpa using h1,fun i u p a b=>?_,h3⟩
   rw[List.getElem?_map,Option.map_eq_some_iff] at a
   obtain⟨f,a,rfl⟩:=a
   exact h2 i f p a b
 · cases hu
theorem jP {P:Program} {n:Nat} {t:TypeId} {k:IntKind} {xs:List T} (hu:P.underlying t=some (.int k)) (h:uy P (n+1) t xs):∃ i,xs= [.int k i]∧kindOk k i=true:=by
 unfold uy at h
 simpa only[hu] using h
theorem rV {P:Program} {n:Nat} {t e:TypeId} {xs:List T} (hu:P.underlying t=some (.slice e)) (h:uy P (n+1) t xs):∃ ys,xs= [.sl (P.cellsOf e) ys]∧ys.length*P.bytesOf e≤reachBytes∧∀ y∈ys,∃ cs,uy P n e cs∧y=elC (P.cellsOf e) cs:=by
 unfold uy at h
 simpa only[hu] using h
theorem wP {α:Type} {f:α→T} {q:α→Prop}:∀ {ys:List T},(∀ y∈ys,∃ a,y=f a∧q a)→∃ l:List α,ys=l.map f∧∀ a∈l,q a
 | [],_=>⟨[],rfl,by simp⟩
 |y::ys,h=>by
  obtain⟨a,rfl,ha⟩:=h y List.mem_cons_self
  obtain⟨l,rfl,hl⟩:=wP (f:=f) (q:=q) (fun z hz=>h z (List.mem_cons_of_mem _ hz))
  exact⟨a::l,rfl,fun b hb=>(List.mem_cons.1 hb).elim (fun e=>e ▸ ha) (hl b)⟩
theorem pR {n b:Nat} (h:n*(b+1)≤reachBytes):n≤big:=by
 have h6:reachBytes≤big:=by decide
 have:n≤n*(b+1):=Nat.le_mul_of_pos_right _ (by omega)
 omega
theorem u_i:Tryz.prog.underlying 3=some (.int .i64):=by kernel_rfl
theorem ang:Tryz.prog.underlying 4=some .bool:=by kernel_rfl
theorem aoI:XT Tryz.prog 25=some [3,3]:=by kernel_rfl
theorem Qb {n:Nat} {xs:List T} (h:uy Tryz.prog (n+2) 25 xs):∃ x:Px,xs= [i64 x.a,i64 x.n]∧x.ok:=by
 obtain⟨parts,h1,h2,rfl⟩:=pU aoI h
 match parts,h1 with
 | [p0,p1],_=>
  obtain⟨f0,rfl,k0⟩:=jP u_i (h2 0 3 p0 rfl rfl)
  obtain⟨f1,rfl,k1⟩:=jP u_i (h2 1 3 p1 rfl rfl)
  exact⟨⟨f0,f1⟩,rfl,k0,k1⟩
theorem anc:Tryz.prog.underlying 53=some (.slice 25):=by kernel_rfl
theorem aly:Tryz.prog.cellsOf 25=2:=by kernel_rfl
theorem anl:Tryz.prog.bytesOf 25=16:=by kernel_rfl
theorem agr {n:Nat} {xs:List T} (h:uy Tryz.prog (n+3) 53 xs):∃ l:List Px,xs= [T.sl 2 (l.map Px.t)]∧cO Px.ok l∧l.length*16≤reachBytes:=by
 obtain⟨ys,rfl,h1,h2⟩:=rV anc h
 rw[anl] at h1
 rw[aly] at h2 ⊢
 obtain⟨l,rfl,hl⟩:=wP (f:=Px.t) (q:=Px.ok) (ys:=ys) fun y hy=>by
  obtain⟨cs,h3,rfl⟩:=h2 y hy
  obtain⟨x,rfl,hx⟩:=Qb h3
  exact⟨x,rfl,hx⟩
 rw[List.length_map] at h1
 exact⟨l,rfl,⟨pR h1,hl⟩,h1⟩
theorem atv:XT Tryz.prog 123=some [3,25,3,3,3]:=by kernel_rfl
theorem am6 {n:Nat} {xs:List T} (h:uy Tryz.prog (n+3) 123 xs):∃ x:Ru,xs= [i64 x.m,i64 x.x.a,i64 x.x.n,i64 x.v,i64 x.a,i64 x.n]∧x.ok:=by
 obtain⟨parts,h1,h2,rfl⟩:=pU atv h
 match parts,h1 with
 | [p0,p1,p2,p3,p4],_=>
  obtain⟨f0,rfl,k0⟩:=jP u_i (h2 0 3 p0 rfl rfl)
  obtain⟨f1,rfl,k1⟩:=Qb (h2 1 25 p1 rfl rfl)
  obtain⟨f2,rfl,k2⟩:=jP u_i (h2 2 3 p2 rfl rfl)
  obtain⟨f3,rfl,k3⟩:=jP u_i (h2 3 3 p3 rfl rfl)
  obtain⟨f4,rfl,k4⟩:=jP u_i (h2 4 3 p4 rfl rfl)
  exact⟨⟨f0,f1,f2,f3,f4⟩,rfl,k0,k1,k2,k3,k4⟩
theorem ane:Tryz.prog.underlying 84=some (.slice 123):=by kernel_rfl
theorem alz:Tryz.prog.cellsOf 123=6:=by kernel_rfl
theorem anm:Tryz.prog.bytesOf 123=48:=by kernel_rfl
theorem Vo {n:Nat} {xs:List T} (h:uy Tryz.prog (n+4) 84 xs):∃ l:List Ru,xs= [T.sl 6 (l.map Ru.t)]∧cO Ru.ok l∧l.length*48≤reachBytes:=by
 obtain⟨ys,rfl,h1,h2⟩:=rV ane h
 rw[anm] at h1
 rw[alz] at h2 ⊢
 obtain⟨l,rfl,hl⟩:=wP (f:=Ru.t) (q:=Ru.ok) (ys:=ys) fun y hy=>by
  obtain⟨cs,h3,rfl⟩:=h2 y hy
  obtain⟨x,rfl,hx⟩:=am6 h3
  exact⟨x,rfl,hx⟩
 rw[List.length_map] at h1
 exact⟨l,rfl,⟨pR h1,hl⟩,h1⟩
theorem atw:XT Tryz.prog 86=some [3,3,84,84]:=by kernel_rfl
theorem am7 {n:Nat} {xs:List T} (h:uy Tryz.prog (n+5) 86 xs):∃ x:Sd,xs= [i64 x.a,i64 x.r,T.sl 6 (x.i.map Ru.t),T.sl 6 (x.o.map Ru.t)]∧x.ok:=by
 obtain⟨parts,h1,h2,rfl⟩:=pU atw h
 match parts,h1 with
 | [p0,p1,p2,p3],_=>
  obtain⟨f0,rfl,k0⟩:=jP u_i (h2 0 3 p0 rfl rfl)
  obtain⟨f1,rfl,k1⟩:=jP u_i (h2 1 3 p1 rfl rfl)
  obtain⟨f2,rfl,k2,_⟩:=Vo (h2 2 84 p2 rfl rfl)
  obtain⟨f3,rfl,k3,_⟩:=Vo (h2 3 84 p3 rfl rfl)
  exact⟨⟨f0,f1,f2,f3⟩,rfl,k0,k1,k2,k3⟩
theorem anf:Tryz.prog.underlying 54=some (.slice 86):=by kernel_rfl
theorem alA:Tryz.prog.cellsOf 86=4:=by kernel_rfl
theorem ano:Tryz.prog.bytesOf 86=64:=by kernel_rfl
theorem ags {n:Nat} {xs:List T} (h:uy Tryz.prog (n+6) 54 xs):∃ l:List Sd,xs= [T.sl 4 (l.map Sd.t)]∧cO Sd.ok l∧l.length*64≤reachBytes:=by
 obtain⟨ys,rfl,h1,h2⟩:=rV anf h
 rw[ano] at h1
 rw[alA] at h2 ⊢
 obtain⟨l,rfl,hl⟩:=wP (f:=Sd.t) (q:=Sd.ok) (ys:=ys) fun y hy=>by
  obtain⟨cs,h3,rfl⟩:=h2 y hy
  obtain⟨x,rfl,hx⟩:=am7 h3
  exact⟨x,rfl,hx⟩
 rw[List.length_map] at h1
 exact⟨l,rfl,⟨pR h1,hl⟩,h1⟩
theorem atq:XT Tryz.prog 56=some [3,3,3,3,53,54]:=by kernel_rfl
theorem am2 {n:Nat} {xs:List T} (h:uy Tryz.prog (n+7) 56 xs):∃ x:Cf,xs= [i64 x.a,i64 x.d,i64 x.h,i64 x.k,T.sl 2 (x.w.map Px.t),T.sl 4 (x.s.map Sd.t)]∧x.ok:=by
 obtain⟨parts,h1,h2,rfl⟩:=pU atq h
 match parts,h1 with
 | [p0,p1,p2,p3,p4,p5],_=>
  obtain⟨f0,rfl,k0⟩:=jP u_i (h2 0 3 p0 rfl rfl)
  obtain⟨f1,rfl,k1⟩:=jP u_i (h2 1 3 p1 rfl rfl)
  obtain⟨f2,rfl,k2⟩:=jP u_i (h2 2 3 p2 rfl rfl)
  obtain⟨f3,rfl,k3⟩:=jP u_i (h2 3 3 p3 rfl rfl)
  obtain⟨f4,rfl,k4,_⟩:=agr (h2 4 53 p4 rfl rfl)
  obtain⟨f5,rfl,k5,_⟩:=ags (h2 5 54 p5 rfl rfl)
  exact⟨⟨f0,f1,f2,f3,f4,f5⟩,rfl,k0,k1,k2,k3,k4,k5⟩
theorem afa:Tryz.prog.underlying 22=some (.slice 56):=by kernel_rfl
theorem alv:Tryz.prog.cellsOf 56=6:=by kernel_rfl
theorem anj:Tryz.prog.bytesOf 56=80:=by kernel_rfl
theorem agp {n:Nat} {xs:List T} (h:uy Tryz.prog (n+8) 22 xs):∃ l:List Cf,xs= [T.sl 6 (l.map Cf.t)]∧cO Cf.ok l∧l.length*80≤reachBytes:=by
 obtain⟨ys,rfl,h1,h2⟩:=rV afa h
 rw[anj] at h1
 rw[alv] at h2 ⊢
 obtain⟨l,rfl,hl⟩:=wP (f:=Cf.t) (q:=Cf.ok) (ys:=ys) fun y hy=>by
  obtain⟨cs,h3,rfl⟩:=h2 y hy
  obtain⟨x,rfl,hx⟩:=am2 h3
  exact⟨x,rfl,hx⟩
 rw[List.length_map] at h1
 exact⟨l,rfl,⟨pR h1,hl⟩,h1⟩
theorem ajt:vg Tryz.prog 8 22=true:=by kernel_rfl
theorem anh:Tryz.prog.underlying 31=some (.slice 3):=by kernel_rfl
theorem alB:Tryz.prog.cellsOf 3=1:=by kernel_rfl
theorem anp:Tryz.prog.bytesOf 3=8:=by kernel_rfl
theorem agt {n:Nat} {xs:List T} (h:uy Tryz.prog (n+2) 31 xs):∃ s:List Int,xs= [T.sl 1 (ints s)]∧cO okI s∧s.length*8≤reachBytes:=by
 obtain⟨ys,rfl,h1,h2⟩:=rV anh h
 rw[anp] at h1
 rw[alB] at h2 ⊢
 obtain⟨l,rfl,hl⟩:=wP (f:=i64) (q:=okI) (ys:=ys) fun y hy=>by
  obtain⟨cs,h3,rfl⟩:=h2 y hy
  obtain⟨i,rfl,hi⟩:=jP u_i h3
  exact⟨i,rfl,hi⟩
 rw[List.length_map] at h1
 exact⟨l,rfl,⟨pR h1,hl⟩,h1⟩
theorem att:XT Tryz.prog 42=some [3,31,3,3]:=by kernel_rfl
theorem am4 {n:Nat} {xs:List T} (h:uy Tryz.prog (n+3) 42 xs):∃ x:Pa,xs= [i64 x.o,T.sl 1 (ints x.s),i64 x.h,i64 x.c]∧x.ok:=by
 obtain⟨parts,h1,h2,rfl⟩:=pU att h
 match parts,h1 with
 | [p0,p1,p2,p3],_=>
  obtain⟨f0,rfl,k0⟩:=jP u_i (h2 0 3 p0 rfl rfl)
  obtain⟨f1,rfl,k1,_⟩:=agt (h2 1 31 p1 rfl rfl)
  obtain⟨f2,rfl,k2⟩:=jP u_i (h2 2 3 p2 rfl rfl)
  obtain⟨f3,rfl,k3⟩:=jP u_i (h2 3 3 p3 rfl rfl)
  exact⟨⟨f0,f1,f2,f3⟩,rfl,k0,k1.1,k1.2,k2,k3⟩
theorem atu:XT Tryz.prog 44=some [3,42,3]:=by kernel_rfl
theorem am5 {n:Nat} {xs:List T} (h:uy Tryz.prog (n+4) 44 xs):∃ x:Rt,xs= [i64 x.n,i64 x.p.o,T.sl 1 (ints x.p.s),i64 x.p.h,i64 x.p.c,i64 x.f]∧x.ok:=by
 obtain⟨parts,h1,h2,rfl⟩:=pU atu h
 match parts,h1 with
 | [p0,p1,p2],_=>
  obtain⟨f0,rfl,k0⟩:=jP u_i (h2 0 3 p0 rfl rfl)
  obtain⟨f1,rfl,k1⟩:=am4 (h2 1 42 p1 rfl rfl)
  obtain⟨f2,rfl,k2⟩:=jP u_i (h2 2 3 p2 rfl rfl)
  exact⟨⟨f0,f1,f2⟩,rfl,k0,k1,k2⟩
theorem atr:XT Tryz.prog 46=some [25,44]:=by kernel_rfl
theorem am3 {n:Nat} {xs:List T} (h:uy Tryz.prog (n+5) 46 xs):∃ x:Ch,xs= [i64 x.x.a,i64 x.x.n,i64 x.r.n,i64 x.r.p.o,T.sl 1 (ints x.r.p.s),i64 x.r.p.h,i64 x.r.p.c,i64 x.r.f]∧x.ok:=by
 obtain⟨parts,h1,h2,rfl⟩:=pU atr h
 match parts,h1 with
 | [p0,p1],_=>
  obtain⟨f0,rfl,k0⟩:=Qb (h2 0 25 p0 rfl rfl)
  obtain⟨f1,rfl,k1⟩:=am5 (h2 1 44 p1 rfl rfl)
  exact⟨⟨f0,f1⟩,rfl,k0,k1⟩
theorem anb:Tryz.prog.underlying 40=some (.slice 46):=by kernel_rfl
theorem alx:Tryz.prog.cellsOf 46=8:=by kernel_rfl
theorem ank:Tryz.prog.bytesOf 46=80:=by kernel_rfl
theorem agq {n:Nat} {xs:List T} (h:uy Tryz.prog (n+6) 40 xs):∃ l:List Ch,xs= [T.sl 8 (l.map Ch.t)]∧cO Ch.ok l∧l.length*80≤reachBytes:=by
 obtain⟨ys,rfl,h1,h2⟩:=rV anb h
 rw[ank] at h1
 rw[alx] at h2 ⊢
 obtain⟨l,rfl,hl⟩:=wP (f:=Ch.t) (q:=Ch.ok) (ys:=ys) fun y hy=>by
  obtain⟨cs,h3,rfl⟩:=h2 y hy
  obtain⟨x,rfl,hx⟩:=am3 h3
  exact⟨x,rfl,hx⟩
 rw[List.length_map] at h1
 exact⟨l,rfl,⟨pR h1,hl⟩,h1⟩
theorem Vy:Tryz.prog.underlying 23=some (.slice 40):=by kernel_rfl
theorem afd:Tryz.prog.cellsOf 40=1:=by kernel_rfl
theorem agD:Tryz.prog.bytesOf 40=24:=by kernel_rfl
theorem Zv {n:Nat} {xs:List T} (h:uy Tryz.prog (n+7) 23 xs):∃ l:List (List Ch),xs= [T.sl 1 (l.map fun y=> .sl 8 (y.map Ch.t))]∧cO (cO Ch.ok) l∧l.length*24≤reachBytes:=by
 obtain⟨ys,rfl,h1,h2⟩:=rV Vy h
 rw[agD] at h1
 rw[afd] at h2 ⊢
 obtain⟨l,rfl,hl⟩:=wP (f:=(fun y:List Ch=>(.sl 8 (y.map Ch.t):T))) (q:=(cO Ch.ok)) (ys:=ys) fun y hy=>by
  obtain⟨cs,h3,rfl⟩:=h2 y hy
  obtain⟨x,rfl,hx,_⟩:=agq h3
  exact⟨x,rfl,hx⟩
 rw[List.length_map] at h1
 exact⟨l,rfl,⟨pR h1,hl⟩,h1⟩
theorem acQ:vg Tryz.prog 8 23=true:=by kernel_rfl
theorem apv:vg Tryz.prog 8 25=true:=by kernel_rfl
theorem atp:vg Tryz.prog 8 3=true:=by kernel_rfl
end
section
open Go.RowKit Go.Proofs Go.ChangeShapes
theorem CZ {H:Type} {enc:TypeId×Value→H} {P:Program} (hl:laidOutB P=true) {W W':World} (hb:Below W.heap.size W W'):∀ {ts:List TypeId} {vs:List Value} {ds:List (DataW H)} {ps:List MemPlace},
 (∀ t∈ts,P.readableRec t=true∧t < P.types.size)→DataW.TrodAll enc P W 0 (fun _=>true) true ts vs ds ps→(∀ x∈ps,x.block < W.heap.size)→DataW.TrodAll enc P W' 0 (fun b=>decide (b < W.heap.size)) true ts vs ds ps
 | [],vs,ds,ps,_,h,_=>by
  obtain⟨rfl,rfl,rfl⟩:=trodAll_nil h
  exact h
 |t::ts,vs,ds,ps,hr,h,hlt=>by
  obtain⟨v,vs',d,ds',p,q,rfl,rfl,rfl,hd,hrest⟩:=trodAll_cons h
  exact⟨p,q,Below.trod hl (hr t List.mem_cons_self).1 (hr t List.mem_cons_self).2 hd hb (fun x hx=>hlt x (List.mem_append_left _ hx)),CZ hl hb (fun s hs=>hr s (List.mem_cons_of_mem _ hs)) hrest (fun x hx=>hlt x (List.mem_append_right _ hx)),rfl⟩
theorem Ik {H:Type} {enc:TypeId×Value→H} {P:Program} {w:World} {sp:Nat→Bool} {D:Nat}:∀ {ts:List TypeId} {vs:List Value} {ds:List (DataW H)} {ps:List MemPlace},(∀ t∈ts,vg P D t=true)→DataW.TrodAll enc P w 0 sp true ts vs ds ps→
 (∀ n∈DataW.weightsEach P ts ds,n≤reachBytes)→vs.length=ts.length∧∀ (i:Nat) (t:TypeId) (v:Value),ts[i]? =some t→vs[i]? =some v→∃ xs,uy P D t xs∧DC (fun b=>b < w.heap.size) w xs v.cells.toList
 | [],vs,ds,ps,_,h,_=>by
  obtain⟨rfl,rfl,rfl⟩:=trodAll_nil h
  exact⟨rfl,by simp⟩
 |t::ts,vs,ds,ps,hr,h,hw=>by
  obtain⟨v,vs',d,ds',p,q,rfl,rfl,rfl,hd,hrest⟩:=trodAll_cons h
  obtain⟨fuel,hf⟩:=hd
  simp only[DataW.weightsEach,List.mem_append] at hw
  obtain⟨g1,g2⟩:=Ik (fun s hs=>hr s (List.mem_cons_of_mem _ hs)) hrest (fun n hn=>hw n (.inr hn))
  refine⟨by simp[g1],fun i u w' h1 h2=>?_⟩
  cases i with
  |zero=>
   simp at h1 h2
   subst h1; subst h2
   exact Kr D t (hr t List.mem_cons_self) fuel _ d p hf (fun n hn=>hw n (.inl hn))
  |succ i=>exact g2 i u w' (by simpa using h1) (by simpa using h2)
theorem XQ {F:Nat→Prop} {w:World} {x:T} {v:Value} (h:DC F w [x] v.cells.toList) (h1:v.oneCell'=true):Rd F w x v:=by
 rw[cells_one h1] at h
 exact h.2.2 0 x v rfl rfl
theorem amT {F:Nat→Prop} {w:World} {xs:List T} {cs:Array Value} (h:DC F w xs (Value.agg cs).cells.toList):Rd F w (.agg xs) (.agg cs):=by
 obtain⟨a,b,c⟩:=h
 have:=Rd.agg (F:=F) (w:=w) (cs:=xs) (vs:=cs.toList) (by simpa[Value.cells] using a.symm) (by simpa[Value.cells] using b) (fun i x v h1 h2=>c i x v h1 (by simpa[Value.cells] using h2))
 simpa using this
theorem ok_slice {P:Program} {w:World} {base:Nat} {t e:TypeId} {v:Value} (hu:P.underlying t=some (.slice e)) (h:Value.okWide P w .any base t v):v.oneCell'=true:=by
 simp only[Value.okWide,hu,Cell.okWide,Cell.ok] at h
 cases v<;>simp_all [Value.oneCell']
theorem ok_int {P:Program} {w:World} {base:Nat} {t:TypeId} {k:IntKind} {v:Value} (hu:P.underlying t=some (.int k)) (h:Value.okWide P w .any base t v):v.oneCell'=true:=by
 simp only[Value.okWide,hu,Cell.okWide,Cell.ok] at h
 cases v<;>simp_all [Value.oneCell']
theorem ab1 {P:Program} {w:World} {base:Nat} {t:TypeId} {v:Value} {ts:List TypeId} (hu:XT P t=some ts) (h:Value.okWide P w .any base t v):∃ cs,v= .agg cs:=by
 unfold XT at hu
 split at hu
 · rename_i fs e
   simp only[Value.okWide,e] at h
   obtain⟨cs,h,_⟩:=h
   exact⟨cs,h⟩
 · cases hu
theorem afG [Lv] (he:nK env) {H:Type} {enc:TypeId×Value→H} {f:FuncId} {fn:Func} {s:ChangeSpec} {apart:Bool} {W:World} {args:Array Value} {ds gs:List (DataW H)} {before:List MemPlace} (M:Nat) (ts:List T)
 (hlaid:laidOutB Tryz.prog=true) (hread:∀ t∈fn.params.toList,Tryz.prog.readableRec t=true∧t < Tryz.prog.types.size) (hres:fn.resultTypes= #[4]) (hvars:s.vars= [])
 (hW:DataW.Whole enc Tryz.prog fn.params.toList s.vars apart W args.toList ds gs before) (hspec:(s.fn H (ds++gs)).results= [.lit (.bool true)]∧(s.fn H (ds++gs)).args=ds∧(s.fn H (ds++gs)).vars= [])
 (hx:env.ext f=none) (hm:env.mode f=0) (hc:ak env M f ts= .ok (.bool true)) (hl:args.toList.length=ts.length) (ha:∀ (i:Nat) (x:T) (v:Value),ts[i]? =some x→args.toList[i]? =some v→Rd (fun b=>b < W.heap.size) W x v):
 Calls Tryz.prog f args W fun e W'=>∃ v,e= .returned v∧s.post enc Tryz.prog fn apart true false false W args v W':=by
 have h:=GR (F:=fun b=>b < W.heap.size) (w:=W) (vals:=args.toList) he hx (by rw[hc]; simp) hl ha (fun b hb=>hb)
 rw[Array.toArray_toList] at h
 refine Calls.mono h ?_
 rintro e W' ⟨v,rfl,x,F',h1,h2,h3⟩
 rw[hc] at h1
 injection h1 with h1
 subst h1
 have hv:v= .bool true:=by
  cases h2 with
  |frozen _ h=>cases h; rfl
 subst hv
 refine⟨_,rfl,?_⟩
 have hb:Below W.heap.size W W':=⟨h3.os,h3.tape,h3.output,h3.size,h3.old⟩
 obtain⟨p,q,hA,hV,rfl,hz,hn⟩:=hW
 have hlt:∀ x∈p++q,x.block < W.heap.size:=fun x hx=>(DataW.Whole.lt ⟨p,q,hA,hV,rfl,hz,hn⟩) x hx
 have hV':=hV
 rw[hvars] at hV'
 obtain⟨rfl,rfl⟩:=trodVars_none hV'
 obtain⟨s1,s2,s3⟩:=hspec
 refine⟨ds,[],p++ [],[],p,[],⟨p,[],hA,hV,rfl,hz,hn⟩,?_,?_,?_,hb.frame _,fun h=>by cases h⟩
 · rw[hres,s1]
   exact trodAll_mk1 (shut_bool ang true)
 · rw[s2]
   exact CZ hlaid hb hread hA (fun x hx=>hlt x (by simpa using hx))
 · rw[s3]
   rw[hvars] at hV ⊢
   exact hV
theorem aqx {args:Array Value} (h:args.toList.length=4):∃ a b c d,args= #[a,b,c,d]:=by
 obtain⟨l⟩:=args
 match l,h with
 | [a,b,c,d],_=>exact⟨a,b,c,d,rfl⟩
theorem aq7 {α:Type} {l:List α} (h:l.length=4):∃ a b c d,l= [a,b,c,d]:=by
 match l,h with
 | [a,b,c,d],_=>exact⟨a,b,c,d,rfl⟩
theorem FC {H:Type} {enc:TypeId×Value→H} {P:Program} {w:World} {base:Nat} {sp:Nat→Bool} {held:Bool}:∀ {ts:List TypeId} {vs:List Value} {ds:List (DataW H)} {ps:List MemPlace},DataW.TrodAll enc P w base sp held ts vs ds ps→ds.length=ts.length
 | [],vs,ds,ps,h=>by
  obtain⟨rfl,rfl,rfl⟩:=trodAll_nil h
  rfl
 |t::ts,vs,ds,ps,h=>by
  obtain⟨v,vs',d,ds',p,q,rfl,rfl,rfl,hd,hrest⟩:=trodAll_cons h
  simp[FC hrest]
theorem as4 {F:Nat→Prop} {w:World} {x0 x1 x2 x3:T} {v0 v1 v2 v3:Value} (h0:Rd F w x0 v0) (h1:Rd F w x1 v1) (h2:Rd F w x2 v2) (h3:Rd F w x3 v3):∀ (i:Nat) (x:T) (v:Value),[x0,x1,x2,x3][i]? =some x→(#[v0,v1,v2,v3]:Array Value).toList[i]? =some v→Rd F w x v:=by
 intro i x v e1 e2
 match i with
 |0=>cases e1; cases e2; exact h0
 |1=>cases e1; cases e2; exact h1
 |2=>cases e1; cases e2; exact h2
 |3=>cases e1; cases e2; exact h3
 |_+4=>cases e1
end
end Go.aT
