/- The texts of a proof, one behind the other: an interpreter and its soundness, what the functions of the program answer, and plain laws on that. -/
import Derived.Test.YtjlpnhpfbgbkhaaGreatK9
set_option linter.unusedVariables false
set_option linter.unusedSimpArgs false
set_option linter.unnecessarySimpa false
set_option linter.unusedSectionVars false
set_option maxRecDepth 100000
namespace Go.aT
section
open Go.RowKit
def Oi (o:Oper):Bool:=o.guard.isNone&&match o.op with
 | .call c=>(match c.callee with| .builtin .append=>true|_=>false)
 |_=>false
def plainO (o:Oper):Bool:=o.guard.isNone&&match o.op with
 | .move (.tmp _)=>true
 | .load _ (.tmp _)=>true
 | .fieldAddr _ (.tmp _) _=>true
 | .indexAddr _ (.tmp _) _=>true
 |_=>false
def MN (N0:Nat) (H:List aj) (l:Nat):Bool:=decide (l < N0)&&match H[l]? with
 |some (.vec _ _ _ _)=>true
 |some (.box _ _ _)=>true
 |some (.ng _ _ _)=>true
 |_=>false
def zf (N0:Nat) (H:List aj):PV→Bool
 | .t _=>true
 | .rp _ _ _=>true
 | .ptr l _=>MN N0 H l
 | .own l=>MN N0 H l
 | .iC l _ _ _=>MN N0 H l
 |_=>false
def ug (N0:Nat) (tm:List PV) (H:List aj) (o:Oper):Bool:=o.op.operands.toList.all fun x=>match x with
 | .tmp t=>zf N0 H (tm.getD t .junk)
 |_=>true
def Rx (x y:Oper):Bool:=(gV x.op&&gV y.op)||(Oi y&&plainO x)||(Oi x&&plainO y)
structure kK (f:Nat→Bool) (H H1:List aj):Prop where
 len:H.length≤H1.length
 fwd:∀ l o,H[l]? =some o→o.lX→f l=false∧H1[l]? =some (o.kill f)
 bwd:∀ l o,l < H.length→H1[l]? =some o→o.lX→∃ o',H[l]? =some o'∧o'.lX
section
variable {β:Type} {E:Env} {rc:Caller} {tm tm' Vx:List PV} {H H1:List aj} {ops:Array Oper} {f:Nat→Bool} {N0:Nat}
mutual
theorem PV.yX:∀ q:PV,q.kill (fun _=>false)=q
 | .agg cs=>by rw[PV.kill,PV.jr]
 | .au cs=>by rw[PV.kill,PV.jr]
 | .fn g fs cs=>by rw[PV.kill,PV.jr,PV.jr]
 | .own _| .iC _ _ _ _| .view _ _ _ _| .t _| .nil _ _| .ptr _ _| .mp _| .full _ _| .rp _ _ _| .junk=>rfl
theorem PV.jr:∀ qs:List PV,PV.kills (fun _=>false) qs=qs
 | []=>rfl
 |q::r=>by rw[PV.kills,PV.yX,PV.jr]
end
theorem aj.yX (o:aj):o.kill (fun _=>false)=o:=by cases o<;>simp[aj.kill,PV.yX,PV.jr]
theorem kK.same (hl:H.length≤H1.length) (h:∀ l,l < H.length→∀ o,o.lX→(H1[l]? =some o↔H[l]? =some o)):kK (fun _=>false) H H1:=
 ⟨hl,fun l o ho hn=>⟨rfl,by rw[aj.yX]; exact(h l (List.getElem?_eq_some_iff.1 ho).1 o hn).2 ho⟩,fun l o hlt ho hn=>⟨o,(h l hlt o hn).1 ho,hn⟩⟩
theorem VW {o:aj} (h:(o.kill f).lX):o.lX:=fun e k xs he=>h e k xs (by rw[he]; rfl)
theorem VD {t t':TypeId} {s x:PV} {K:PV→St→ah β} {z:β} (h:qI E ⟨tm,H⟩ t t' s x K= .ok z):
 ∃ q H1 f,kK f H H1∧K q ⟨PV.kills f tm,H1⟩= .ok z∧∀ (γ:Type) (tm':List PV) (K':PV→St→ah γ),qI E ⟨tm',H⟩ t t' s x K'=K' q ⟨PV.kills f tm',H1⟩:=by
 unfold qI at h ⊢
 cases he:AY E.P t with
 |none=>simp only[he] at h; cases h
 |some e=>
 cases hs:kJ E.P e with
 |none=>simp only[he,hs] at h; cases h
 |some k=>
 cases k with
 |zero=>simp only[he,hs] at h; cases h
 |succ k=>
 cases hb:Oq E.P e with
 |none=>simp only[he,hs,hb] at h; cases h
 |some b=>
 cases b with
 |zero=>simp only[he,hs,hb] at h; cases h
 |succ b=>
 simp only[he,hs,hb] at h ⊢
 cases h1:(t==t'&&nJ E.P e (k+1)) with
 |false=>rw[h1] at h; cases h
 |true=>
 rw[h1] at h
 simp only[cond_true] at h ⊢
 obtain⟨ys,h2,h3⟩:=KL (ys:=(.stuck:ah β)) h
 clear h
 cases s with
 |nil e0 k0=>
  simp only[] at h2
  cases h4:decide (ys.length*(b+1)≤big) with
  |false=>rw[h4] at h2; cases h2
  |true=>
  rw[h4] at h2
  simp only[chk,cond_true] at h2
  refine⟨.own H.length,H++ [.row e (k+1) ys],fun _=>false,kK.same (by simp) (fun l hl o _=>by rw[List.getElem?_append_left hl]),by rw[PV.jr]; exact h2,fun γ tm' K'=>?_⟩
  rw[h3,PV.jr]
  simp only[h4,chk,cond_true]
 |own l=>
  simp only[] at h2
  cases ho:H[l]? with
  |none=>rw[ho] at h2; cases h2
  |some ob=>
  rw[ho] at h2
  cases ob<;>try cases h2
  rename_i e0 k0 xs
  simp only[] at h2
  cases h4:(e0==e&&k0==k+1) with
  |false=>rw[h4] at h2; cases h2
  |true=>
  rw[h4] at h2
  simp only[cond_true] at h2
  cases h5:decide ((xs.length+ys.length)*(b+1)≤big) with
  |false=>rw[h5] at h2; cases h2
  |true=>
  rw[h5] at h2
  simp only[chk,cond_true] at h2
  have hl:l < H.length:=(List.getElem?_eq_some_iff.1 ho).1
  refine⟨_,_,(· ==l),⟨by simp,fun i o hi hn=>?_,fun i o hi hio hn=>?_⟩,h2,fun γ tm' K'=>?_⟩
  · have hne:i≠l:=fun e=>by subst e; rw[ho] at hi; injection hi with hi; exact hn _ _ _ hi.symm
    refine⟨beq_eq_false_iff_ne.2 hne,?_⟩
    rw[List.getElem?_set_ne (fun h=>hne h.symm),List.getElem?_map,hi]; rfl
  · have hne:i≠l:=fun e=>by
     subst e
     rw[List.getElem?_set_self (by simpa using hl)] at hio
     injection hio with hio
     exact hn _ _ _ hio.symm
    rw[List.getElem?_set_ne (fun h=>hne h.symm),List.getElem?_map,Option.map_eq_some_iff] at hio
    obtain⟨o',g1,g2⟩:=hio
    exact⟨o',g1,VW (g2 ▸ hn)⟩
  · rw[h3]
    simp only[ho,h4,cond_true,h5,chk]
 |view l k0 lo hi=>
  simp only[] at h2
  cases ho:H[l]? with
  |none=>rw[ho] at h2; cases h2
  |some ob=>
  rw[ho] at h2
  cases ob<;>try cases h2
  rename_i e0 k1 xs
  simp only[] at h2
  cases h4:(e0==e&&k1==k+1&&k0==k+1) with
  |false=>rw[h4] at h2; cases h2
  |true=>
  rw[h4] at h2
  simp only[cond_true] at h2
  cases h5:(decide (lo≤hi)&&decide (hi+ys.length≤xs.length)) with
  |false=>rw[h5] at h2; cases h2
  |true=>
  rw[h5] at h2
  simp only[chk,cond_true] at h2
  have hl:l < H.length:=(List.getElem?_eq_some_iff.1 ho).1
  refine⟨.view l k0 lo (hi+ys.length),H.set l (.row e (k+1) (fQ xs hi ys)),fun _=>false,kK.same (by simp) (fun i hi o hn=>?_),by rw[PV.jr]; exact h2,fun γ tm' K'=>?_⟩
  · by_cases e0:i=l
    · subst e0
      rw[List.getElem?_set_self hl,ho]
      constructor
      · intro h; injection h with h; exact absurd h.symm (hn _ _ _)
      · intro h; injection h with h; exact absurd h.symm (hn _ _ _)
    · rw[List.getElem?_set_ne (fun h=>e0 h.symm)]
  · rw[h3,PV.jr]
    simp only[ho,h4,cond_true,h5,chk]
 |full k0 xs=>
  simp only[] at h2
  cases h4:k0==k+1 with
  |false=>rw[h4] at h2; cases h2
  |true=>
  rw[h4] at h2
  simp only[cond_true] at h2
  cases h5:decide ((xs.length+ys.length)*(b+1)≤big) with
  |false=>rw[h5] at h2; cases h2
  |true=>
  rw[h5] at h2
  simp only[chk,cond_true] at h2
  refine⟨.t (.sl (k+1) (xs++ys)),H,fun _=>false,kK.same (Nat.le_refl _) (fun l hl o _=>Iff.rfl),by rw[PV.jr]; exact h2,fun γ tm' K'=>?_⟩
  rw[h3,PV.jr]
  simp only[h4,h5,chk,cond_true]
 |_=>cases h2
theorem aln {o:Oper} (hq:Oi o=true) {K:PV→St→ah β} {z:β} (h:kY E rc true o ⟨tm,H⟩ K= .ok z):
 ∃ q H1 f,kK f H H1∧K q ⟨PV.kills f tm,H1⟩= .ok z∧∀ (γ:Type) (tm':List PV) (K':PV→St→ah γ),(∀ t∈o.looksAt ops,tm'[t]? =tm[t]?)→kY E rc true o ⟨tm',H⟩ K'=K' q ⟨PV.kills f tm',H1⟩:=by
 obtain⟨dst,op,type,pos,after,guard⟩:=o
 unfold Oi at hq
 simp only[Bool.and_eq_true] at hq
 obtain⟨hg,hq⟩:=hq
 cases op<;>try cases hq
 rename_i c
 obtain⟨callee,args,tys⟩:=c
 simp only[] at hq
 split at hq
 · simp only[kY] at h ⊢
   cases ha:jF E.P tm (fun i=>tys.getD i 0) 0 args.toList with
   |none=>simp only[ha,aS] at h; cases h
   |some as'=>
    simp only[ha,aS] at h
    obtain⟨t,t',p,x,e1,e2⟩:∃ t t' p x,tys.toList= [t,t']∧as'= [p,x]:=by
     unfold lH at h
     split at h<;>first|cases h|(rename_i hb _ _; cases hb; exact⟨_,_,_,_,by assumption,rfl⟩)|skip
     all_goals first|(simp_all; done)|exact absurd ‹_› (by simp)
    rw[e1,e2] at h
    obtain⟨q,H1,f,a1,a2,a3⟩:=VD (show qI E ⟨tm,H⟩ t t' p x K= .ok z from h)
    refine⟨q,H1,f,a1,a2,fun γ tm' K' hs=>?_⟩
    have:jF E.P tm' (fun i=>tys.getD i 0) 0 args.toList=some [p,x]:=by
     rw[qy (tm':=tm') (tm:=tm) (fun y hy u hu=>hs u (jv (hu ▸ by simpa[Op.operands,Call.operands] using hy))),ha,e2]
    simp only[this,aS,e1]
    exact a3 γ tm' K'
 · cases hq
theorem vI (ht:kK f H H1) {l:Nat} (hc:MN N0 H l=true):f l=false∧∃ o,H[l]? =some o∧H1[l]? =some (o.kill f)∧o.lX∧MN N0 H1 l=true:=by
 unfold MN at hc ⊢
 rw[Bool.and_eq_true] at hc
 obtain⟨h1,h2⟩:=hc
 cases ho:H[l]? with
 |none=>rw[ho] at h2; cases h2
 |some o=>
  rw[ho] at h2
  have hn:o.lX:=fun e k xs h=>by subst h; cases h2
  obtain⟨g1,g2⟩:=ht.fwd l o ho hn
  refine⟨g1,o,rfl,g2,hn,?_⟩
  rw[g2,h1]
  cases o<;>first|rfl|cases h2
theorem JZ (ht:kK f H H1) (hN:N0≤H.length) {l:Nat} (hc:MN N0 H1 l=true):MN N0 H l=true:=by
 unfold MN at hc ⊢
 rw[Bool.and_eq_true] at hc
 obtain⟨h1,h2⟩:=hc
 have hlt:l < N0:=by simpa using h1
 cases ho:H1[l]? with
 |none=>rw[ho] at h2; cases h2
 |some o=>
  rw[ho] at h2
  have hn:o.lX:=fun e k xs h=>by subst h; cases h2
  obtain⟨o',g1,g2⟩:=ht.bwd l o (by omega) ho hn
  have g3:=(ht.fwd l o' g1 g2).2
  rw[ho] at g3
  injection g3 with g3
  rw[g1,h1]
  subst g3
  cases o'<;>first|rfl|cases h2
theorem FZ (ht:kK f H H1) {v:PV} (hc:zf N0 H v=true):v.kill f=v∧zf N0 H1 v=true:=by
 cases v with
 |t x=>exact⟨rfl,rfl⟩
 |rp k x o=>exact⟨rfl,rfl⟩
 |ptr l o=>obtain⟨_,_,_,_,_,h⟩:=vI ht hc; exact⟨rfl,h⟩
 |own l=>obtain⟨g,_,_,_,_,h⟩:=vI ht hc; exact⟨by simp only[PV.kill,g,cond_false],h⟩
 |iC l k i o=>obtain⟨g,_,_,_,_,h⟩:=vI ht hc; exact⟨by simp only[PV.kill,g,cond_false],h⟩
 |_=>cases hc
theorem abl (ht:kK f H H1) (hN:N0≤H.length) {v:PV} (hc:zf N0 H1 (v.kill f)=true):zf N0 H v=true:=by
 cases v with
 |t x=>rfl
 |rp k x o=>rfl
 |ptr l o=>exact JZ ht hN hc
 |own l=>
  simp only[PV.kill] at hc
  cases hf:f l with
  |true=>rw[hf] at hc; cases hc
  |false=>rw[hf] at hc; exact JZ ht hN hc
 |iC l k i o=>
  simp only[PV.kill] at hc
  cases hf:f l with
  |true=>rw[hf] at hc; cases hc
  |false=>rw[hf] at hc; exact JZ ht hN hc
 |view l k lo hi=>
  simp only[PV.kill] at hc
  cases hf:f l<;>rw[hf] at hc<;>cases hc
 |_=>cases hc
theorem Kw:∀ cs:List PV,allT (PV.kills f cs)=allT cs
 | []=>rfl
 |q::r=>by
  cases q with
  |t x=>simp only[PV.kills,PV.kill,allT]; rw[Kw r]
  |own l=>simp only[PV.kills,PV.kill]; cases f l<;>rfl
  |iC l k i o=>simp only[PV.kills,PV.kill]; cases f l<;>rfl
  |view l k lo hi=>simp only[PV.kills,PV.kill]; cases f l<;>rfl
  |_=>rfl
theorem Lc (cs:List PV):(xR cs).kill f=xR (PV.kills f cs):=by
 unfold xR
 rw[Kw]
 cases h:allT cs with
 |none=>rfl
 |some ts=>rfl
theorem KU (n:Nat) (cs:List PV):PV.kills f (cs.drop n)=(PV.kills f cs).drop n:=by
 apply List.ext_getElem?; intro i; rw[gK,List.getElem?_drop,List.getElem?_drop,gK]
theorem KX (n:Nat) (cs:List PV):PV.kills f (cs.take n)=(PV.kills f cs).take n:=by
 apply List.ext_getElem?; intro i; rw[gK,List.getElem?_take,List.getElem?_take]; split
 · rw[gK]
 · rfl
theorem KW (n:Nat) (cs:List PV):(PV.kills f cs).getD n .junk=(cs.getD n .junk).kill f:=by
 rw[List.getD_eq_getElem?_getD,List.getD_eq_getElem?_getD,gK]
 cases cs[n]? <;>rfl
theorem ab7 (v:PV) (o s:Nat) (a:Bool):(v.part o s a).kill f=(v.kill f).part o s a:=by
 cases v with
 |agg cs=>
  simp only[PV.part,PV.kill]
  cases a with
  |true=>simp only[cond_true]; rw[Lc,KX,KU]
  |false=>simp only[cond_false]; rw[KW]
 |own l=>simp only[PV.part,PV.kill]; cases f l<;>rfl
 |iC l k i o=>simp only[PV.part,PV.kill]; cases f l<;>rfl
 |view l k lo hi=>simp only[PV.part,PV.kill]; cases f l<;>rfl
 |_=>rfl
theorem abH (ht:kK f H H1) {t:TypeId} {v:PV} (hc:zf N0 H v=true) (K:PV→ah β):uj E ⟨Vx,H1⟩ t v K=uj E ⟨tm,H⟩ t v fun p=>K (p.kill f):=by
 unfold uj
 cases kJ E.P t with
 |none=>rfl
 |some s=>
 cases lM E.P t with
 |none=>rfl
 |some a=>
 simp only[]
 congr 1
 cases v with
 |t x=>rfl
 |rp k x o=>rfl
 |ptr l o=>
  obtain⟨_,ob,g1,g2,g3,_⟩:=vI ht hc
  simp only[g1,g2]
  cases ob with
  |box e n v=>simp only[aj.kill,ab7]
  |ng e n v=>rfl
  |_=>rfl
 |iC l k i o=>
  obtain⟨_,ob,g1,g2,g3,_⟩:=vI ht hc
  simp only[g1,g2]
  cases ob with
  |row e k xs=>exact absurd rfl (g3 e k xs)
  |jT e k xs=>rfl
  |vec e k' n xs=>
   simp only[aj.kill]
   congr 1
   cases a with
   |true=>simp only[cond_true,Lc,KX,KU]
   |false=>simp only[cond_false,KW]
  |_=>rfl
 |_=>rfl
theorem Y0 (ht:kK f H H1) {t:TypeId} {v ix:PV} (hc:zf N0 H v=true) (K:PV→ah β):pY E ⟨Vx,H1⟩ t v ix K=pY E ⟨tm,H⟩ t v ix fun p=>K (p.kill f):=by
 unfold pY
 cases AY E.P t with
 |none=>rfl
 |some e=>
 simp only[]
 cases kJ E.P e with
 |none=>rfl
 |some k=>
 simp only[]
 cases ix with
 |t iv=>
  simp only[]
  congr 1
  funext i
  cases v with
  |own l=>
   obtain⟨g0,ob,g1,g2,g3,_⟩:=vI ht hc
   simp only[g1,g2]
   cases ob with
   |row e k xs=>exact absurd rfl (g3 e k xs)
   |jT e k xs=>simp only[aj.kill,PV.kill,g0,cond_false]
   |vec e k' n xs=>simp only[aj.kill,PV.kill,g0,cond_false]
   |_=>rfl
  |view l k0 lo hi=>cases hc
  |_=>rfl
 |_=>rfl
theorem MH (ht:kK f H H1) {t:TypeId} {n:Nat} {v:PV} (hc:zf N0 H v=true) (K:PV→ah β):kH E t n v K=kH E t n v fun p=>K (p.kill f):=by
 unfold kH
 cases yh E.P t n with
 |none=>rfl
 |some ot=>
 obtain⟨off,ft⟩:=ot
 simp only[]
 split
 · cases v with
   |ptr l o=>rfl
   |iC l k i o=>obtain⟨g,_⟩:=vI ht hc; simp only[PV.kill,g,cond_false]
   |rp k x o=>rfl
   |t x=>rfl
   |_=>rfl
 · rfl
theorem LD (ht:kK f H H1) {x:Oper} (hx:plainO x=true) (hc:ug N0 tm H x=true) (hs:∀ t∈x.looksAt ops,Vx[t]? =(tm[t]?).map (PV.kill f)) (K:PV→St→ah β):
 kY E rc true x ⟨Vx,H1⟩ K=kY E rc true x ⟨tm,H⟩ fun p _=>K (p.kill f) ⟨Vx,H1⟩:=by
 have ev:∀ (ty:TypeId) (t:Nat),Operand.tmp t∈x.op.operands→bV E.P Vx ty (.tmp t)=some (tm.getD t dY)∧bV E.P tm ty (.tmp t)=some (tm.getD t dY)∧(zf N0 H (tm.getD t dY)=true∨tm.getD t dY=dY):=fun ty t hm=>by
  have h1:=hs t (jv hm)
  have h2:=List.all_eq_true.1 hc (.tmp t) (by simpa using hm)
  simp only[] at h2
  simp only[bV,List.getD_eq_getElem?_getD,h1] at h2 ⊢
  cases hq:tm[t]? with
  |none=>exact⟨rfl,trivial,.inr rfl⟩
  |some q=>
   rw[hq] at h2
   simp only[Option.map_some,Option.getD_some] at h2 ⊢
   exact⟨by rw[(FZ ht h2).1],trivial,.inl h2⟩
 have zB:∀ (ty:TypeId) (y:Operand),y∈x.op.operands→bV E.P Vx ty y=bV E.P tm ty y:=fun ty y hy=>by
  cases y with
  |tmp t=>obtain⟨a,b,_⟩:=ev ty t hy; rw[a,b]
  |_=>rfl
 obtain⟨dst,op,type,pos,after,guard⟩:=x
 unfold plainO at hx
 simp only[Bool.and_eq_true] at hx
 obtain⟨hg,hx⟩:=hx
 cases op<;>try cases hx
 case move y=>
  cases y<;>try cases hx
  rename_i t
  obtain⟨a,b,c⟩:=ev type t (by simp[Op.operands])
  simp only[kY,a,b,aS]
  rcases c with c|c
  · rw[(FZ ht c).1]
  · rw[c]; rfl
 case load ty y=>
  cases y<;>try cases hx
  rename_i t
  obtain⟨a,b,c⟩:=ev 0 t (by simp[Op.operands])
  simp only[kY,a,b,aS]
  rcases c with c|c
  · exact abH ht c _
  · rw[c]
    unfold uj
    cases kJ E.P ty with
    |none=>rfl
    |some s=>
     cases lM E.P ty with
     |none=>rfl
     |some a=>rfl
 case fieldAddr ty y n=>
  cases y<;>try cases hx
  rename_i t
  obtain⟨a,b,c⟩:=ev 0 t (by simp[Op.operands])
  simp only[kY,a,b,aS]
  rcases c with c|c
  · exact MH ht c _
  · rw[c]
    unfold kH
    cases yh E.P ty n with
    |none=>rfl
    |some ot=>simp only[]; split<;>rfl
 case indexAddr ty y ix=>
  cases y<;>try cases hx
  rename_i t
  obtain⟨a,b,c⟩:=ev ty t (by simp[Op.operands])
  have e2:=zB 0 ix (by simp[Op.operands])
  simp only[kY,a,b,e2,aS]
  cases bV E.P tm 0 ix with
  |none=>rfl
  |some iv=>
  simp only[]
  rcases c with c|c
  · exact Y0 ht c _
  · rw[c]
    unfold pY
    cases AY E.P ty with
    |none=>rfl
    |some e=>
     simp only[]
     cases kJ E.P e with
     |none=>rfl
     |some k=>
      simp only[]
      cases iv with
      |t iv=>rfl
      |_=>rfl
def ab3 (E:Env) (rc:Caller) (ops:Array Oper) (N0:Nat):List (Oper×Bool)→St→(St→ah β)→ah β
 | [],st,K=>K st
 |x::r,st,K=>chk ((!gV x.1.op||ug N0 st.tmps st.heap x.1)&&decide (N0≤st.heap.length)) (bn E rc ops [x] st fun st1=>ab3 E rc ops N0 r st1 K)
def qV (E:Env) (rc:Caller) (ops:Array Oper) (N0:Nat):List (Oper×Bool)→St→St→Prop
 | [],st,st'=>st=st'
 |x::r,st,st'=>∃ st1,runs E rc ops [x] st st1∧(gV x.1.op=true→ug N0 st.tmps st.heap x.1=true)∧N0≤st.heap.length∧qV E rc ops N0 r st1 st'
theorem uT (hrc:rc.Nat):∀ {l:List (Oper×Bool)} {st st':St},ab3 E rc ops N0 l st (fun s=>(.ok s:ah St))= .ok st'→qV E rc ops N0 l st st'
 | [],st,st',h=>by
  simp only[ab3,ah.ok.injEq] at h
  exact h
 |x::r,st,st',h=>by
  simp only[ab3] at h
  obtain⟨h1,h2⟩:=dQ (by rw[h]; simp)
  rw[h2] at h
  obtain⟨st1,h3,h4⟩:=I4 hrc h
  simp only[Bool.and_eq_true,Bool.or_eq_true,Bool.not_eq_true',decide_eq_true_eq] at h1
  exact⟨st1,h3,fun hq=>h1.1.resolve_left (by rw[hq]; simp),h1.2,uT hrc h4⟩
theorem LQ (d:Option Tmp) (p:PV):PV.kills f (dL tm d p)=dL (PV.kills f tm) d (p.kill f):=by
 cases d with
 |none=>rfl
 |some d=>
  apply List.ext_getElem?
  intro i
  simp only[dL]
  rw[gK,List.getElem?_set,List.getElem?_set,gK,jk]
  split
  · split<;>rfl
  · rfl
theorem Ot {o:Oper} (h:∀ t∈o.looksAt ops,tm'[t]? =tm[t]?):ug N0 tm' H o=ug N0 tm H o:=by
 unfold ug
 rw[Bool.eq_iff_iff,List.all_eq_true,List.all_eq_true]
 have e:∀ x∈o.op.operands.toList,(match x with| .tmp t=>zf N0 H (tm'.getD t .junk)|_=>true)=(match x with| .tmp t=>zf N0 H (tm.getD t .junk)|_=>true):=fun x hx=>by
  cases x with
  |tmp t=>simp only[List.getD_eq_getElem?_getD,h t (jv (by simpa using hx))]
  |_=>rfl
 constructor
 · intro h x hx; rw[←e x hx]; exact h x hx
 · intro h x hx; rw[e x hx]; exact h x hx
theorem TY {o:Oper} (hq:Oi o=true) {st1:St} (h:bn E rc ops [(o,true)] ⟨tm,H⟩ (fun s=>(.ok s:ah St))= .ok st1):
 ∃ q H1 f,kK f H H1∧st1=⟨dL (PV.kills f tm) o.dst q,H1⟩∧∀ tm',(∀ t∈o.looksAt ops,tm'[t]? =tm[t]?)→bn E rc ops [(o,true)] ⟨tm',H⟩ (fun s=>(.ok s:ah St))= .ok ⟨dL (PV.kills f tm') o.dst q,H1⟩:=by
 have hg:∀ tm:List PV,guardOf ops tm o=some true:=fun tm=>by
  unfold Oi at hq
  simp only[Bool.and_eq_true,Option.isNone_iff_eq_none] at hq
  unfold guardOf; rw[hq.1]
 rw[dN,hg] at h
 obtain⟨q,H1,f,a1,a2,a3⟩:=aln (ops:=ops) hq h
 simp only[bn,ah.ok.injEq] at a2
 refine⟨q,H1,f,a1,a2.symm,fun tm' hs=>?_⟩
 rw[dN,hg]
 simp only[a3 _ tm' _ hs,bn]
theorem uU {o:Oper} (h:plainO o=true):gV o.op=true∧∀ tm:List PV,guardOf ops tm o=some true:=by
 unfold plainO at h
 simp only[Bool.and_eq_true,Option.isNone_iff_eq_none] at h
 refine⟨?_,fun tm=>by unfold guardOf; rw[h.1]⟩
 have:=h.2
 cases ho:o.op<;>rw[ho] at this<;>first|rfl|cases this
theorem GN {o:Oper} (h:Oi o=true):gV o.op=false:=by
 unfold Oi at h
 simp only[Bool.and_eq_true] at h
 have:=h.2
 cases ho:o.op<;>rw[ho] at this<;>try cases this
 rename_i c
 obtain⟨callee,args,tys⟩:=c
 simp only[] at this
 split at this
 · rfl
 · cases this
theorem zF (hrc:rc.Nat) (ht:kK f H H1) {x:Oper} (hx:plainO x=true) (hc:ug N0 tm H x=true) (hs:∀ t∈x.looksAt ops,Vx[t]? =(tm[t]?).map (PV.kill f)):
 (∀ p,bn E rc ops [(x,true)] ⟨tm,H⟩ (fun s=>(.ok s:ah St))= .ok ⟨dL tm x.dst p,H⟩→kY E rc true x ⟨tm,H⟩ (fun p _=>(.ok p:ah PV))= .ok p→bn E rc ops [(x,true)] ⟨Vx,H1⟩ (fun s=>(.ok s:ah St))= .ok ⟨dL Vx x.dst (p.kill f),H1⟩)∧
 (∀ st1,bn E rc ops [(x,true)] ⟨Vx,H1⟩ (fun s=>(.ok s:ah St))= .ok st1→∃ p,st1=⟨dL Vx x.dst (p.kill f),H1⟩∧bn E rc ops [(x,true)] ⟨tm,H⟩ (fun s=>(.ok s:ah St))= .ok ⟨dL tm x.dst p,H⟩):=by
 obtain⟨hq,hg⟩:=uU (ops:=ops) hx
 have e1:∀ {γ:Type} (K:PV→St→ah γ),kY E rc true x ⟨tm,H⟩ K=(kY E rc true x ⟨tm,H⟩ fun p _=>(.ok p:ah PV)).bind fun p=>K p ⟨tm,H⟩:=fun K=>rP hrc hq (tm:=tm) (fun _ _ _ _=>rfl) K
 refine⟨fun p _ hp=>?_,fun st1 h=>?_⟩
 · rw[dN,hg]
   simp only[LD ht hx hc hs]
   rw[e1,hp]; rfl
 · rw[dN,hg] at h
   simp only[LD ht hx hc hs] at h
   rw[e1] at h
   obtain⟨p,h1,h2⟩:=bQ h
   simp only[bn,ah.ok.injEq] at h2
   refine⟨p,h2.symm,?_⟩
   rw[dN,hg]
   simp only[]
   rw[e1,h1]; rfl
theorem afi (hrc:rc.Nat) {x y:Oper} (hxy:Rx x y=true) (hap:x.apart ops y=true) {st st1 st2:St} (hN:N0≤st.heap.length) (h1:runs E rc ops [(x,true)] st st1) (c1:gV x.op=true→ug N0 st.tmps st.heap x=true)
 (h2:runs E rc ops [(y,true)] st1 st2) (c2:gV y.op=true→ug N0 st1.tmps st1.heap y=true):
 ∃ st1',runs E rc ops [(y,true)] st st1'∧(gV y.op=true→ug N0 st.tmps st.heap y=true)∧runs E rc ops [(x,true)] st1' st2∧(gV x.op=true→ug N0 st1'.tmps st1'.heap x=true)∧N0≤st1'.heap.length:=by
 obtain⟨tm,H⟩:=st
 obtain⟨a1,a2,a3⟩:=Oper.apart_spec hap
 unfold runs at h1 h2 ⊢
 have gy:∀ (tm:List PV) p,∀ t∈y.looksAt ops,tm[t]? =(dL tm x.dst p)[t]? :=fun tm p t ht=>(oZ fun e he=>by rintro rfl; exact a1 e he ht).symm
 have gx:∀ (tm:List PV) q,∀ t∈x.looksAt ops,(dL tm y.dst q)[t]? =tm[t]? :=fun tm q t ht=>oZ fun e he=>by rintro rfl; exact a3 e he ht
 unfold Rx at hxy
 rw[Bool.or_eq_true,Bool.or_eq_true,Bool.and_eq_true,Bool.and_eq_true,Bool.and_eq_true] at hxy
 rcases hxy with (⟨hx,hy⟩|⟨hy,hx⟩)|⟨hx,hy⟩
 · obtain⟨p,rfl,hp⟩:=quiet_step hrc hx h1
   obtain⟨q,rfl,hq⟩:=quiet_step hrc hy h2
   refine⟨_,hq tm (gy tm p),fun h=>?_,?_,fun h=>?_,hN⟩
   · have:=c2 h
     simp only[] at this
     rwa [Ot (fun t ht=>(gy tm p t ht).symm)] at this
   · rw[hp _ (gx tm q),oI a2]
   · have:=c1 h
     simp only[] at this ⊢
     rwa [Ot (gx tm q)]
 ·
  have hqx:=(uU (ops:=ops) hx).1
  have hcx:=c1 hqx
  obtain⟨p,rfl,hp⟩:=quiet_step hrc hqx h1
  obtain⟨q,H1,f,t1,t2,t3⟩:=TY hy h2
  subst t2
  have hs:∀ t∈x.looksAt ops,(dL (PV.kills f tm) y.dst q)[t]? =(tm[t]?).map (PV.kill f):=fun t ht=>by rw[gx _ q t ht,gK]
  obtain⟨s1,_⟩:=zF (E:=E) hrc t1 hx hcx hs
  have e1:kY E rc true x ⟨tm,H⟩ (fun p _=>(.ok p:ah PV))= .ok p∨True:= .inr trivial
  have hpp:∃ p',kY E rc true x ⟨tm,H⟩ (fun p _=>(.ok p:ah PV))= .ok p'∧dL tm x.dst p'=dL tm x.dst p:=by
   rw[dN,(uU (ops:=ops) hx).2] at h1
   simp only[] at h1
   rw[rP hrc hqx (tm:=tm) (fun _ _ _ _=>rfl)] at h1
   obtain⟨p',g1,g2⟩:=bQ h1
   simp only[bn,ah.ok.injEq,St.mk.injEq,and_true] at g2
   exact⟨p',g1,g2⟩
  obtain⟨p',g1,g2⟩:=hpp
  refine⟨_,t3 tm (gy tm p),fun h=>absurd h (by rw[GN hy]; simp),?_,fun h=>?_,Nat.le_trans hN t1.len⟩
  · rw[s1 p' (by rw[hp tm fun _ _=>rfl,g2]) g1,←oI a2,←LQ,g2]
  · simp only[]
    unfold ug
    rw[List.all_eq_true]
    intro z hz
    cases z with
    |tmp t=>
     simp only[]
     have h2:=List.all_eq_true.1 hcx (.tmp t) hz
     simp only[List.getD_eq_getElem?_getD] at h2 ⊢
     rw[hs t (jv (by simpa using hz))]
     cases hq:tm[t]? with
     |none=>rw[hq] at h2; cases h2
     |some v=>
      rw[hq] at h2
      simp only[Option.map_some,Option.getD_some] at h2 ⊢
      obtain⟨b1,b2⟩:=FZ t1 h2
      rw[b1]; exact b2
    |_=>rfl
 ·
  have hqy:=(uU (ops:=ops) hy).1
  obtain⟨q,H1,f,t1,t2,t3⟩:=TY hx h1
  subst t2
  have hs:∀ t∈y.looksAt ops,(dL (PV.kills f tm) x.dst q)[t]? =(tm[t]?).map (PV.kill f):=fun t ht=>by rw[←gy _ q t ht,gK]
  have hcy:ug N0 tm H y=true:=by
   have:=c2 hqy
   unfold ug at this ⊢
   rw[List.all_eq_true] at this ⊢
   intro z hz
   have h2:=this z hz
   cases z with
   |tmp t=>
    simp only[List.getD_eq_getElem?_getD] at h2 ⊢
    rw[hs t (jv (by simpa using hz))] at h2
    cases hq:tm[t]? with
    |none=>rw[hq] at h2; cases h2
    |some v=>
     rw[hq] at h2
     exact abl t1 hN h2
   |_=>rfl
  obtain⟨_,s2⟩:=zF (E:=E) hrc t1 hy hcy hs
  obtain⟨p,rfl,hp⟩:=s2 _ h2
  refine⟨_,hp,fun _=>hcy,?_,fun h=>absurd h (by rw[GN hx]; simp),hN⟩
  rw[t3 (dL tm y.dst p) (gx tm p),LQ,oI fun t ht=>by
   intro e; exact a2 t e ht]
theorem Ia (hrc:rc.Nat) {y:Oper×Bool} {l2:List (Oper×Bool)}:∀ {l1:List (Oper×Bool)} {st st':St},(∀ x∈l1,x.2=true∧y.2=true∧Rx x.1 y.1=true∧x.1.apart ops y.1=true)→
 qV E rc ops N0 (l1++y::l2) st st'→∃ st1,runs E rc ops [y] st st1∧(gV y.1.op=true→ug N0 st.tmps st.heap y.1=true)∧qV E rc ops N0 (l1++l2) st1 st'
 | [],st,st',_,h=>by
  obtain⟨s1,h1,h2,h3,h4⟩:=h
  exact⟨s1,h1,h2,h4⟩
 |x::l1,st,st',hx,h=>by
  obtain⟨s1,h1,h2,h3,h4⟩:=h
  obtain⟨s2,g1,g2,g3⟩:=Ia hrc (fun z hz=>hx z (List.mem_cons_of_mem _ hz)) h4
  obtain⟨b1,b2,b3,b4⟩:=hx x List.mem_cons_self
  obtain⟨x,bx⟩:=x
  obtain⟨y,bY⟩:=y
  simp only at b1 b2 b3 b4
  subst b1
  subst b2
  obtain⟨s1',c1,c2,c3,c4,c5⟩:=afi hrc b3 b4 h3 h1 h2 g1 g2
  exact⟨s1',c1,c2,s2,c3,c4,c5,g3⟩
def yI (ops:Array Oper):Bool:=
 let b:=Region.before ops
 let l:=ops.toList.zipIdx
 (l.all fun(o,i)=>o.after.all fun e=> !Region.binds .any e||decide (e.on < i))&&l.all fun(y,j)=>l.all fun(x,i)=> !decide (i < j)||(b.getD j 0).testBit i||(!(b.getD i 0).testBit j&&Rx x y&&x.apart ops y)
theorem Q9 (hd:yI ops=true) {i j:Nat} (hi:i < ops.size) (hj:j < ops.size) (hij:i < j) (hb:((Region.before ops).getD j 0).testBit i=false):
 (flagged ops i).2=true∧(flagged ops j).2=true∧Rx (flagged ops i).1 (flagged ops j).1=true∧(flagged ops i).1.apart ops (flagged ops j).1=true:=by
 unfold yI at hd
 simp only[Bool.and_eq_true,List.all_eq_true] at hd
 have hm:∀ i,i < ops.size→(ops.getD i default,i)∈ops.toList.zipIdx:=fun i hi=>by
  rw[List.mem_zipIdx_iff_getElem?]
  simp[Array.getD_eq_getD_getElem?,hi]
 have:=hd.2 _ (hm j hj) _ (hm i hi)
 simp only[hij,decide_true,Bool.not_true,Bool.false_or,hb] at this
 rw[Bool.and_eq_true,Bool.and_eq_true,Bool.not_eq_true'] at this
 obtain⟨⟨h1,h2⟩,h4⟩:=this
 have hbs:∀ x y,y < ops.size→x≠y→ordered (Region.before ops) x y=false→beside (Region.before ops) ops.size x=true:=by
  intro x y hy hne ho
  unfold beside
  rw[List.any_eq_true]
  exact⟨y,List.mem_range.2 hy,by simp[hne,ho]⟩
 exact⟨hbs i j hj (by omega) (by unfold ordered; rw[h1,hb]; rfl),hbs j i hi (by omega) (by unfold ordered; rw[h1,hb]; rfl),h2,h4⟩
theorem YK {Nc:Nat} (hc:fG E rc) (hd:yI ops=true) {Q:Exit→Act→World→Prop} {st0 BO:St} {F0:Nat→Prop} {κ0:Nat→Value} {w0:World}
 (hq:∀ F' κ' a' w',Rel F' κ' BO a' w'→mX N0 F0 κ0 w0 st0.heap F' κ' w' BO.heap→Q .normal a' w'):∀ (fuel:Nat) (listed:Array Bool) (u:List Nat) (st:St) (F:Nat→Prop) (κ:Nat→Value) (a:Act) (w:World),
 listed.size=ops.size→u.Pairwise (· < ·)→(∀ i,i∈u↔i < ops.size∧listed.getD i true=false)→u.length≤fuel→Closed ops listed→qV E rc ops Nc (u.map (flagged ops)) st BO→Rel F κ st a w→mX N0 F0 κ0 w0 st0.heap F κ w st.heap→
 wpAny E.P .any ops Q fuel listed a w:=by
 have done:∀ (st:St) (F:Nat→Prop) (κ:Nat→Value) (a:Act) (w:World),qV E rc ops Nc [] st BO→Rel F κ st a w→mX N0 F0 κ0 w0 st0.heap F κ w st.heap→Q .normal a w:=by
  intro st F κ a w hr rel ev
  have hr:st=BO:=hr
  subst hr
  exact hq F κ a w rel ev
 have BL:∀ (listed:Array Bool) (i:Nat),i∈Region.ready .any ops listed↔i < ops.size∧listed.getD i true=false∧∀ o,ops[i]? =some o→∀ e∈o.after.toList,Region.binds .any e=true→listed.getD e.on false=true:=by
  intro listed i
  simp only[Region.ready,List.mem_filter,List.mem_range,Bool.and_eq_true,Bool.not_eq_true']
  constructor
  · rintro⟨h1,h2,h3⟩
    refine⟨h1,h2,fun o ho e he hb=>?_⟩
    rw[ho] at h3
    simp only[Option.map_some,Option.getD_some,Array.all_eq_true_iff_forall_mem] at h3
    have:=h3 e (by simpa using he)
    simpa[hb] using this
  · rintro⟨h1,h2,h3⟩
    refine⟨h1,h2,?_⟩
    rw[Array.getElem?_eq_getElem h1]
    simp only[Option.map_some,Option.getD_some,Array.all_eq_true_iff_forall_mem]
    intro e he
    cases hb:Region.binds .any e with
    |false=>rfl
    |true=>simpa using h3 _ (Array.getElem?_eq_getElem h1) e (by simpa using he) hb
 have hmin:∀ (listed:Array Bool) (u:List Nat),listed.size=ops.size→u.Pairwise (· < ·)→(∀ i,i∈u↔i < ops.size∧listed.getD i true=false)→Region.ready .any ops listed= []→u= []:=by
  intro listed u hsz hp hu hr
  cases u with
  |nil=>rfl
  |cons i u=>
   exfalso
   have hi:=(hu i).1 List.mem_cons_self
   have:i∈Region.ready .any ops listed:=by
    rw[BL]
    refine⟨hi.1,hi.2,fun o ho e he hb=>?_⟩
    have hlt:e.on < i:=by
     unfold yI at hd
     simp only[Bool.and_eq_true,List.all_eq_true] at hd
     have:=hd.1 (o,i) (by rw[List.mem_zipIdx_iff_getElem?]; simpa using ho)
     simp only[Array.all_eq_true_iff_forall_mem] at this
     have:=this e (by simpa using he)
     simpa[hb] using this
    have hs:e.on < listed.size:=by omega
    cases hl:listed.getD e.on false with
    |true=>rfl
    |false=>
     have hmem:e.on∈i::u:=(hu e.on).2 ⟨by omega,by
      rw[Array.getD_eq_getD_getElem?,Array.getElem?_eq_getElem hs] at hl ⊢; exact hl⟩
     rcases List.mem_cons.1 hmem with h1|h1
     · omega
     · have:=(List.pairwise_cons.1 hp).1 e.on h1; omega
   rw[hr] at this
   cases this
 intro fuel
 induction fuel with
 |zero=>
  intro listed u st F κ a w hsz hp hu hl hcl hr rel ev
  have:u= []:=List.eq_nil_of_length_eq_zero (by omega)
  subst this
  refine⟨?_,done st F κ a w hr rel ev⟩
  cases hrd:Region.ready .any ops listed with
  |nil=>rfl
  |cons i l=>
   have h1:i∈Region.ready .any ops listed:=by rw[hrd]; exact List.mem_cons_self
   rw[BL] at h1
   exact absurd ((hu i).2 ⟨h1.1,h1.2.1⟩) (by simp)
 |succ fuel ih=>
  intro listed u st F κ a w hsz hp hu hl hcl hr rel ev
  refine⟨fun hrd=>?_,fun i hi=>?_⟩
  · have:=hmin listed u hsz hp hu hrd
    subst this
    exact done st F κ a w hr rel ev
  · rw[BL] at hi
    obtain⟨hi1,hi2,hi3⟩:=hi
    obtain⟨u1,u2,rfl⟩:=List.append_of_mem ((hu i).2 ⟨hi1,hi2⟩)
    have hp':=List.pairwise_append.1 hp
    have hp2:=List.pairwise_cons.1 hp'.2.1
    have hlt1:∀ x∈u1,x < i:=fun x hx=>hp'.2.2 x hx i List.mem_cons_self
    rw[List.map_append,List.map_cons] at hr
    obtain⟨st1,r1,_,r2⟩:=Ia hc.nat (fun x hx=>by
     obtain⟨j,hj,rfl⟩:=List.mem_map.1 hx
     have hju:=(hu j).1 (List.mem_append_left _ hj)
     refine Q9 hd hju.1 hi1 (hlt1 j hj) ?_
     cases hb:((Region.before ops).getD i 0).testBit j with
     |false=>rfl
     |true=>
      have:=xG hcl (i+1) i (Nat.lt_succ_self _) hi1 j hi3 hb
      have hs:j < listed.size:=by omega
      have h2:=hju.2
      rw[Array.getD_eq_getD_getElem?,Array.getElem?_eq_getElem hs] at this h2
      simp only[Option.getD_some] at this h2
      rw[this] at h2
      cases h2) hr
    have hop:ops[i]? =some (ops.getD i default):=by simp[Array.getD_eq_getD_getElem?,hi1]
    have next:∀ (F':Nat→Prop) (κ':Nat→Value) (a':Act) (w':World),Rel F' κ' st1 a' w'→mX N0 F0 κ0 w0 st0.heap F' κ' w' st1.heap→wpAny E.P .any ops Q fuel (listed.setIfInBounds i true) a' w':=by
     intro F' κ' a' w' rel' ev'
     refine ih (listed.setIfInBounds i true) (u1++u2) st1 F' κ' a' w' (by simp[hsz]) ?_ (fun j=>?_) (by simp at hl ⊢; omega) (fun j o ho hj e he hb=>?_) (by rw[List.map_append]; exact r2) rel' ev'
     · exact List.pairwise_append.2 ⟨hp'.1,hp2.2,fun x hx y hy=>hp'.2.2 x hx y (List.mem_cons_of_mem _ hy)⟩
     · have:=hu j
       simp only[List.mem_append,List.mem_cons] at this ⊢
       by_cases e:j=i
       · subst e
         rw[Array.getD_eq_getD_getElem?,Array.getElem?_setIfInBounds_self_of_lt (by omega)]
         simp only[Option.getD_some]
         constructor
         · rintro(h|h)
           · have:=hlt1 j h; omega
           · have:=hp2.1 j h; omega
         · rintro⟨_,h⟩; cases h
       · rw[Array.getD_eq_getD_getElem?,Array.getElem?_setIfInBounds_ne (fun h=>e h.symm),←Array.getD_eq_getD_getElem?,←this]
         constructor
         · rintro(h|h)
           · exact .inl h
           · exact .inr (.inr h)
         · rintro(h|h|h)
           · exact .inl h
           · exact absurd h e
           · exact .inr h
     · have keep:∀ m,listed.getD m false=true→(listed.setIfInBounds i true).getD m false=true:=fun m hm=>by
        by_cases e:m=i
        · subst e; rw[Array.getD_eq_getD_getElem?,Array.getElem?_setIfInBounds_self_of_lt (by omega)]; rfl
        · rw[Array.getD_eq_getD_getElem?,Array.getElem?_setIfInBounds_ne (fun h=>e h.symm),←Array.getD_eq_getD_getElem?]; exact hm
       by_cases e0:j=i
       · subst e0; exact keep _ (hi3 o ho e he hb)
       · rw[Array.getD_eq_getD_getElem?,Array.getElem?_setIfInBounds_ne (fun h=>e0 h.symm),←Array.getD_eq_getD_getElem?] at hj
         exact keep _ (hcl j o ho hj e he hb)
    unfold wpOp
    rw[hop]
    simp only[]
    have r1':bn E rc ops [((ops.getD i default),(flagged ops i).2)] st (fun s=>(.ok s:ah St))= .ok st1:=r1
    rw[dN] at r1'
    cases hg:guardOf ops st.tmps (ops.getD i default) with
    |none=>rw[hg] at r1'; cases r1'
    |some b=>
     rw[hg] at r1'
     rw[uO rel hg]
     cases b with
     |true=>
      simp only[if_true] at r1' ⊢
      refine .inl (Bl (N0:=N0) (K:=fun p st'=>bn E rc ops [] ⟨dL st'.tmps (ops.getD i default).dst p,st'.heap⟩ (fun s=>(.ok s:ah St))) hc (by rw[r1']; simp) (by exact ev.hl) rel fun p v st' F' κ' w' e hn hdr=>?_)
      rw[r1'] at e
      simp only[bn,ah.ok.injEq] at e
      subst e
      exact next F' κ' _ w' (hn.rel rel _) (ev.trans ⟨hn.ev,hdr⟩)
     |false=>
      simp only[Bool.false_eq_true,if_false,bn,ah.ok.injEq] at r1' ⊢
      subst r1'
      exact next F κ _ w (rel.skip _) ev
theorem Ul (hm:E.P.follows .mixedOrders=true) (hc:fG E rc) (hd:yI ops=true) {id Nc:Nat} {st BO:St} {Q:St→Prop} (h:qV E rc ops Nc (dG ops) st BO) (hQ:Q BO):jg E (.region id ops true) st Q:=by
 intro base F κ a w R h0 rel hR
 refine wp_region_any hm ?_
 have hd0:mX base F κ w st.heap F κ {w with drawn:=w.drawn+1} st.heap:=⟨⟨rfl,rfl,rfl,Nat.le_refl _,fun _ _ _=>rfl,fun _ h=>h,fun _ h=> .inl h,fun _ h=> .inl h,h0,fun l o _ h1 h2=>⟨rfl,o,h1,h2⟩⟩,Nat.le_succ _⟩
 refine YK (N0:=base) (Nc:=Nc) (st0:=st) (BO:=BO) (F0:=F) (κ0:=κ) (w0:=w) hc hd (fun F' κ' a' w' r ev=>hR BO F' κ' a' w' hQ r ev) ops.size _ (List.range ops.size) st F κ a _ (by simp) (by simpa using List.pairwise_lt_range) (fun i=>?_) (by simp) (fun i o _ hi=>?_) (by rw[←EG]; exact h) rel.drew hd0
 · simp only[List.mem_range]
   constructor
   · intro hi; exact⟨hi,by simp[Array.getD_eq_getD_getElem?,hi]⟩
   · exact fun h=>h.1
 · exfalso
   rw[Array.getD_eq_getD_getElem?] at hi
   rcases Nat.lt_or_ge i ops.size with h1|h1
   · simp[h1] at hi
   · rw[Array.getElem?_eq_none (by simpa using h1)] at hi; cases hi
end
end
section
open Go.RowKit
def fD (st st':St):Prop:=∀ (base:Nat) (F:Nat→Prop) (κ:Nat→Value) (a:Act) (w:World),base≤st.heap.length→Rel F κ st a w→∃ F' κ',Rel F' κ' st' a w∧mX base F κ w st.heap F' κ' w st'.heap
def qH (E:Env) (ops:Array Oper) (o:Oper) (st:St) (Q:St→Prop):Prop:=∀ (base:Nat) (F:Nat→Prop) (κ:Nat→Value) (a:Act) (w:World) (rest:List Oper) (R:Exit→Act→World→Prop),base≤st.heap.length→Rel F κ st a w→
 (∀ st' F' κ' a' w',Q st'→Rel F' κ' st' a' w'→mX base F κ w st.heap F' κ' w' st'.heap→wpList E.P ops R rest a' w')→wpList E.P ops R (o::rest) a w
section
variable {β:Type} {E:Env} {rc:Caller} {tm:List PV} {H:List aj} {ops:Array Oper} {st st' st2:St} {F:Nat→Prop} {κ κ':Nat→Value} {w:World} {N0:Nat}
theorem fD.refl (st:St):fD st st:=fun base F κ a w h0 rel=>⟨F,κ,rel,mX.refl h0⟩
theorem fD.trans (a:fD st st') (b:fD st' st2):fD st st2:=fun base F κ a' w h0 rel=>by
 obtain⟨F1,κ1,r1,e1⟩:=a base F κ a' w h0 rel
 obtain⟨F2,κ2,r2,e2⟩:=b base F1 κ1 a' w e1.hl r1
 exact⟨F2,κ2,r2,e1.trans e2⟩
theorem fD.aaO {H':List aj} (h:∀ (F:Nat→Prop) (κ:Nat→Value) (w:World),SI F κ w H→∃ κ',Turn F κ w H κ' H'):fD ⟨tm,H⟩ ⟨tm,H'⟩:=fun base F κ a w h0 rel=>by
 obtain⟨κ',t⟩:=h F κ w rel.si
 exact⟨F,κ',⟨rel.tl,fun i p v g1 g2=>t.rp (rel.tr i p v g1 g2),rel.dn,t.si⟩,⟨rfl,rfl,rfl,Nat.le_refl _,fun _ _ _=>rfl,fun _ h=>h,fun _ h=> .inl h,fun b h=> .inl (t.on b h),Nat.le_trans h0 t.len,fun l o hl g1 g2=>⟨t.kp l (Nat.lt_of_lt_of_le hl h0),t.nr l o g1 g2⟩⟩,Nat.le_refl _⟩
theorem fD.amL {H':List aj} (h:∀ (F:Nat→Prop) (κ:Nat→Value) (w:World),SI F κ w H→∃ F',zO F κ w H F' H'):fD ⟨tm,H⟩ ⟨tm,H'⟩:=fun base F κ a w h0 rel=>by
 obtain⟨F',f⟩:=h F κ w rel.si
 exact⟨F',κ,⟨rel.tl,fun i p v g1 g2=>by simp only[]; rw[f.len]; exact(rel.tr i p v g1 g2).freeze f.fm,rel.dn,f.si⟩,⟨rfl,rfl,rfl,Nat.le_refl _,fun _ _ _=>rfl,f.fm,fun b h=>(f.fn b h).imp id .inl,fun b h=> .inl (f.on b h),by rw[f.len]; exact h0,fun l o _ h1 h2=>⟨rfl,f.kp l o h1 h2⟩⟩,Nat.le_refl _⟩
theorem jg.turn {c:Code} {Q Q':St→Prop} (h:jg E c st Q') (hq:∀ s,Q' s→∃ s',fD s s'∧Q s'):jg E c st Q:=fun base F κ a w R h0 rel hR=>h base F κ a w R h0 rel fun s F' κ' a' w' q r e=>by
 obtain⟨s',t,q'⟩:=hq s q
 obtain⟨F2,κ2,r2,e2⟩:=t base F' κ' a' w' e.hl r
 exact hR s' F2 κ2 a' w' q' r2 (e.trans e2)
theorem qH.turn {o:Oper} {Q Q':St→Prop} (h:qH E ops o st Q') (hq:∀ s,Q' s→∃ s',fD s s'∧Q s'):qH E ops o st Q:=fun base F κ a w rest R h0 rel hR=>h base F κ a w rest R h0 rel fun s F' κ' a' w' q r e=>by
 obtain⟨s',t,q'⟩:=hq s q
 obtain⟨F2,κ2,r2,e2⟩:=t base F' κ' a' w' e.hl r
 exact hR s' F2 κ2 a' w' q' r2 (e.trans e2)
theorem qH.UZ (hc:fG E rc) {o:Oper} {Q:St→Prop} (h:stepD E rc ops o st Q):qH E ops o st Q:=fun base F κ a w rest R h0 rel hR=>Ig (base:=base) hc h h0 rel hR
def TK (E:Env) (ops:Array Oper):List Oper→St→(St→Prop)→Prop
 | [],st,Q=>Q st
 |o::r,st,Q=>qH E ops o st fun st=>TK E ops r st Q
theorem Lp:∀ {l:List Oper} {st:St} {Q:St→Prop} {base:Nat} {F:Nat→Prop} {κ:Nat→Value} {a:Act} {w:World} {R:Exit→Act→World→Prop},TK E ops l st Q→base≤st.heap.length→Rel F κ st a w→
 (∀ st' F' κ' a' w',Q st'→Rel F' κ' st' a' w'→mX base F κ w st.heap F' κ' w' st'.heap→R .normal a' w')→wpList E.P ops R l a w
 | [],st,Q,base,F,κ,a,w,R,h,h0,rel,hR=>hR st F κ a w h rel (mX.refl h0)
 |o::r,st,Q,base,F,κ,a,w,R,h,h0,rel,hR=>h base F κ a w r R h0 rel fun s F' κ' a' w' q r1 e=>Lp q e.hl r1 fun s2 F2 κ2 a2 w2 q2 r2 e2=>hR s2 F2 κ2 a2 w2 q2 r2 (e.trans e2)
theorem jg.aaN {id:Nat} {Q:St→Prop} (h:TK E ops ops.toList st Q):jg E (.region id ops false) st Q:=fun base F κ a w R h0 rel hR=>wp_region_list (Lp h h0 rel hR)
theorem Em (hrc:rc.Nat) (hc:fG E rc):∀ {l m:List Oper} {st st':St} {Q:St→Prop},bn E rc ops (l.map fun o=>(o,false)) st (fun s=>(.ok s:ah St))= .ok st'→TK E ops m st' Q→TK E ops (l++m) st Q
 | [],m,st,st',Q,h,hQ=>by
  simp only[List.map_nil,bn,ah.ok.injEq] at h
  subst h; exact hQ
 |o::l,m,st,st',Q,h,hQ=>by
  rw[List.map_cons,vP hrc] at h
  obtain⟨st1,h1,h2⟩:=bQ h
  exact qH.UZ hc (Ey h1 (Em hrc hc h2 hQ))
theorem qH.run (hc:fG E rc) {o:Oper} {Q:St→Prop} (h:bn E rc ops [(o,false)] st (fun s=>(.ok s:ah St))= .ok st') (hQ:Q st'):qH E ops o st Q:=qH.UZ hc (Ey h hQ)
theorem aaV {α:Type} (l:List α):∀ (n m:Nat) (x:α),(List.replicate n l).flatten[m]? =some x→l[m % l.length]? =some x
 |0,m,x,h=>by simp at h
 |n+1,m,x,h=>by
  rw[List.replicate_succ,List.flatten_cons] at h
  rcases Nat.lt_or_ge m l.length with h1|h1
  · rw[List.getElem?_append_left h1] at h
    rw[Nat.mod_eq_of_lt h1]; exact h
  · rw[List.getElem?_append_right h1] at h
    have:=aaV l n (m - l.length) x h
    rwa [←Nat.mod_eq_sub_mod h1] at this
theorem ajo {α:Type} (l:List α) (n:Nat):(List.replicate n l).flatten.length=n*l.length:=by
 induction n with
 |zero=>simp
 |succ n ih=>rw[List.replicate_succ,List.flatten_cons,List.length_append,ih,Nat.succ_mul]; omega
def Ed (E:Env) (st:St) (t:TypeId) (n c:PV):Option (PV×St):=match AY E.P t,n,c with
 |some e,.t (.int .i64 n),.t (.int .i64 c)=>(match kJ E.P e,Oq E.P e,((E.P.info? e).bind (·.zero)).bind (l9 E.P e) with
  |some (k+1),some (b+1),some z=>bif nJ E.P e (k+1)&&z.okS (k+1)&&(decide (0≤n)&&decide (n≤c)&&decide (c.toNat*(b+1)≤big)) then some (.own st.heap.length,⟨st.tmps,st.heap++ [.vec e (k+1) n.toNat (List.replicate n.toNat (z.cells (k+1))).flatten]⟩) else none
  |_,_,_=>none)
 |_,_,_=>none
theorem Rl {tm:Array Value} {e k n cap:Nat} {xs:List PV} {cells:Array Value} (h0:N0≤st.heap.length) (s:SI F κ w st.heap) (ht:TR F κ w st tm)
 (hcap:n≤cap) (hmax:cap≤maxLen) (hsz:cells.size=cap*k) (hb:n≤big) (hx:xs.length=n*k) (h1:∀ c∈cells,c.oneCell'=true)
 (hr:∀ (i:Nat) (p:PV) (v:Value),xs[i]? =some p→cells[i]? =some v→RP F κ st.heap.length w p v):
 ∃ κ',Next' N0 F κ w st tm (.own st.heap.length) (.slice (some ⟨w.heap.size,0,none⟩) n cap) F κ' (w.alloc (.cells cells e)) ⟨st.tmps,st.heap++ [.vec e k n xs]⟩:=by
 have hold:∀ b,b < w.heap.size→(w.alloc (.cells cells e)).heap[b]? =w.heap[b]? :=fun b hb=>heap_alloc_old' w _ b hb
 refine⟨upd κ st.heap.length (.slice (some ⟨w.heap.size,0,none⟩) n cap),Next'.push h0 s ht rfl rfl rfl (by simp) hold (fun _ h=>h) (fun _ h=> .inl h) (fun b hb=>by have:=s.fl b hb; simp; omega) ?_ (fun b hb=>?_) (.own (by omega) (upd_same κ _ _))⟩
 · have hle:n*k≤cells.size:=by rw[hsz]; exact Nat.mul_le_mul_right _ hcap
   refine⟨cells.toList.take (n*k),?_,hb,hx,fun c hc=>h1 c (by simpa using List.mem_of_mem_take hc),fun i p v hi hv=>?_⟩
   · rw[upd_same]
     exact⟨by simp; omega,.inr ⟨w.heap.size,cap,cells,rfl,by omega,heap_alloc_new' w _,hcap,hmax,hsz,rfl⟩⟩
   · rw[List.getElem?_take] at hv
     split at hv
     · exact(hr i p v hi (by simpa using hv)).push s _ hold (fun _ h=>h)
     · cases hv
 · simp only[blk,upd_same,Value.ownBlock,Option.some.injEq] at hb
   subst hb
   exact⟨Nat.le_refl _,by simp,fun hf=>absurd (s.fl _ hf) (by omega)⟩
theorem MJ {tm:Array Value} {t:TypeId} {p q r:PV} {v u:Value} (h:Ed E st t p q=some (r,st')) (h0:N0≤st.heap.length) (s:SI F κ w st.heap) (ht:TR F κ w st tm) (hp:RP F κ st.heap.length w p v) (hq:RP F κ st.heap.length w q u):
 ∃ x κ' w',(Instr.makeSlice t v u).run E.P w= .ok x w'∧Next' N0 F κ w st tm r x F κ' w' st':=by
 unfold Ed at h
 cases he:AY E.P t with
 |none=>simp[he] at h
 |some e=>
 cases hp<;>try (simp[he] at h; done)
 rename_i n hn
 cases hn<;>try (simp[he] at h; done)
 rename_i ki nn hni
 cases ki<;>try (simp[he] at h; done)
 cases hq<;>try (simp[he] at h; done)
 rename_i c hc
 cases hc<;>try (simp[he] at h; done)
 rename_i ki cc hci
 cases ki<;>try (simp[he] at h; done)
 simp only[he] at h
 cases hs:kJ E.P e with
 |none=>simp[hs] at h
 |some k=>
 cases k with
 |zero=>simp[hs] at h
 |succ k=>
 cases hb:Oq E.P e with
 |none=>simp[hs,hb] at h
 |some b=>
 cases b with
 |zero=>simp[hs,hb] at h
 |succ b=>
 cases hz:((E.P.info? e).bind (·.zero)).bind (l9 E.P e) with
 |none=>simp[hs,hb,hz] at h
 |some z=>
 simp only[hs,hb,hz] at h
 cases hg:(nJ E.P e (k+1)&&z.okS (k+1)&&(decide (0≤nn)&&decide (nn≤cc)&&decide (cc.toNat*(b+1)≤big))) with
 |false=>rw[hg] at h; cases h
 |true=>
 rw[hg] at h
 simp only[cond_true,Option.some.injEq,Prod.mk.injEq] at h
 obtain⟨rfl,rfl⟩:=h
 simp only[Bool.and_eq_true,decide_eq_true_eq] at hg
 obtain⟨⟨g2,g2'⟩,⟨g4,g5⟩,g6⟩:=hg
 obtain⟨i,zv,i1,i2,i3⟩:=AA hz
 have hsz:i.size=k+1:=by simpa[kJ,i1] using hs
 have hby:i.bytes=b+1:=by simpa[Oq,i1] using hb
 have hzr:=lG (F:=F) (κ:=κ) (N:=st.heap.length) (w:=w) i3
 obtain⟨u1,u2⟩:=qc hzr g2'
 obtain⟨u3,u4⟩:=hzr.cells u1 u2
 have hcb:cc.toNat≤big:=Nat.le_trans (Nat.le_mul_of_pos_right _ (by omega)) g6
 have hbig:big≤281474976710656:=by decide
 have hmax:=Af
 have hrun:=run_make (P:=E.P) w t e i zv (jO he) i1 i2 .i64 .i64 nn cc g4 g5 (by rw[hby]; have:((cc.toNat*(b+1):Nat):Int)≤281474976710656:=by omega
                                                                                 have e:(cc.toNat:Int)=cc:=Int.toNat_of_nonneg (by omega)
                                                                                 rw[Int.natCast_mul,e] at this
                                                                                 rw[Int.mul_comm]; exact this) (by omega)
 have hcell:∀ m v,(madeCells zv.cells (cc.toNat*i.size))[m]? =some v→zv.cells[m % (k+1)]? =some v:=by
  intro m v hv
  have hm:m < cc.toNat*i.size:=by have:=(Array.getElem?_eq_some_iff.1 hv).1; simpa[madeCells] using this
  have hmod:m % (k+1) < zv.cells.size:=by rw[u1]; exact Nat.mod_lt _ (by omega)
  rw[Array.getElem?_eq_getElem (by simpa[madeCells] using hm)] at hv
  simp only[madeCells,Array.getElem_map,Array.getElem_range,Option.some.injEq,u1] at hv
  rw[←hv,getElem!_pos zv.cells _ hmod,Array.getElem?_eq_getElem hmod]
 obtain⟨κ',hnext⟩:=Rl (N0:=N0) (tm:=tm) (e:=e) (k:=k+1) (n:=nn.toNat) (cap:=cc.toNat) (xs:=(List.replicate nn.toNat (z.cells (k+1))).flatten) (cells:=madeCells zv.cells (cc.toNat*i.size)) h0 s ht (by omega) (by omega) (by rw[size_madeCells,hsz]) (by omega) (by rw[ajo,u3])
  (fun c hc=>by
   obtain⟨m,hm,rfl⟩:=Array.getElem_of_mem hc
   have:=hcell m _ (Array.getElem?_eq_getElem hm)
   exact u2 _ (Array.mem_of_getElem? this))
  (fun j p v hp hv=>by
   have h1:=aaV _ _ _ _ hp
   rw[u3] at h1
   exact u4 _ p v h1 (hcell j v hv))
 exact⟨_,κ',_,hrun,by simpa[Int.toNat_of_nonneg g4] using hnext⟩
theorem RX {o:Oper} {t:TypeId} {n c:Operand} {pn pc q:PV} {Q:St→Prop} (hg:o.guard=none) (ho:o.op= .makeSlice t n c) (e1:bV E.P st.tmps 0 n=some pn) (e2:bV E.P st.tmps 0 c=some pc) (h:Ed E st t pn pc=some (q,st')) (hQ:Q ⟨dL st'.tmps o.dst q,st'.heap⟩):qH E ops o st Q:=by
 intro base F κ a w rest R h0 rel hR
 obtain⟨dst,op,type,pos,after,guard⟩:=o
 simp only at hg ho; subst hg; subst ho
 have ht:TR F κ w st a.tmps:=rel.tr
 obtain⟨x,κ',w',h1,nx⟩:=MJ (N0:=base) (tm:=a.tmps) h h0 rel.si ht (iP rel.tl ht e1) (iP rel.tl ht e2)
 simp only[wpList]
 rw[if_pos (by rfl)]
 refine .inl (dK (u:=x) (w':=w') ?_ (fun hdr=>hR _ _ _ _ _ hQ (nx.rel rel _) ⟨nx.ev,hdr⟩))
 simp only[execOp,Sem.run_bind,h1,Result.andThen_ok,Sem.run_pure]
end
end
section
open Go.RowKit
def DW (l i:Nat) (H:List aj):List aj:=match H[l]? with
 |some (.vec e k n xs)=>(match xs[i]? with
  |some (.nil e' k')=>(H.set l (.vec e k n (xs.set i (.own H.length))))++ [.row e' k' []]
  |_=>H)
 |_=>H
def akA:PV→PV
 | .nil _ k=> .t (.sl k [])
 | .full k xs=> .t (.sl k xs)
 |p=>p
def qO (l i:Nat) (H:List aj):List aj:=match H[l]? with
 |some (.vec e k n xs)=>(match xs[i]? with
  |some p=>H.set l (.vec e k n (xs.set i (akA p)))
  |none=>H)
 |_=>H
def mZ (k:Nat):Nat→List T→List T
 |0,_=>[]
 |n+1,xs=> .agg (xs.take k)::mZ k n (xs.drop k)
def DN (l:Nat) (H:List aj):List aj:=match H[l]? with
 |some (.vec e k n xs)=>(match PV.lF (aI (PV.dU xs) H) xs with
  |some ts=>bif decide (2≤k)&&decide (ts.length=n*k)&&(PV.dU xs).all (fun r=> !((aI (PV.dU xs) H)[r]? matches some (.row _ _ _))) then(aI (PV.dU xs) H).set l (.jT e k (mZ k n ts)) else H
  |none=>H)
 |_=>H
section
variable {β:Type} {E:Env} {tm:List PV} {H:List aj} {F:Nat→Prop} {κ κ':Nat→Value} {w:World}
theorem ajv {N:Nat} {p:PV} {v:Value} (h:RP F κ N w p v):RP F κ N w (akA p) v:=by
 cases h with
 |nil=>exact .t (.sl (xs:=[]) 0 0 (fun _ _=>undef) (Nat.zero_le _) (Nat.zero_le _) (by simp) (fun h=>absurd h (by simp)) (fun i j h=>absurd h (by simp)) (fun i j h=>absurd h (by simp)) (fun i x j y h=>by simp at h))
 |full h=>exact .t h
 |t h=>exact .t h
 |agg a b c=>exact .agg a b c
 |au a b=>exact .au a b
 |fn a b c d=>exact .fn a b c d
 |ptr a b=>exact .ptr a b
 |own a b=>exact .own a b
 |iC a b c=>exact .iC a b c
 |view a b=>exact .view a b
 |rp a b c d e f g=>exact .rp a b c d e f g
 |mp a b=>exact .mp a b
 |junk=>exact .junk
theorem Turn.vec (s:SI F κ w H) {l e k n i:Nat} {xs:List PV} {p p':PV} (h:H[l]? =some (.vec e k n xs)) (hi:xs[i]? =some p) (hp:∀ v,RP F κ H.length w p v→RP F κ H.length w p' v):Turn F κ w H κ (H.set l (.vec e k n (xs.set i p'))):=by
 have hl:l < H.length:=(List.getElem?_eq_some_iff.1 h).1
 have hil:i < xs.length:=(List.getElem?_eq_some_iff.1 hi).1
 obtain⟨cs,h1,h2,h3,h4,h5⟩:=s.ro l _ h
 have hro:RO F κ H.length w l (.vec e k n (xs.set i p')):=⟨cs,h1,h2,by simpa using h3,h4,fun j q v a b=>by
  by_cases e0:j=i
  · subst e0
    rw[List.getElem?_set_self hil] at a
    injection a with a
    subst a
    exact hp v (h5 j p v hi b)
  · rw[List.getElem?_set_ne (fun h=>e0 h.symm)] at a
    exact h5 j q v a b⟩
 have hblk:∀ q,blk κ l (.vec e k n q)=(κ l).ownBlock:=fun q=>rfl
 refine⟨⟨fun j o hj=>?_,fun j o b hj hb=>?_,fun j j' o o' b hj hj' hb hb'=>?_,s.fl⟩,by simp,fun _ _=>rfl,fun c hc=>?_,fun j o hj hn=>?_⟩
 · rw[List.length_set]
   rcases eu hl hj with ⟨rfl,rfl⟩|⟨hne,h2⟩
   · exact hro
   · exact s.ro j o h2
 · rcases eu hl hj with ⟨rfl,rfl⟩|⟨hne,h2⟩
   · exact s.lt j _ b h hb
   · exact s.lt j o b h2 hb
 · rcases eu hl hj with ⟨rfl,rfl⟩|⟨hne,h2⟩
   · rcases eu hl hj' with ⟨rfl,rfl⟩|⟨hne',h2'⟩
     · rfl
     · exact s.ne _ j' _ o' b h h2' hb hb'
   · rcases eu hl hj' with ⟨rfl,rfl⟩|⟨hne',h2'⟩
     · exact s.ne j _ o _ b h2 h hb hb'
     · exact s.ne j j' o o' b h2 h2' hb hb'
 · obtain⟨j,o,hj,ho⟩:=hc
   rcases eu hl hj with ⟨rfl,rfl⟩|⟨hne,h2⟩
   · exact⟨j,_,h,ho⟩
   · exact⟨j,o,h2,ho⟩
 · by_cases e0:j=l
   · subst e0; exact⟨_,List.getElem?_set_self hl,fun _ _ _ h=>by cases h⟩
   · exact⟨o,by rw[List.getElem?_set_ne (fun h=>e0 h.symm)]; exact hj,hn⟩
theorem C9 (l i:Nat):fD ⟨tm,H⟩ ⟨tm,qO l i H⟩:=by
 unfold qO
 cases h:H[l]? with
 |none=>exact fD.refl _
 |some o=>
  cases o<;>try exact fD.refl _
  rename_i e k n xs
  simp only[]
  cases hi:xs[i]? with
  |none=>exact fD.refl _
  |some p=>exact fD.aaO fun F κ w s=>⟨κ,Turn.vec s h hi fun v hv=>ajv hv⟩
theorem TA (l i:Nat):fD ⟨tm,H⟩ ⟨tm,DW l i H⟩:=by
 unfold DW
 cases h:H[l]? with
 |none=>exact fD.refl _
 |some o=>
  cases o<;>try exact fD.refl _
  rename_i e k n xs
  simp only[]
  cases hi:xs[i]? with
  |none=>exact fD.refl _
  |some p=>
   cases p<;>try exact fD.refl _
   rename_i e' k'
   refine fD.aaO fun F κ w s=>?_
   have t1:=Turn.nilRow (F:=F) (κ:=κ) (w:=w) s e' k'
   have hl:l < H.length:=(List.getElem?_eq_some_iff.1 h).1
   have h':(H++ [aj.row e' k' []])[l]? =some (.vec e k n xs):=by rw[List.getElem?_append_left hl]; exact h
   have t2:=Turn.vec t1.si (p':= .own H.length) h' hi fun v hv=>by
    cases hv
    exact .own (by simp) (upd_same κ _ _)
   refine⟨upd κ H.length (.slice none 0 0),?_⟩
   have e1:(H++ [aj.row e' k' []]).set l (.vec e k n (xs.set i (.own H.length)))=H.set l (.vec e k n (xs.set i (.own H.length)))++ [.row e' k' []]:=List.set_append_left _ _ hl
   show Turn F κ w H _ (H.set l (.vec e k n (xs.set i (.own H.length)))++ [.row e' k' []])
   rw[←e1]
   exact t1.trans t2
theorem yR (k:Nat):∀ (n:Nat) (xs:List T),(mZ k n xs).length=n
 |0,_=>rfl
 |n+1,xs=>by simp[mZ,yR k n]
theorem Dh (k:Nat):∀ (n:Nat) (xs:List T) (i:Nat),i < n→(mZ k n xs)[i]? =some (.agg ((xs.drop (i*k)).take k))
 |0,_,i,h=>absurd h (Nat.not_lt_zero _)
 |n+1,xs,0,_=>by simp[mZ]
 |n+1,xs,i+1,h=>by
  simp only[mZ,List.getElem?_cons_succ]
  rw[Dh k n (xs.drop k) i (by omega),List.drop_drop,Nat.succ_mul,Nat.add_comm]
theorem zO.vec (s:SI F κ w H) {l e k n:Nat} {xs:List PV} {ts:List T} (h:H[l]? =some (.vec e k n xs)) (hk:2≤k) (hl:ts.length=n*k) (hc:PV.lF H xs=some ts) (hrows:∀ p∈xs,∀ r∈p.rows,∀ (e:TypeId) (k:Nat) (xs:List T),H[r]? ≠some (.row e k xs)):∃ F',zO F κ w H F' (H.set l (.jT e k (mZ k n ts))):=by
 have hll:l < H.length:=(List.getElem?_eq_some_iff.1 h).1
 obtain⟨cs,r1,r2,r3,r4,r5⟩:=s.ro l _ h
 have hcs:cs.length=n*k:=r1.1
 have hF1:∀ c,F c→F c∨(κ l).ownBlock=some c:=fun c hc=> .inl hc
 have hlt:∀ {i j:Nat},i < n→j < k→i*k+j < n*k:=fun {i j} hi hj=>by
  calc i*k+j < i*k+k:=by omega
   _=(i+1)*k:=by rw[Nat.succ_mul]
   _≤n*k:=Nat.mul_le_mul_right _ hi
 have hcell:∀ (m:Nat) (y:T) (v:Value),ts[m]? =some y→cs[m]? =some v→Rd (fun c=>F c∨(κ l).ownBlock=some c) w y v:=fun m y v hy hv=>by
  obtain⟨p,hp,hf⟩:=(vG hc).2 m y hy
  exact kS s (r5 m p v hp hv) hF1 hf fun r hr e k xs c g _=>absurd g (hrows p (List.mem_of_getElem? hp) r hr e k xs)
 have hel:∀ x∈mZ k n ts,x.cells.length=k∧(k=1→x.isAgg=false):=fun x hx=>by
  obtain⟨i,hi,rfl⟩:=List.getElem_of_mem hx
  rw[yR] at hi
  have:=Dh k n ts i hi
  rw[List.getElem?_eq_getElem (by rw[yR]; exact hi)] at this
  injection this with this
  rw[this]
  refine⟨?_,fun h=>by omega⟩
  have h1:=hlt hi (show k - 1 < k by omega)
  simp only[T.cells,List.length_take,List.length_drop]
  omega
 have hrd:Rd (fun c=>F c∨(κ l).ownBlock=some c) w (.sl k (mZ k n ts)) (κ l):=by
  have hnil:n=0→κ l= .slice none 0 0→Rd (fun c=>F c∨(κ l).ownBlock=some c) w (.sl k (mZ k n ts)) (κ l):=fun h0 hv=>by
   subst h0
   rw[hv]
   exact .sl (xs:=[]) 0 0 (fun _ _=>undef) (Nat.zero_le _) (Nat.zero_le _) (by simp) (fun h=>absurd h (by simp)) (fun i j h=>absurd h (by simp)) (fun i j h=>absurd h (by simp)) (fun i x j y h=>by simp at h)
  rcases r1.2 with ⟨e1,e2⟩|⟨g,cap,cur,e1,e2,e3,e4,e5,e6,e7⟩
  · exact hnil e2 e1
  have hg:(κ l).ownBlock=some g:=by rw[e1]; rfl
  have hcl:(mZ k n ts).length=n:=yR _ _ _
  have:Rd (fun c=>F c∨(κ l).ownBlock=some c) w (.sl k (mZ k n ts)) (.slice (some ⟨g,0,none⟩) (mZ k n ts).length cap):=by
   refine .sl g 0 (fun i j=>cs.getD (i*k+j) undef) (by omega) (by omega) hel (fun _=>⟨rfl,.inr hg⟩) (fun i j hi hj=>?_) (fun i j hi hj=>?_) (fun i x j y hx hy=>?_)
   · rw[hcl] at hi
     show(cs.getD (i*k+j) undef).oneCell'=true
     rw[List.getD_eq_getElem?_getD,List.getElem?_eq_getElem (by rw[hcs]; exact hlt hi hj)]
     exact r4 _ (List.getElem_mem _)
   · rw[hcl] at hi
     have h1:=r1.cells (g:=g) hg (i*k+j) (cs.getD (i*k+j) undef) (by rw[List.getD_eq_getElem?_getD,List.getElem?_eq_getElem (by rw[hcs]; exact hlt hi hj)]; rfl)
     rw[add_mid,Nat.zero_add] at h1
     rw[Nat.zero_add]; exact h1
   · have hi:i < n:=by rw[←hcl]; exact(List.getElem?_eq_some_iff.1 hx).1
     rw[Dh k n ts i hi] at hx
     injection hx with hx
     subst hx
     simp only[T.cells] at hy
     have hj:j < k:=by have:=(List.getElem?_eq_some_iff.1 hy).1; simp at this; omega
     rw[List.getElem?_take,if_pos hj,List.getElem?_drop] at hy
     exact hcell _ y _ hy (by simp[List.getElem?_eq_getElem (show i*k+j < cs.length by rw[hcs]; exact hlt hi hj)])
  rw[hcl] at this
  rw[e1] at this ⊢
  exact this
 have hblk:blk κ l (.vec e k n xs)=(κ l).ownBlock:=rfl
 refine⟨fun c=>F c∨(κ l).ownBlock=some c,⟨⟨fun i o hi=>?_,fun i o c hi hc=>?_,fun i j o o' c hi hj hc hc'=>?_,fun c hc=>?_⟩,hF1,?_,?_,by simp,fun i o hi hnr=>?_⟩⟩
 · rw[List.length_set]
   rcases eu hll hi with ⟨rfl,rfl⟩|⟨hne,ho⟩
   · refine⟨hrd,fun ad n' c' hk=>?_⟩
     rcases r1.2 with ⟨q1,_⟩|⟨g,cap,cur,q1,_⟩
     · rw[q1] at hk; cases hk
     · rw[q1] at hk; injection hk with hk; injection hk with hk; exact⟨g,hk.symm⟩
   · exact(s.ro i o ho).mono hF1 (fun _ _=>rfl) (fun _ _=>rfl) rfl fun l' hl'=>⟨rfl,(s.ro i o ho).bound l' hl'⟩
 · rcases eu hll hi with ⟨rfl,rfl⟩|⟨hne,ho⟩
   · simp[blk] at hc
   · refine⟨(s.lt i o c ho hc).1,?_⟩
     rintro(hf|hf)
     · exact(s.lt i o c ho hc).2 hf
     · exact hne (s.ne i l o _ c ho h hc (hblk.trans hf))
 · rcases eu hll hi with ⟨rfl,rfl⟩|⟨hne,ho⟩
   · simp[blk] at hc
   · rcases eu hll hj with ⟨rfl,rfl⟩|⟨hne',ho'⟩
     · simp[blk] at hc'
     · exact s.ne i j o o' c ho ho' hc hc'
 · rcases hc with hc|hc
   · exact s.fl c hc
   · exact(s.lt l _ c h (hblk.trans hc)).1
 · rintro c (hc|hc)
   · exact .inl hc
   · exact .inr ⟨l,_,h,hblk.trans hc⟩
 · rintro c ⟨i,o,hi,hc⟩
   rcases eu hll hi with ⟨rfl,rfl⟩|⟨hne,ho⟩
   · simp[blk] at hc
   · exact⟨i,o,ho,hc⟩
 · by_cases e0:i=l
   · subst e0
     exact⟨_,List.getElem?_set_self hll,fun _ _ _ h=>by cases h⟩
   · exact⟨o,by rw[List.getElem?_set_ne (fun h=>e0 h.symm)]; exact hi,hnr⟩
theorem Tz (l:Nat):fD ⟨tm,H⟩ ⟨tm,DN l H⟩:=by
 unfold DN
 cases h:H[l]? with
 |none=>exact fD.refl _
 |some o=>
  cases o<;>try exact fD.refl _
  rename_i e k n xs
  simp only[]
  cases hf:PV.lF (aI (PV.dU xs) H) xs with
  |none=>exact fD.refl _
  |some ts=>
   simp only[]
   cases hc:(decide (2≤k)&&decide (ts.length=n*k)&&(PV.dU xs).all (fun r=> !((aI (PV.dU xs) H)[r]? matches some (.row _ _ _)))) with
   |false=>exact fD.refl _
   |true=>
    simp only[cond_true]
    simp only[Bool.and_eq_true,decide_eq_true_eq,List.all_eq_true] at hc
    refine fD.amL fun F κ w s=>?_
    obtain⟨F1,f1,_,f2⟩:=zO.rows s (PV.dU xs)
    have h':=f2 l _ h (fun _ _ _ h=>by cases h)
    obtain⟨F2,f3⟩:=zO.vec f1.si h' hc.1.1 hc.1.2 hf fun p hp r hr e k ys hy=>by
     have:=hc.2 r (uP hp hr)
     rw[hy] at this
     simp at this
    exact⟨F2,f1.trans f3⟩
end
end
section
open Go.RowKit
def aa4 (d:Nat→PV):List (Nat×PV)→Nat→PV
 | [],i=>d i
 |p::r,i=>bif Nat.beq p.1 i then p.2 else aa4 d r i
def zH (n:Nat) (d:Nat→PV) (l:List (Nat×PV)):List PV:=(List.range n).map (aa4 d l)
def dOf (st:St):Nat→PV:=fun j=>st.tmps.getD j dY
section
variable {β:Type} {E:Env} {rc:Caller} {ops:Array Oper} {N0:Nat}
theorem Ho (hrc:rc.Nat):∀ {l m:List (Oper×Bool)} {st st1:St} {K:St→ah β},bn E rc ops l st (fun s=>(.ok s:ah St))= .ok st1→bn E rc ops (l++m) st K=bn E rc ops m st1 K
 | [],m,st,st1,K,h=>by
  simp only[bn,ah.ok.injEq] at h
  subst h; rfl
 |x::l,m,st,st1,K,h=>by
  rw[vP hrc] at h
  obtain⟨s,h1,h2⟩:=bQ h
  rw[List.cons_append,vP hrc,h1]
  exact Ho hrc h2
theorem U2 (hrc:rc.Nat) (k:Nat) {l:List (Oper×Bool)} {st st1 st2:St} (h1:bn E rc ops (l.take k) st (fun s=>(.ok s:ah St))= .ok st1) (h2:bn E rc ops (l.drop k) st1 (fun s=>(.ok s:ah St))= .ok st2):bn E rc ops l st (fun s=>(.ok s:ah St))= .ok st2:=by
 have:=Ho (K:=fun s=>(.ok s:ah St)) (m:=l.drop k) hrc h1
 rw[List.take_append_drop] at this
 rw[this]; exact h2
theorem Fp:∀ {l m:List (Oper×Bool)} {st st1 st2:St},qV E rc ops N0 l st st1→qV E rc ops N0 m st1 st2→qV E rc ops N0 (l++m) st st2
 | [],m,st,st1,st2,h1,h2=>by
  have h1:st=st1:=h1
  subst h1; exact h2
 |x::l,m,st,st1,st2,h1,h2=>by
  obtain⟨s,a,b,c,d⟩:=h1
  exact⟨s,a,b,c,Fp d h2⟩
theorem acs (k:Nat) {l:List (Oper×Bool)} {st st1 st2:St} (h1:qV E rc ops N0 (l.take k) st st1) (h2:qV E rc ops N0 (l.drop k) st1 st2):qV E rc ops N0 l st st2:=by
 have:=Fp h1 h2
 rwa [List.take_append_drop] at this
theorem jg.pre {c:Code} {st st':St} {Q:St→Prop} (t:fD st st') (h:jg E c st' Q):jg E c st Q:=fun base F κ a w R h0 rel hR=>by
 obtain⟨F1,κ1,r1,e1⟩:=t base F κ a w h0 rel
 exact h base F1 κ1 a w R e1.hl r1 fun s F2 κ2 a2 w2 q r2 e2=>hR s F2 κ2 a2 w2 q r2 (e1.trans e2)
theorem fD.keep (live:List Nat) (tm:List PV) (H:List aj):fD ⟨tm,H⟩ ⟨dP live tm,H⟩:=fun base F κ a w h0 rel=>⟨F,κ,⟨by rw[zn]; exact rel.tl,fun i p v g1 g2=>by
 simp only[] at g1 ⊢
 rw[EM,Option.map_eq_some_iff] at g1
 obtain⟨q,g1,rfl⟩:=g1
 cases live.contains i with
 |true=>exact rel.tr i q v g1 g2
 |false=>exact .junk,rel.dn,rel.si⟩,mX.refl h0⟩
theorem fD.Jk (live:List Nat) {tm tm':List PV} {H:List aj} (h:dP live tm=tm'):fD ⟨tm,H⟩ ⟨tm',H⟩:=h ▸ fD.keep live tm H
theorem jg.draw (hm:E.P.follows .mixedOrders=true) (hc:fG E rc) (hd:sJ ops=true) {id:Nat} {st st':St} {Q:St→Prop} (h:bn E rc ops (dG ops) st (fun s=>(.ok s:ah St))= .ok st') (hQ:Q st'):jg E (.region id ops true) st Q:=fun base F κ a w R h0 rel hR=>by
 refine Di (N0:=base) (K:=fun s=>(.ok s:ah St)) hm hc hd (by rw[h]; simp) h0 rel fun s F' κ' a' w' e r ev=>?_
 rw[h] at e
 injection e with e
 subst e
 exact hR _ F' κ' a' w' hQ r ev
def adN (r:ah St):St:=match r with| .ok s=>s|_=>⟨[],[]⟩
theorem jg.run (hrc:rc.Nat) (hc:fG E rc) {id:Nat} {st st':St} {Q:St→Prop} (h:bn E rc ops (ops.toList.map fun o=>(o,false)) st (fun s=>(.ok s:ah St))= .ok st') (hQ:Q st'):jg E (.region id ops false) st Q:=by
 refine jg.aaN ?_
 have:=Em (Q:=Q) (m:=[]) hrc hc h hQ
 rwa [List.append_nil] at this
end
section
variable {E:Env} {n:Nat} {f:FuncId} {p:List Nat}
def Pn (E:Env) (n:Nat) (f:FuncId) (p:List Nat) (id i k:Nat):Ex→St→ah (Bool×St):=fun e s=>e.k (.ok (true,s)) (fun j=>bif Nat.beq j id then(oN E n f p i k s fun e s=>e.k (.ok (false,canon 0 (dZ E f [] (p.headD 0)).1 s)) (fun _=> .stuck) .stuck) else .stuck) .stuck
theorem yD {β:Type} {i k:Nat} {st:St} {K:Ex→St→ah β}:oN E n f p i k st K=(dO E n f p i k st).bind fun q=>K q.1 q.2:=by
 unfold oN dO
 rw[sS (fH E n) (Strict.bind fun q:Ex×St=>K q.1 q.2)]
 rfl
end
end
section
open Go.RowKit
section
variable {E:Env} {n:Nat} {f:FuncId} {p:List Nat}
def tJ (E:Env) (f:FuncId) (p:List Nat) (i:Nat):Ex→St→ah (Ex×St):=fun e s=>e.k (.ok (.norm,canon 0 (dZ E f p i).1 s)) (fun j=> .ok (.exit j,canon 0 (dZ E f p i).2 s)) (.ok (.ret,canon 0 (lD (dW E f)) s))
def IQ (E:Env) (n:Nat) (f:FuncId) (p:List Nat) (i id a k:Nat):Ex→St→ah (Ex×St):=fun e s=>e.k (oN E n f (p++ [i]) a k s (tJ E f p i)) (fun j=>if j=id then oN E n f (p++ [i]) a k s (tJ E f p i) else tJ E f p i (.exit j) s) (tJ E f p i .ret s)
theorem P9 {β:Type} {l:List Code} {st s:St} (a:Nat) (K:Ex→St→ah β) (h:kV E (aJ E n) f (dW E f) n 0 (l.take a) st (fun e s=>(.ok (e,s):ah (Ex×St)))= .ok (.norm,s)):kV E (aJ E n) f (dW E f) n 0 l st K=kV E (aJ E n) f (dW E f) n 0 (l.drop a) s K:=by
 have e1:kV E (aJ E n) f (dW E f) n 0 l st K=kV E (aJ E n) f (dW E f) n 0 (l.take a++l.drop a) st K:=by rw[List.take_append_drop]
 rw[e1,oG]
 have:=sS (E:=E) (f:=f) (fn:=dW E f) (n:=n) (base:=0) (fH E n) (Strict.bind fun q:Ex×St=>q.1.k (kV E (aJ E n) f (dW E f) n 0 (l.drop a) q.2 K) (fun i=>K (.exit i) q.2) (K .ret q.2)) (l.take a) st fun e s=> .ok (e,s)
 rw[h] at this
 exact this.symm
theorem FX {i a b k1 k2 id:Nat} {st s0 s1 s:St} {e:Ex} {c:Code} (hpI:aO E f (p++ [i])=spine (gZ ((aO E f p).getD i .skip))) (hb:(aO E f (p++ [i]))[a]? =some (.block id c)) (hp:aO E f ((p++ [i])++ [a])=spine c)
 (l1:(aO E f (p++ [i])).length=a+1+k2) (l2:(aO E f ((p++ [i])++ [a])).length=b+k1) (h1:dO E n f (p++ [i]) 0 a st= .ok (.norm,s0)) (h2:dO E n f ((p++ [i])++ [a]) 0 b s0= .ok (.norm,s1))
 (h3:oN E n f ((p++ [i])++ [a]) b k1 s1 (IQ E n f p i id (a+1) k2)= .ok (e,s)):nM E n f p i st= .ok (e,s):=by
 unfold nM zo
 show dA E (aJ E n) f (dW E f) n 0 (gZ ((aO E f p).getD i .skip)) st (tJ E f p i)=_
 unfold dO at h1 h2
 rw[List.drop_zero] at h1 h2
 rw[kZ,←hpI]
 rw[P9 a _ h1,drop_one hb]
 show dA E (aJ E n) f (dW E f) n 0 (.block id c) s0 (fun e s=>e.k (kV E (aJ E n) f (dW E f) n 0 ((aO E f (p++ [i])).drop (a+1)) s (tJ E f p i)) (fun j=>tJ E f p i (.exit j) s) (tJ E f p i .ret s))=_
 simp only[dA]
 rw[kZ,←hp,P9 b _ h2]
 rw[←h3]
 unfold oN
 have e1:((aO E f ((p++ [i])++ [a])).drop b).take k1=(aO E f ((p++ [i])++ [a])).drop b:=List.take_of_length_le (by rw[List.length_drop,l2]; omega)
 rw[e1]
 congr 1
 funext e s
 unfold IQ oN
 have e2:((aO E f (p++ [i])).drop (a+1)).take k2=(aO E f (p++ [i])).drop (a+1):=List.take_of_length_le (by rw[List.length_drop,l1]; omega)
 rw[e2]
 cases e<;>rfl
theorem KA {i a j:Nat} {st s s':St} (hpI:aO E f (p++ [i])=spine (gZ ((aO E f p).getD i .skip))) (h1:dO E n f (p++ [i]) 0 a st= .ok (.exit j,s)) (h2:canon 0 (dZ E f p i).2 s=s'):nM E n f p i st= .ok (.exit j,s'):=by
 unfold nM zo
 show dA E (aJ E n) f (dW E f) n 0 (gZ ((aO E f p).getD i .skip)) st (tJ E f p i)=_
 rw[kZ,←hpI]
 unfold dO at h1
 rw[List.drop_zero] at h1
 have e1:kV E (aJ E n) f (dW E f) n 0 (aO E f (p++ [i])) st (tJ E f p i)=kV E (aJ E n) f (dW E f) n 0 ((aO E f (p++ [i])).take a++(aO E f (p++ [i])).drop a) st (tJ E f p i):=by rw[List.take_append_drop]
 rw[e1,oG]
 have:=sS (E:=E) (f:=f) (fn:=dW E f) (n:=n) (base:=0) (fH E n) (Strict.bind fun q:Ex×St=>q.1.k (kV E (aJ E n) f (dW E f) n 0 ((aO E f (p++ [i])).drop a) q.2 (tJ E f p i)) (fun i'=>tJ E f p i (.exit i') q.2) (tJ E f p i .ret q.2)) ((aO E f (p++ [i])).take a) st fun e s=> .ok (e,s)
 rw[h1] at this
 refine this.symm.trans ?_
 rw[←h2]; rfl
theorem Ls {i a b k1 k2 id:Nat} {s1 s:St} {e:Ex} {Q:Ex→St→Prop} (l1:(aO E f (p++ [i])).length=a+1+k2) (l2:(aO E f ((p++ [i])++ [a])).length=b+k1)
 (h:oN E n f ((p++ [i])++ [a]) b k1 s1 (IQ E n f p i id (a+1) k2)= .ok (e,s)) (hQ:∀ e' s',tJ E f p i e' s'= .ok (e,s)→Q e' s'):
 ay E n f ((p++ [i])++ [a]) b s1 fun e st=>e.kP (ay E n f (p++ [i]) (a+1) st Q) (fun j=>if j=id then ay E n f (p++ [i]) (a+1) st Q else Q (.exit j) st) (Q .ret st):=by
 rw[yD] at h
 obtain⟨⟨e1,st1⟩,h1,h2⟩:=bQ h
 have rest:∀ st,oN E n f (p++ [i]) (a+1) k2 st (tJ E f p i)= .ok (e,s)→ay E n f (p++ [i]) (a+1) st Q:=fun st h=>by
  rw[yD] at h
  obtain⟨⟨e2,st2⟩,h3,h4⟩:=bQ h
  refine fF (e:=e2) k2 h3 ?_
  cases e2 with
  |norm=>exact kU l1 (hQ _ _ h4)
  |exit j=>exact hQ _ _ h4
  |ret=>exact hQ _ _ h4
 refine fF (e:=e1) k1 h1 ?_
 cases e1 with
 |norm=>exact kU l2 (rest st1 h2)
 |exit j=>
  simp only[IQ,Ex.k] at h2
  simp only[Ex.kP]
  split at h2
  · rename_i hj; rw[if_pos hj]; exact rest st1 h2
  · rename_i hj; rw[if_neg hj]; exact hQ _ _ h2
 |ret=>exact hQ _ _ h2
end
end
end Go.aT
