/- The texts of a proof, one behind the other: an interpreter and its soundness, what the functions of the program answer, and plain laws on that. -/
import Derived.Test.YtjlpnhpfbgbkhaaGreatK4
set_option linter.unusedVariables false
set_option linter.unusedSimpArgs false
set_option linter.unnecessarySimpa false
set_option linter.unusedSectionVars false
set_option maxRecDepth 100000
namespace Go.aT
section
open Go.RowKit
structure Strict {β γ:Type} (g:ah β→ah γ):Prop where
 stuck:g .stuck= .stuck
 absurd:g .absurd= .absurd
theorem Strict.bind {β γ:Type} (k:β→ah γ):Strict (fun r:ah β=>r.bind k):=⟨rfl,rfl⟩
section
variable {β γ α:Type} {g:ah β→ah γ} (hg:Strict g)
include hg
theorem fV (r:ah α) (k:α→ah β):g (r.bind k)=r.bind fun a=>g (k a):=by cases r<;>simp[hg.stuck,hg.absurd]
theorem cZ (b:Bool) (x y:ah β):g (bif b then x else y)=bif b then g x else g y:=by cases b<;>rfl
theorem jK (c:Prop) [Decidable c] (x y:ah β):g (if c then x else y)=if c then g x else g y:=by split<;>rfl
theorem bM (o:Option α) (K:α→ah β):g (aS o K)=aS o fun a=>g (K a):=by cases o<;>simp[aS,hg.stuck]
theorem fE (b:Bool) (r:ah β):g (chk b r)=chk b (g r):=by cases b<;>simp[chk,hg.stuck]
theorem jR (x:T) (K:Bool→ah β):g (bT x K)=bT x fun b=>g (K b):=by cases x<;>simp[bT,hg.stuck]
theorem jl (k:IntKind) (x:T) (K:Int→ah β):g (iT k x K)=iT k x fun b=>g (K b):=by cases x<;>simp[iT,hg.stuck]; split<;>simp[hg.stuck]
theorem gQ (x:T) (K:Int→ah β):g (o9 x K)=o9 x fun b=>g (K b):=by cases x<;>simp[o9,hg.stuck]
theorem jf (k:Nat) (x:T) (K:List T→ah β):g (qW k x K)=qW k x fun b=>g (K b):=by cases x<;>simp[qW,hg.stuck]; split<;>simp[hg.stuck]
theorem gU (x:T) (K:ByteArray→ah β):g (Qd x K)=Qd x fun b=>g (K b):=by cases x<;>simp[Qd,hg.stuck]
theorem iE (x:T) (K:Int→ah β):g (Yd x K)=Yd x fun b=>g (K b):=by cases x<;>simp[Yd,hg.stuck]
theorem iG (x:T) (K:Int→ah β):g (iO x K)=iO x fun b=>g (K b):=by cases x<;>simp[iO,hg.stuck]
theorem iF (x:T) (K:Nat→T→ah β):g (akX x K)=akX x fun n b=>g (K n b):=by cases x<;>simp[akX,hg.stuck]
theorem fC (x:T) (i:Nat) (K:T→ah β):g (aG x i K)=aG x i fun b=>g (K b):=by cases x<;>simp[aG,hg.stuck]; split<;>simp[hg.stuck]
theorem jI (xs:List T) (i:Int) (K:T→ah β):g (bK xs i K)=bK xs i fun b=>g (K b):=by unfold bK; split; split; all_goals simp[hg.stuck]
theorem eH (f:α→Bool) (r:ah β):∀ (xs:List α),g (bW f xs r)=bW f xs (g r)
 | []=>rfl
 |x::xs=>by simp only[bW]; rw[fE hg,eH f r xs]
theorem iq (x:T) (K:T→ah β):g (PS x .stuck K)=PS x .stuck fun b=>g (K b):=by cases x<;>simp[PS,hg.stuck]
theorem jJ (l:List Nat) (x y:T) (K:Bool→ah β):g (eqT l x y K)=eqT l x y fun b=>g (K b):=by unfold eqT; split<;>simp[hg.stuck]
variable {E:Env} {st:St}
theorem PE (t:TypeId) (p:PV) (K:PV→ah β):g (uj E st t p K)=uj E st t p fun b=>g (K b):=by unfold uj; repeat' (first|rfl|exact Strict.stuck hg|exact Strict.absurd hg|simp only[cZ hg,jK hg,fE hg,bM hg,jR hg,jl hg,gQ hg,jf hg,gU hg,iE hg,iG hg,iF hg,fC hg,jI hg,eH hg,iq hg,jJ hg,fV hg,Strict.stuck hg,Strict.absurd hg]|split|(congr 1; funext _))
theorem Y8 (t:TypeId) (p v:PV) (K:St→ah β):g (wU E st t p v K)=wU E st t p v fun b=>g (K b):=by unfold wU; repeat' (first|rfl|exact Strict.stuck hg|exact Strict.absurd hg|simp only[cZ hg,jK hg,fE hg,bM hg,jR hg,jl hg,gQ hg,jf hg,gU hg,iE hg,iG hg,iF hg,fC hg,jI hg,eH hg,iq hg,jJ hg,fV hg,Strict.stuck hg,Strict.absurd hg]|split|(congr 1; funext _))
theorem Dq (k:Nat) (p:PV) (K:List T→ah β):g (sK st k p K)=sK st k p fun b=>g (K b):=by unfold sK; repeat' (first|rfl|exact Strict.stuck hg|exact Strict.absurd hg|simp only[cZ hg,jK hg,fE hg,bM hg,jR hg,jl hg,gQ hg,jf hg,gU hg,iE hg,iG hg,iF hg,fC hg,jI hg,eH hg,iq hg,jJ hg,fV hg,Strict.stuck hg,Strict.absurd hg]|split|(congr 1; funext _))
theorem Y6 (t:TypeId) (p ix:PV) (K:PV→ah β):g (pY E st t p ix K)=pY E st t p ix fun b=>g (K b):=by unfold pY; repeat' (first|rfl|exact Strict.stuck hg|exact Strict.absurd hg|simp only[cZ hg,jK hg,fE hg,bM hg,jR hg,jl hg,gQ hg,jf hg,gU hg,iE hg,iG hg,iF hg,fC hg,jI hg,eH hg,iq hg,jJ hg,fV hg,Strict.stuck hg,Strict.absurd hg]|split|(congr 1; funext _))
theorem MK (t:TypeId) (f:Nat) (p:PV) (K:PV→ah β):g (kH E t f p K)=kH E t f p fun b=>g (K b):=by unfold kH; repeat' (first|rfl|exact Strict.stuck hg|exact Strict.absurd hg|simp only[cZ hg,jK hg,fE hg,bM hg,jR hg,jl hg,gQ hg,jf hg,gU hg,iE hg,iG hg,iF hg,fC hg,jI hg,eH hg,iq hg,jJ hg,fV hg,Strict.stuck hg,Strict.absurd hg]|split|(congr 1; funext _))
theorem Y3 (op:BinOp) (k:IntKind) (a b:Int) (K:T→ah β):g (wF op k a b K)=wF op k a b fun x=>g (K x):=by cases op<;>simp only[wF,fE hg,hg.stuck]
theorem Ld (op:BinOp) (k:IntKind) (a b:Int) (K:T→ah β):g (wR op k a b K)=wR op k a b fun x=>g (K x):=by cases op<;>simp only[wR,fE hg,hg.stuck]
theorem afS (k:Nat) (x:T) (K:Bool→ah β):g (agJ k x K)=agJ k x fun b=>g (K b):=by unfold agJ; repeat' (first|rfl|exact Strict.stuck hg|exact Strict.absurd hg|simp only[cZ hg,jK hg,fE hg,bM hg,jR hg,jl hg,gQ hg,jf hg,gU hg,iE hg,iG hg,iF hg,fC hg,jI hg,eH hg,iq hg,jJ hg,fV hg,Strict.stuck hg,Strict.absurd hg]|split|(congr 1; funext _))
theorem afR (k:Nat) (p:PV) (K:Bool→ah β):g (Ci k p K)=Ci k p fun b=>g (K b):=by unfold Ci; cases p<;>simp only[cZ hg,afS hg,hg.stuck]
theorem ai6 (t:TypeId) (x y:Operand) (px py:PV) (K:Bool→ah β):g (eqK E t x y px py K)=eqK E t x y px py fun b=>g (K b):=by
 unfold eqK; split
 · simp only[cZ hg,afR hg,hg.stuck]
 · repeat' (first|rfl|exact Strict.stuck hg|exact Strict.absurd hg|simp only[cZ hg,jK hg,fE hg,bM hg,jR hg,jl hg,gQ hg,jf hg,gU hg,iE hg,iG hg,iF hg,fC hg,jI hg,eH hg,iq hg,jJ hg,fV hg,Strict.stuck hg,Strict.absurd hg]|split|(congr 1; funext _))
theorem afP (op:BinOp) (t t':TypeId) (x y:Operand) (px py:PV) (K:PV→ah β):g (FW E op t t' x y px py K)=FW E op t t' x y px py fun b=>g (K b):=by
 unfold FW; split
 · split
   · split
     · split<;>simp only[jl hg,Ld hg,hg.stuck]
     · exact hg.stuck
   · split
     · split<;>simp only[jl hg,Ld hg,hg.stuck]
     · exact hg.stuck
   · split<;>simp only[jl hg,Y3 hg,hg.stuck]
 · split<;>simp only[ai6 hg,hg.stuck]
theorem ai7 (op:UnOp) (t:TypeId) (px:PV) (K:PV→ah β):g (unK E op t px K)=unK E op t px fun b=>g (K b):=by unfold unK; repeat' (first|rfl|exact Strict.stuck hg|exact Strict.absurd hg|simp only[cZ hg,jK hg,fE hg,bM hg,jR hg,jl hg,gQ hg,jf hg,gU hg,iE hg,iG hg,iF hg,fC hg,jI hg,eH hg,iq hg,jJ hg,fV hg,Strict.stuck hg,Strict.absurd hg]|split|(congr 1; funext _))
theorem abS (s d:TypeId) (px:PV) (K:PV→ah β):g (Ir E s d px K)=Ir E s d px fun b=>g (K b):=by unfold Ir; repeat' (first|rfl|exact Strict.stuck hg|exact Strict.absurd hg|simp only[cZ hg,jK hg,fE hg,bM hg,jR hg,jl hg,gQ hg,jf hg,gU hg,iE hg,iG hg,iF hg,fC hg,jI hg,eH hg,iq hg,jJ hg,fV hg,Strict.stuck hg,Strict.absurd hg]|split|(congr 1; funext _))
theorem PG (s:Nat) (a:Bool) (n o:Nat) (p:PV) (K:PV→ah β):g (EY s a n o p K)=EY s a n o p fun b=>g (K b):=by unfold EY; repeat' (first|rfl|exact Strict.stuck hg|exact Strict.absurd hg|simp only[cZ hg,jK hg,fE hg,bM hg,jR hg,jl hg,gQ hg,jf hg,gU hg,iE hg,iG hg,iF hg,fC hg,jI hg,eH hg,iq hg,jJ hg,fV hg,Strict.stuck hg,Strict.absurd hg]|split|(congr 1; funext _))
theorem afO (t:TypeId) (p i:PV) (K:PV→ah β):g (TD E t p i K)=TD E t p i fun b=>g (K b):=by
 unfold TD; split
 · split
   · simp only[gQ hg,fE hg,PG hg]
   · exact hg.stuck
 · split
   · simp only[gU hg,gQ hg,fE hg,bM hg]
   · exact hg.stuck
 · exact hg.stuck
theorem afQ (t:TypeId) (f:Nat) (p:PV) (K:PV→ah β):g (TF E t f p K)=TF E t f p fun b=>g (K b):=by
 unfold TF; split
 · split
   · simp only[PG hg]
   · exact hg.stuck
 · exact hg.stuck
theorem Dn (n d:Nat) (p:Option PV) (K:Nat→ah β):g (mG n d p K)=mG n d p fun b=>g (K b):=by unfold mG; repeat' (first|rfl|exact Strict.stuck hg|exact Strict.absurd hg|simp only[cZ hg,jK hg,fE hg,bM hg,jR hg,jl hg,gQ hg,jf hg,gU hg,iE hg,iG hg,iF hg,fC hg,jI hg,eH hg,iq hg,jJ hg,fV hg,Strict.stuck hg,Strict.absurd hg]|split|(congr 1; funext _))
theorem Y7 (dr:Bool) (t:TypeId) (p:PV) (lo hi mx:Option PV) (K:PV→St→ah β):g (wS E dr st t p lo hi mx K)=wS E dr st t p lo hi mx fun b s=>g (K b s):=by
 unfold wS; split
 · split
   · simp only[gU hg,Dn hg]
   · exact hg.stuck
 · split
   · exact hg.stuck
   · split
     · simp only[cZ hg,hg.stuck]
       congr 1
       split<;>simp only[Dn hg,cZ hg,hg.stuck]
     · simp only[Dq hg,cZ hg,hg.stuck]
       congr 1; congr 1; funext xs
       split<;>simp only[Dn hg,cZ hg,hg.stuck]
 · exact hg.stuck
theorem VQ (t t':TypeId) (s x:PV) (K:PV→St→ah β):g (qI E st t t' s x K)=qI E st t t' s x fun b s=>g (K b s):=by
 unfold qI; split
 · split
   · simp only[cZ hg,Dq hg,hg.stuck]
     congr 1; congr 1; funext ys
     repeat' (first|rfl|exact Strict.stuck hg|exact Strict.absurd hg|simp only[cZ hg,jK hg,fE hg,bM hg,jR hg,jl hg,gQ hg,jf hg,gU hg,iE hg,iG hg,iF hg,fC hg,jI hg,eH hg,iq hg,jJ hg,fV hg,Strict.stuck hg,Strict.absurd hg]|split|(congr 1; funext _))
   · exact hg.stuck
 · exact hg.stuck
theorem Y5 (t:TypeId) (p:PV) (K:St→ah β):g (BI E st t p K)=BI E st t p fun s=>g (K s):=by
 unfold BI; repeat' (first|rfl|exact Strict.stuck hg|exact Strict.absurd hg|simp only[cZ hg,jK hg,fE hg,bM hg,jR hg,jl hg,gQ hg,jf hg,gU hg,iE hg,iG hg,iF hg,fC hg,jI hg,eH hg,iq hg,jJ hg,fV hg,Strict.stuck hg,Strict.absurd hg]|split|(congr 1; funext _))
theorem abT (t t':TypeId) (p x:PV) (K:PV→St→ah β):g (zh E st t t' p x K)=zh E st t t' p x fun b s=>g (K b s):=by
 unfold zh; split
 · split
   · simp only[cZ hg,Dq hg,hg.stuck]
     congr 1; congr 1; funext ys
     repeat' (first|rfl|exact Strict.stuck hg|exact Strict.absurd hg|simp only[cZ hg,jK hg,fE hg,bM hg,jR hg,jl hg,gQ hg,jf hg,gU hg,iE hg,iG hg,iF hg,fC hg,jI hg,eH hg,iq hg,jJ hg,fV hg,Strict.stuck hg,Strict.absurd hg]|split|(congr 1; funext _))
   · exact hg.stuck
 · exact hg.stuck
theorem ML (t:TypeId) (n c:PV) (K:PV→St→ah β):g (pO E st t n c K)=pO E st t n c fun b s=>g (K b s):=by unfold pO; repeat' (first|rfl|exact Strict.stuck hg|exact Strict.absurd hg|simp only[cZ hg,jK hg,fE hg,bM hg,jR hg,jl hg,gQ hg,jf hg,gU hg,iE hg,iG hg,iF hg,fC hg,jI hg,eH hg,iq hg,jJ hg,fV hg,Strict.stuck hg,Strict.absurd hg]|split|(congr 1; funext _))
theorem Eh (l:List Nat) (k:T) (es:List (T×T×Nat)) (Kn:ah β) (K:Nat→T→Nat→ah β):g (fA l k es Kn K)=fA l k es (g Kn) fun i v b=>g (K i v b):=by unfold fA; split<;>simp[hg.stuck]
theorem Ei (t:TypeId) (p ix:PV) (K:List Nat→Nat→List (T×T×Nat)→Nat→T→ah β):g (Ee E st t p ix K)=Ee E st t p ix fun l m es c k=>g (K l m es c k):=by
 unfold Ee
 split
 · simp only[bM hg]
   congr 1; funext l
   split
   · split
     · simp only[fE hg]
     · exact hg.stuck
   · exact hg.stuck
 · exact hg.stuck
theorem VT (t:TypeId) (p ix:PV) (ok:Bool) (K:PV→ah β):g (rE E st t p ix ok K)=rE E st t p ix ok fun q=>g (K q):=by
 simp only[rE,bM hg,Ei hg,Eh hg]
theorem VU (t:TypeId) (p ix v:PV) (K:St→ah β):g (wQ E st t p ix v K)=wQ E st t p ix v fun s=>g (K s):=by
 simp only[wQ,bM hg,Ei hg,Eh hg,cZ hg,hg.stuck]
theorem N9 (t:TypeId) (p ix:PV) (K:PV→St→ah β):g (ny E st t p ix K)=ny E st t p ix fun q s=>g (K q s):=by
 simp only[ny,bM hg,Ei hg,Eh hg,fE hg]
theorem Jq (p s v:PV) (K:St→ah β):g (oz st p s v K)=oz st p s v fun s=>g (K s):=by
 unfold oz
 split
 · simp only[jl hg]
   congr 1; funext n
   split
   · simp only[bM hg,cZ hg,hg.stuck]
     congr 1; funext x; congr 1; congr 1; funext i
     split
     · rfl
     · exact hg.stuck
   · exact hg.stuck
 · exact hg.stuck
theorem VR (t:TypeId) (p ix:PV) (K:St→ah β):g (yH E st t p ix K)=yH E st t p ix fun s=>g (K s):=by
 simp only[yH,Ei hg,Eh hg]
theorem Pz (n:Nat) (place:Nat→Option (Nat×Nat)) (K:List PV→ah β):∀ (ps:List (Nat×PV)) (cs:List PV),g (Ag n place cs ps K)=Ag n place cs ps fun b=>g (K b)
 | [],cs=>rfl
 |(i,p)::r,cs=>by
  simp only[Ag]
  split
  · simp only[cZ hg,fE hg,Pz n place K r,hg.stuck]
  · exact hg.stuck
theorem Y4 (t:TypeId) (ps:List (Nat×PV)) (K:PV→ah β):g (BG E t ps K)=BG E t ps fun b=>g (K b):=by
 unfold BG; split
 · simp only[bM hg,fE hg,Pz hg]
 · exact hg.stuck
theorem Jp (dr:Bool) (t:TypeId) (n:Nat) (ps:List (Nat×PV)) (K:PV→St→ah β):g (jX E dr st t n ps K)=jX E dr st t n ps fun b s=>g (K b s):=by unfold jX; repeat' (first|rfl|exact Strict.stuck hg|exact Strict.absurd hg|simp only[cZ hg,jK hg,fE hg,bM hg,jR hg,jl hg,gQ hg,jf hg,gU hg,iE hg,iG hg,iF hg,fC hg,jI hg,eH hg,iq hg,jJ hg,fV hg,Strict.stuck hg,Strict.absurd hg]|split|(congr 1; funext _))
theorem Dp (x:T) (K:List PV→ah β):∀ (n i:Nat) (K:List PV→ah β),g (zA x i n K)=zA x i n fun b=>g (K b)
 |0,i,K=>rfl
 |n+1,i,K=>by
  simp only[zA,fC hg]
  congr 1; funext y
  exact Dp x K n (i+1) _
theorem Gm (k:IntKind):∀ (ps:List PV) (K:List Int→ah β),g (Cb k ps K)=Cb k ps fun b=>g (K b)
 | [],K=>rfl
 |p::r,K=>by
  cases p<;>simp only[Cb,hg.stuck,jl hg]
  congr 1; funext n
  exact Gm k r _
def Caller.Nat (rc:Caller):Prop:=∀ (β γ:Type) (g:ah β→ah γ),Strict g→∀ (f:FuncId) (args:List PV) (H:List aj) (K:PV→List aj→ah β),g (rc.go β f args H K)=rc.go γ f args H fun r H'=>g (K r H')
theorem PD (dr:Bool) (f:FuncId) (gf:List aj→List T→List PV→ah (List T)) (l:Nat) (rest:List PV) (st:St) (K:PV→St→ah β):g (Ai E dr f gf l rest st K)=Ai E dr f gf l rest st fun b s=>g (K b s):=by unfold Ai; repeat' (first|rfl|exact Strict.stuck hg|exact Strict.absurd hg|simp only[cZ hg,jK hg,fE hg,bM hg,jR hg,jl hg,gQ hg,jf hg,gU hg,iE hg,iG hg,iF hg,fC hg,jI hg,eH hg,iq hg,jJ hg,fV hg,Strict.stuck hg,Strict.absurd hg]|split|(congr 1; funext _))
theorem abU (dr:Bool) (f:FuncId) (gf:List aj→List T→List PV→ah (List T)) (args:List PV) (K:PV→St→ah β):g (BZ E dr f gf args st K)=BZ E dr f gf args st fun b s=>g (K b s):=by
 unfold BZ
 split
 · exact PD hg _ _ _ _ _ _ _
 · split
   · exact PD hg _ _ _ _ _ _ _
   · exact Strict.stuck hg
 · exact Strict.stuck hg
theorem abV (p:PV) (K:PV→St→ah β):g (IE p st K)=IE p st fun b s=>g (K b s):=by unfold IE; repeat' (first|rfl|exact Strict.stuck hg|exact Strict.absurd hg|simp only[cZ hg,jK hg,fE hg,bM hg,jR hg,jl hg,gQ hg,jf hg,gU hg,iE hg,iG hg,iF hg,fC hg,jI hg,eH hg,iq hg,jJ hg,fV hg,Strict.stuck hg,Strict.absurd hg]|split|(congr 1; funext _))
variable {rc:Caller} (hrc:rc.Nat)
include hrc
theorem Py (dr:Bool) (f:FuncId) (args:List PV) (K:PV→St→ah β):g (mD E rc dr f args st K)=mD E rc dr f args st fun b s=>g (K b s):=by
 unfold mD; split
 · exact abU hg _ _ _ _ _
 split
 · simp only[]
   split
   · simp only[fV hg,cZ hg,fE hg,hg.stuck]
   · simp only[fV hg,cZ hg,bM hg,jf hg,hg.stuck]
   · simp only[fV hg,cZ hg,bM hg,jf hg,fC hg,Dp hg,hg.stuck]
     congr 1; congr 1; funext x; congr 1; funext y; congr 1; funext z; congr 1; funext u
     exact Dp hg _ (fun _=> .stuck) _ _ _
 · rw[cZ hg,hg.stuck,hrc _ _ g hg]
   simp only[abV hg]
theorem ai5 (x:T) (ts:List T) (K:T→ah β):g (oJ E rc x ts K)=oJ E rc x ts fun b=>g (K b):=by unfold oJ; repeat' (first|rfl|exact Strict.stuck hg|exact Strict.absurd hg|simp only[cZ hg,jK hg,fE hg,bM hg,jR hg,jl hg,gQ hg,jf hg,gU hg,iE hg,iG hg,iF hg,fC hg,jI hg,eH hg,iq hg,jJ hg,fV hg,Strict.stuck hg,Strict.absurd hg]|split|(congr 1; funext _))
theorem Rk (b:Builtin) (tys:List TypeId) (args:List PV) (K:PV→St→ah β):g (lH E b tys args st K)=lH E b tys args st fun b s=>g (K b s):=by
 unfold lH; split
 · repeat' (first|rfl|exact Strict.stuck hg|exact Strict.absurd hg|simp only[cZ hg,jK hg,fE hg,bM hg,jR hg,jl hg,gQ hg,jf hg,gU hg,iE hg,iG hg,iF hg,fC hg,jI hg,eH hg,iq hg,jJ hg,fV hg,Strict.stuck hg,Strict.absurd hg]|split|(congr 1; funext _))
 · exact VQ hg _ _ _ _ _
 · exact VR hg _ _ _ _
 · exact Y5 hg _ _ _
 · exact abT hg _ _ _ _ _
 · simp only[bM hg,jl hg,Gm hg]
 · simp only[bM hg,jl hg,Gm hg]
 · exact hg.stuck
theorem DV (dr:Bool) (o:Oper) (K:PV→St→ah β):g (kY E rc dr o st K)=kY E rc dr o st fun b s=>g (K b s):=by
 unfold kY
 split
 all_goals simp only[bM hg,fE hg,cZ hg,PE hg,Y8 hg,afP hg,ai7 hg,abS hg,Y4 hg,Jp hg,ML hg,Y7 hg,MK hg,Y6 hg,afO hg,afQ hg,VT hg,VU hg,N9 hg,Jq hg,hg.stuck]
 · congr 1; funext p; cases p<;>first|exact hg.stuck|(simp only[jR hg,cZ hg,bM hg])
 · congr 1; funext p; cases p<;>first|exact hg.stuck|rfl|(simp only[iq hg])
 · congr 1; funext p; cases p<;>first|exact hg.stuck|simp only[bM hg,fC hg]
 · split
   · simp only[bM hg,Rk hg hrc]
   · simp only[bM hg,Py hg hrc]
   · simp only[bM hg]
     congr 1; funext p; congr 1; funext args
     cases p<;>first|exact hg.stuck|exact Py hg hrc _ _ _ _|simp only[bM hg,cZ hg,ai5 hg hrc,hg.stuck]
   · exact hg.stuck
theorem nN (ops:Array Oper):∀ (l:List (Oper×Bool)) (st:St) (K:St→ah β),g (bn E rc ops l st K)=bn E rc ops l st fun s=>g (K s)
 | [],st,K=>rfl
 |(o,dr)::r,st,K=>by
  simp only[bn]
  split
  · rw[DV hg hrc]; congr 1; funext p s; exact nN ops r _ K
  · split
    · exact nN ops r _ K
    · split
      · exact nN ops r _ K
      · simp only[jR hg,cZ hg,DV hg hrc,nN ops r _ K]
      · exact hg.stuck
end
end
section
open Go.RowKit
def Row (F:Nat→Prop) (w:World) (e k:Nat) (xs:List T) (v:Value):Prop:=RO F (fun _=>v) 0 w 0 (.row e k xs)
theorem Row.ro {F:Nat→Prop} {w:World} {e k:Nat} {xs:List T} {v:Value} (h:Row F w e k xs v) {κ:Nat→Value} {N l:Nat} (hk:κ l=v):RO F κ N w l (.row e k xs):=by
 obtain⟨cs,h1,h2⟩:=h
 exact⟨cs,by rw[hk]; exact h1,h2⟩
inductive Out (E:Env) (f:FuncId) (F:Nat→Prop) (B:Nat) (w:World):T→Value→Prop
 |frozen {x:T} {v:Value} (hm:E.mode f=0) (h:Rd F w x v):Out E f F B w x v
 |row {e k:Nat} {xs:List T} {v:Value} (hm:E.mode f=1) (hr:lu E f=some (e,k)) (h:Row F w e k xs v) (hb:∀ b,v.ownBlock=some b→B≤b∧b < w.heap.size∧ ¬ F b):Out E f F B w (.sl k xs) v
 |au {e k:Nat} {xs ys:List T} {v:Value} {vs:List Value} (hm:2≤E.mode f) (hr:lu E f=some (e,k)) (h:Row F w e k xs v) (hb:∀ b,v.ownBlock=some b→B≤b∧b < w.heap.size∧ ¬ F b)
  (hc:ys.length+1=sZ E f) (hl:vs.length=ys.length) (hys:∀ (i:Nat) (x:T) (v:Value),ys[i]? =some x→vs[i]? =some v→Rd F w x v):Out E f F B w (.au (.sl k xs::ys)) (.tuple (v::vs).toArray)
structure Grown (F:Nat→Prop) (w:World) (F':Nat→Prop) (w':World):Prop where
 os:w'.os=w.os
 tape:w'.tape=w.tape
 output:w'.output=w.output
 size:w.heap.size≤w'.heap.size
 old:∀ b,b < w.heap.size→w'.heap[b]? =w.heap[b]?
 fm:∀ b,F b→F' b
 fn:∀ b,F' b→F b∨w.heap.size≤b
 fl:∀ b,F' b→b < w'.heap.size
def Invokes (P:Program) (f:FuncId) (args:Array Value) (w:World) (R:Value→World→Prop):Prop:=match (callFunc f args).run P w with
 | .ok (.enter g as) w1=>Calls P g as w1 fun e w'=>∃ v,e= .returned v∧R v w'∧w.drawn≤w'.drawn
 | .ok (.value v) w1=>R v w1
 | .ok (.row row as) w1=>Rows P row as w1 fun v w'=>R v w'∧w.drawn≤w'.drawn
 |_=>False
theorem Invokes.mono {P:Program} {f:FuncId} {args:Array Value} {w:World} {R R':Value→World→Prop} (h:Invokes P f args w R) (hr:∀ v w',R v w'→R' v w'):Invokes P f args w R':=by
 unfold Invokes at*
 split at h
 · exact Calls.mono h fun e w' ⟨v,h1,h2,h3⟩=>⟨v,h1,hr v w' h2,h3⟩
 · exact hr _ _ h
 · exact Rows.mono h fun v w' ⟨h1,h2⟩=>⟨hr v w' h1,h2⟩
 · exact h.elim
theorem Invokes.upon {P:Program} {f:FuncId} {args:Array Value} {w:World} {R:Value→World→Prop} {o:Oper} {a:Act} {next:Act→World→Prop} {Q:Exit→Act→World→Prop} (h:Invokes P f args w R)
 (hr:∀ v w',R v w'→w.drawn≤w'.drawn→next (a.put o.dst v) w'):o.upon P a next Q ((callFunc f args).run P w):=by
 unfold Invokes at h
 have hd:∀ {n:Next} {w1:World},(callFunc f args).run P w= .ok n w1→w.drawn≤w1.drawn:=fun h=>fK P _ _ h
 generalize (callFunc f args).run P w=r at*
 cases r with
 |ok n w1=>
  cases n<;>simp only at h
  case enter g as=>
   simp only[Oper.upon]
   refine Calls.mono h fun e w' ⟨v,h1,h2,h3⟩=>?_
   subst h1
   exact hr v w' h2 h3
  case value v=>exact hr _ _ h (hd rfl)
  case row row as=>exact Rows.mono h fun v w' ⟨h1,h2⟩=>hr v w' h1 h2
 |halt=>exact h.elim
def Je (E:Env) (f:FuncId) (g:List aj→List T→List PV→ah (List T)):Prop:=∀ (F:Nat→Prop) (κ:Nat→Value) (w:World) (H:List aj) (l e k:Nat) (xs:List T) (rest:List PV) (vals:List Value),SI F κ w H→H[l]? =some (.row e k xs)→
 lu E f=some (e,k)→l∉PV.dU rest→vals.length=rest.length→(∀ (i:Nat) (p:PV) (v:Value),rest[i]? =some p→vals[i]? =some v→RP F κ H.length w p v)→g H xs rest≠ .stuck→
 Invokes E.P f (κ l::vals).toArray w fun r w'=>∃ ys,g H xs rest= .ok ys∧w.grownBy w' (κ l).ownBlock∧(r.ownBlock=(κ l).ownBlock∨∃ b,r.ownBlock=some b∧w.heap.size≤b)∧(∀ b,r.ownBlock=some b→b < w'.heap.size)∧
  ∀ F1:Nat→Prop,(∀ b,F b→F1 b)→(∀ m∈PV.dU rest,∀ (e' k':Nat) (xs':List T) (b:Nat),H[m]? =some (.row e' k' xs')→(κ m).ownBlock=some b→F1 b)→(∀ b,F1 b→w'.heap[b]? =w.heap[b]?)→Row F1 w' e k ys r
structure fG (E:Env) (rc:Caller):Prop where
 nat:rc.Nat
 zM:∀ (f:FuncId) (g:List aj→List T→List PV→ah (List T)),E.zM f=some g→Je E f g
 pure:∀ (f:FuncId) (ts:List T),rc.pure f ts≠ .stuck→∀ (F:Nat→Prop) (w:World) (vals:List Value),vals.length=ts.length→(∀ (i:Nat) (x:T) (v:Value),ts[i]? =some x→vals[i]? =some v→Rd F w x v)→
  (∀ b,F b→b < w.heap.size)→Invokes E.P f vals.toArray w fun v w'=>∃ x F',rc.pure f ts= .ok x∧Out E f F' w.heap.size w' x v∧Grown F w F' w'
 go:∀ (β:Type) (f:FuncId) (args:List PV) (H:List aj) (K:PV→List aj→ah β),rc.go β f args H K≠ .stuck→∀ (F:Nat→Prop) (κ:Nat→Value) (w:World) (vals:List Value),vals.length=args.length→
  (∀ (i:Nat) (p:PV) (v:Value),args[i]? =some p→vals[i]? =some v→RP F κ H.length w p v)→SI F κ w H→
  Invokes E.P f vals.toArray w fun v w'=>∃ r H' F' κ',rc.go β f args H K=K r H'∧RP F' κ' H'.length w' r v∧SI F' κ' w' H'∧Ev H.length F κ w H F' κ' w' H'
theorem KI {β:Type}:∀ (n i:Nat) (l:List T) (K:List PV→ah β),i+n=l.length→zA (.au l) i n K=K ((l.drop i).map .t)
 |0,i,l,K,h=>by simp[zA,List.drop_of_length_le (show l.length≤i by omega)]
 |n+1,i,l,K,h=>by
  have hi:i < l.length:=by omega
  simp only[zA,aG,List.getElem?_eq_getElem hi]
  rw[KI n (i+1) l _ (by omega),List.drop_eq_getElem_cons hi]
  rfl
section
variable {β:Type} {E:Env} {rc:Caller} {st:St} {F:Nat→Prop} {κ:Nat→Value} {w:World} {N0:Nat} {tm:Array Value}
theorem vw {α:Type} {r:ah α} {k:α→ah β} (h:r.bind k≠ .stuck):r≠ .stuck:=by rintro rfl; exact h rfl
theorem Grown.next (h0:N0≤st.heap.length) (s:SI F κ w st.heap) (ht:TR F κ w st tm) {F':Nat→Prop} {w':World} (g:Grown F w F' w') {p:PV} {v:Value} (hp:RP F' κ st.heap.length w' p v):Next' N0 F κ w st tm p v F' κ w' st:=
 Next'.fresh h0 s ht g.os g.tape g.output g.size g.old g.fm g.fn g.fl hp
theorem Next'.frozen {ls:List Nat} {F1 F':Nat→Prop} {κ':Nat→Value} {w':World} {p:PV} {v:Value} {st':St} (h0:N0≤st.heap.length) (a1:∀ b,F b→F1 b) (a2:∀ b,F1 b→F b∨Own κ st.heap b) (a3:∀ b,Own κ (aI ls st.heap) b→Own κ st.heap b)
 (a5:∀ (l:Nat) (o:aj),st.heap[l]? =some o→(∀ (e:TypeId) (k:Nat) (xs:List T),o≠ .row e k xs)→(aI ls st.heap)[l]? =some o)
 (h:Next' N0 F1 κ w ⟨st.tmps,aI ls st.heap⟩ tm p v F' κ' w' st'):Next' N0 F κ w st tm p v F' κ' w' st':=
 ⟨h.si,(Ev.freeze ls h0 a1 a2 a3 a5).trans h.ev,h.rp,h.tl,h.tr⟩
theorem afz (ex:List Nat) (H:List aj) (l:Nat):(lJ ex H)[l]? =(H[l]?).map fun o=>match o with
 | .row e k xs=>bif ex.contains l then .row e k xs else .dead
 |o=>o:=by
 unfold lJ
 rw[List.getElem?_map,List.getElem?_zipIdx]
 cases H[l]? with
 |none=>rfl
 |some o=>simp; cases o<;>rfl
theorem xP (ex:List Nat) (H:List aj):(lJ ex H).length=H.length:=by simp[lJ]
theorem Vm (ex:List Nat) (H H':List aj) (l:Nat):(tu ex H H')[l]? =(H'[l]?).map fun o=>match H[l]? with
 |some (.row e k xs)=>bif ex.contains l then o else .row e k xs
 |_=>o:=by
 unfold tu
 rw[List.getElem?_map,List.getElem?_zipIdx]
 cases H'[l]? with
 |none=>rfl
 |some o=>
  simp only[Option.map_some,Nat.zero_add]
  cases H[l]? with
  |none=>rfl
  |some q=>cases q<;>rfl
theorem Eu (ex:List Nat) (H H':List aj):(tu ex H H').length=H'.length:=by simp[tu]
def Hid (ex:List Nat) (H:List aj) (l:Nat):Prop:=ex.contains l=false∧∃ e k xs,H[l]? =some (.row e k xs)
theorem vN (ex:List Nat) (H:List aj) (l:Nat):(Hid ex H l∧(lJ ex H)[l]? =some .dead)∨(¬ Hid ex H l∧(lJ ex H)[l]? =H[l]?):=by
 rw[afz]
 cases h:H[l]? with
 |none=>exact .inr ⟨fun⟨_,e,k,xs,h'⟩=>(by rw[h] at h'; cases h'),rfl⟩
 |some o=>
  cases o with
  |row e k xs=>
   cases hc:ex.contains l with
   |true=>exact .inr ⟨fun h'=>(by rw[h'.1] at hc; cases hc),by simp only[Option.map_some,hc,cond_true]⟩
   |false=>exact .inl ⟨⟨hc,e,k,xs,h⟩,by simp only[Option.map_some,hc,cond_false]⟩
  |_=>exact .inr ⟨fun⟨_,e,k,xs,h'⟩=>(by rw[h] at h'; cases h'),rfl⟩
theorem SI.hide (s:SI F κ w st.heap) (ex:List Nat):SI F κ w (lJ ex st.heap):=by
 have hg:∀ l o,(lJ ex st.heap)[l]? =some o→o=aj.dead∨st.heap[l]? =some o:=fun l o h=>by
  rcases vN ex st.heap l with ⟨_,h2⟩|⟨_,h2⟩
  · rw[h] at h2; injection h2 with h2; exact .inl h2
  · exact .inr (h2 ▸ h)
 refine⟨fun l o h=>?_,fun l o b h hb=>?_,fun l l' o o' b h h' hb hb'=>?_,s.fl⟩
 · rw[xP]
   rcases hg l o h with rfl|h1
   · trivial
   · exact s.ro l o h1
 · rcases hg l o h with rfl|h1
   · simp[blk] at hb
   · exact s.lt l o b h1 hb
 · rcases hg l o h with rfl|h1
   · simp[blk] at hb
   · rcases hg l' o' h' with rfl|h2
     · simp[blk] at hb'
     · exact s.ne l l' o o' b h1 h2 hb hb'
theorem xQ {ex:List Nat} {H:List aj} {b:Nat} (h:Own κ (lJ ex H) b):∃ l o,H[l]? =some o∧blk κ l o=some b∧ ¬ Hid ex H l:=by
 obtain⟨l,o,h1,h2⟩:=h
 rcases vN ex H l with ⟨_,h4⟩|⟨h3,h4⟩
 · rw[h1] at h4; injection h4 with h4; subst h4; simp[blk] at h2
 · exact⟨l,o,by rw[←h4]; exact h1,h2,h3⟩
theorem amu (h0:N0≤st.heap.length) (s:SI F κ w st.heap) (ht:TR F κ w st tm) {ex:List Nat} {F':Nat→Prop} {κ':Nat→Value} {w':World} {H':List aj} {r:PV} {v:Value}
 (hr:RP F' κ' H'.length w' r v) (s':SI F' κ' w' H') (ev:Ev (lJ ex st.heap).length F κ w (lJ ex st.heap) F' κ' w' H'):
 Next' N0 F κ w st tm r v F' κ' w' ⟨PV.kills (ex.contains ·) st.tmps,tu ex st.heap H'⟩:=by
 have hN:st.heap.length≤H'.length:=by have:=ev.hl; rwa [xP] at this
 have hid:∀ l,Hid ex st.heap l→κ' l=κ l∧(∃ o',H'[l]? =some o'∧∀ e k xs,o'≠ .row e k xs):=fun l hl=>by
  have hlt:l < st.heap.length:=by obtain⟨_,e,k,xs,h⟩:=hl; exact(List.getElem?_eq_some_iff.1 h).1
  rcases vN ex st.heap l with ⟨_,h2⟩|⟨h1,_⟩
  · obtain⟨a,o',b,c⟩:=ev.kp l .dead (by rw[xP]; exact hlt) h2 (by simp)
    exact⟨a,o',b,c⟩
  · exact absurd hl h1
 have agG:∀ l e k xs b,Hid ex st.heap l→st.heap[l]? =some (.row e k xs)→(κ l).ownBlock=some b→w'.heap[b]? =w.heap[b]? ∧b < w.heap.size∧ ¬ F' b∧(∀ i o,H'[i]? =some o→ ¬ Hid ex st.heap i→blk κ' i o≠some b):=by
  intro l e k xs b hl ho hb
  obtain⟨h1,h2⟩:=s.lt l _ b ho (by simpa[blk] using hb)
  have hno:¬ Own κ (lJ ex st.heap) b:=fun h=>by
   obtain⟨l',o',a,c,d⟩:=xQ h
   exact d (s.ne l l' _ o' b ho a (by simpa[blk] using hb) c ▸ hl)
  refine⟨ev.frame b h1 hno,h1,fun hf=>?_,fun i o hi _ hbi=>?_⟩
  · rcases ev.fn b hf with h|h|h
    · exact h2 h
    · exact hno h
    · omega
  · rcases ev.on b ⟨i,o,hi,hbi⟩ with h|h
    · exact hno h
    · omega
 have sg:∀ l o,(tu ex st.heap H')[l]? =some o→(Hid ex st.heap l∧st.heap[l]? =some o∧∃ e k xs,o= .row e k xs)∨(¬ Hid ex st.heap l∧H'[l]? =some o):=by
  intro l o h
  rw[Vm,Option.map_eq_some_iff] at h
  obtain⟨o',h1,h2⟩:=h
  cases h3:st.heap[l]? with
  |none=>rw[h3] at h2; simp only at h2; subst h2; exact .inr ⟨fun⟨_,e,k,xs,h⟩=>(by rw[h3] at h; cases h),h1⟩
  |some q=>
   rw[h3] at h2
   cases q with
   |row e k xs=>
    simp only at h2
    cases hc:ex.contains l with
    |true=>rw[hc] at h2; simp only[cond_true] at h2; subst h2; exact .inr ⟨fun h=>(by rw[h.1] at hc; cases hc),h1⟩
    |false=>rw[hc] at h2; simp only[cond_false] at h2; subst h2; exact .inl ⟨⟨hc,e,k,xs,h3⟩,rfl,e,k,xs,rfl⟩
   |_=>simp only at h2; subst h2; exact .inr ⟨fun⟨_,e,k,xs,h⟩=>(by rw[h3] at h; cases h),h1⟩
 refine⟨⟨fun l o h=>?_,fun l o b h hb=>?_,fun l l' o o' b h h' hb hb'=>?_,s'.fl⟩,⟨ev.os,ev.tape,ev.output,ev.size,fun b hb hno=>?_,ev.fm,fun b hb=>?_,fun b hb=>?_,by rw[Eu]; omega,fun l o hl h1 h2=>?_⟩,by rw[Eu]; exact hr,by simp[jk],fun i q u g1 g2=>?_⟩
 · rw[Eu]
   rcases sg l o h with ⟨h1,h2,e,k,xs,rfl⟩|⟨h1,h2⟩
   · refine(s.ro l _ h2).mono ev.fm (fun b hb=>?_) (fun b hb=>?_) (hid l h1).1 (fun l' hl'=>by simp[aj.gq] at hl')
     · exact ev.frame b (s.fl b hb) fun h=>by obtain⟨l',o',a,c,_⟩:=xQ h; exact(s.lt l' o' b a c).2 hb
     · exact(agG l e k xs b h1 h2 (by simpa[blk] using hb)).1
   · exact s'.ro l o h2
 · rcases sg l o h with ⟨h1,h2,e,k,xs,rfl⟩|⟨h1,h2⟩
   · have hb:(κ l).ownBlock=some b:=by rw[←(hid l h1).1]; simpa[blk] using hb
     obtain⟨_,a,c,_⟩:=agG l e k xs b h1 h2 hb
     exact⟨Nat.lt_of_lt_of_le a ev.size,c⟩
   · exact s'.lt l o b h2 hb
 · rcases sg l o h with ⟨h1,h2,e,k,xs,rfl⟩|⟨h1,h2⟩<;>rcases sg l' o' h' with ⟨h1',h2',e',k',xs',rfl⟩|⟨h1',h2'⟩
   · have hb:(κ l).ownBlock=some b:=by rw[←(hid l h1).1]; simpa[blk] using hb
     have hb':(κ l').ownBlock=some b:=by rw[←(hid l' h1').1]; simpa[blk] using hb'
     exact s.ne l l' _ _ b h2 h2' (by simpa[blk] using hb) (by simpa[blk] using hb')
   · have hb:(κ l).ownBlock=some b:=by rw[←(hid l h1).1]; simpa[blk] using hb
     exact absurd hb' ((agG l e k xs b h1 h2 hb).2.2.2 l' o' h2' h1')
   · have hb':(κ l').ownBlock=some b:=by rw[←(hid l' h1').1]; simpa[blk] using hb'
     exact absurd hb ((agG l' e' k' xs' b h1' h2' hb').2.2.2 l o h2 h1)
   · exact s'.ne l l' o o' b h2 h2' hb hb'
 · refine ev.frame b hb fun h=>?_
   obtain⟨l',o',a,c,_⟩:=xQ h
   exact hno ⟨l',o',a,c⟩
 · rcases ev.fn b hb with h|h|h
   · exact .inl h
   · obtain⟨l',o',a,c,_⟩:=xQ h; exact .inr (.inl ⟨l',o',a,c⟩)
   · exact .inr (.inr h)
 · obtain⟨l,o,h1,h2⟩:=hb
   rcases sg l o h1 with ⟨a1,a2,e,k,xs,rfl⟩|⟨a1,a2⟩
   · have hb:(κ l).ownBlock=some b:=by rw[←(hid l a1).1]; simpa[blk] using h2
     exact .inl ⟨l,_,a2,by simpa[blk] using hb⟩
   · rcases ev.on b ⟨l,o,a2,h2⟩ with h|h
     · obtain⟨l',o',a,c,_⟩:=xQ h; exact .inl ⟨l',o',a,c⟩
     · exact .inr h
 · have hnh:¬ Hid ex st.heap l:=fun⟨_,e,k,xs,h⟩=>h2 e k xs (by rw[h1] at h; injection h)
   rcases vN ex st.heap l with ⟨h3,_⟩|⟨_,h4⟩
   · exact absurd h3 hnh
   · obtain⟨a,o',b,c⟩:=ev.kp l o (by rw[xP]; omega) (h4.trans h1) h2
     refine⟨a,o',?_,c⟩
     rw[Vm,b]
     simp only[Option.map_some,h1]
     cases o<;>first|rfl|exact absurd rfl (h2 _ _ _)
 · rw[gK,Option.map_eq_some_iff] at g1
   obtain⟨q,g1,rfl⟩:=g1
   rw[Eu]
   refine(ht i q u g1 g2).kill _ ev.fm (fun b hb=>?_) hN fun l hl hne=>?_
   · exact ev.frame b (s.fl b hb) fun h=>by obtain⟨l',o',a,c,_⟩:=xQ h; exact(s.lt l' o' b a c).2 hb
   · cases ho:st.heap[l]? with
     |none=>have:=List.getElem?_eq_none_iff.1 ho; omega
     |some o=>
      by_cases hrow:∃ e k xs,o= .row e k xs
      · obtain⟨e,k,xs,rfl⟩:=hrow
        obtain⟨A,c,h1,_⟩:=uz (s.ro l _ ho)
        refine⟨?_,A,_,c,h1⟩
        cases hc:ex.contains l with
        |true=>rfl
        |false=>exact absurd (hid l ⟨hc,e,k,xs,ho⟩).1 hne
      · have hnr:∀ e k xs,o≠ .row e k xs:=fun e k xs h=>hrow ⟨e,k,xs,h⟩
        rcases vN ex st.heap l with ⟨⟨_,e,k,xs,h3⟩,_⟩|⟨_,h4⟩
        · rw[ho] at h3; injection h3 with h3; exact absurd h3 (hnr e k xs)
        · exact absurd (ev.kp l o (by rw[xP]; exact hl) (h4.trans ho) hnr).1 hne
theorem Row.cut {w':World} {F':Nat→Prop} {e k hi:Nat} {xs:List T} {r v:Value} (h:Row F' w' e k xs r) (hv:QV r v k 0 hi) (hle:hi≤xs.length):Row F' w' e k (xs.take hi) v∧v.ownBlock=r.ownBlock:=by
 obtain⟨B,n',c',A',⟨v1,vb⟩,v2,v3,v4,v5⟩:=hv
 obtain⟨cs,o1,o2,o3,o4,o5⟩:=h
 have hcs:=o1.1
 have hxl:(xs.take hi).length=hi:=by simp; omega
 have hle2:hi*k≤cs.length:=by rw[hcs]; exact Nat.mul_le_mul_right _ hle
 refine⟨⟨cs.take (hi*k),?_,by omega,fun x hx=>o3 x (List.mem_of_mem_take hx),fun c hc=>o4 c (List.mem_of_mem_take hc),fun i x j y u hx hy hu=>?_⟩,?_⟩
 · rw[hxl]
   refine⟨by simp; omega,?_⟩
   rcases o1.2 with ⟨q1,q2⟩|⟨g,cap,cur,q1,q2,q3,q4,q5,q6,q7⟩
   · replace q1:r=_:=q1
     rw[v1] at q1
     injection q1 with q1 q3 q4
     subst q1; subst q4
     rcases v5 with ⟨_,rfl⟩|⟨b,o,h,_⟩
     · have hz:hi=0:=by replace q2:xs.length=0:=q2; omega
       left; exact⟨by rw[v2,hz],hz⟩
     · cases h
   · replace q1:r=_:=q1
     rw[v1] at q1
     injection q1 with q1 q8 q9
     subst q1; subst q9
     rcases v5 with ⟨h,_⟩|⟨b,o,h1,rfl,h3⟩
     · cases h
     · injection h1 with h1; injection h1 with h1
       subst h1
       right
       refine⟨g,c',cur,?_,q2,q3,by omega,q5,q6,?_⟩
       · rw[v2,h3 (.inr rfl)]; simp
       · rw[←q7,List.take_take]; congr 1; rw[hcs] at hle2; omega
 · have hi':i < (xs.take hi).length:=(List.getElem?_eq_some_iff.1 hx).1
   rw[List.getElem?_take,if_pos (by omega)] at hx
   rw[List.getElem?_take] at hu
   split at hu
   · exact o5 i x j y u hx hy hu
   · cases hu
 · rw[v1,v2]
   rcases v5 with ⟨rfl,rfl⟩|⟨b,o,rfl,rfl,_⟩<;>rfl
theorem Xn {st1:St} {F':Nat→Prop} {κ':Nat→Value} {w':World} {r:PV} {v:Value} {K:PV→St→ah β} (h0:N0≤st1.heap.length) (hn:Next' N0 F κ w st tm r v F' κ' w' st1):
 ∃ p st2 κ2,IE r st1 K=K p st2∧Next' N0 F κ w st tm p v F' κ2 w' st2:=by
 unfold IE
 split
 · rename_i l k hi
   split
   · rename_i e k' xs ho
     cases hg:(k'==k&&decide (hi≤xs.length)) with
     |false=>exact⟨_,_,κ',rfl,hn⟩
     |true=>
      simp only[Bool.and_eq_true,beq_iff_eq,decide_eq_true_eq] at hg
      obtain⟨rfl,hle⟩:=hg
      simp only[cond_true]
      have hrp:=hn.rp
      cases hrp with
      | @view _ _ _ _ A n c hN hv=>
      obtain⟨b3,hblk⟩:=Row.cut (show Row F' w' e k' xs (κ' l) from hn.si.ro l _ ho) hv hle
      have hro:RO F' (upd κ' l (.slice A n c)) st1.heap.length w' l (.row e k' (xs.take hi)):=b3.ro (upd_same _ _ _)
      obtain⟨t1,t2,t3,t4⟩:=hn.si.QM ho (.slice A n c) ⟨rfl,rfl,rfl,Nat.le_refl _,fun _ _ _=>rfl⟩ (.inl hblk) (fun b hb=>by rw[hblk] at hb; exact(hn.si.lt l _ b ho (by simpa[blk] using hb)).1) hro N0 h0
      refine⟨_,_,upd κ' l (.slice A n c),rfl,t1,hn.ev.trans t2,.own (by simpa using hN) (upd_same _ _ _),by rw[jk]; exact hn.tl,fun i q u g1 g2=>?_⟩
      rw[gK,Option.map_eq_some_iff] at g1
      obtain⟨q,g1,rfl⟩:=g1
      exact(hn.tr i q u g1 g2).kill _ (fun _ h=>h) t3 (by simp) t4
   · exact⟨_,_,κ',rfl,hn⟩
 · exact⟨_,_,κ',rfl,hn⟩
theorem G9 {dr:Bool} {f:FuncId} {g:List aj→List T→List PV→ah (List T)} (hg:Je E f g) {l:Nat} {rest:List PV} {v:Value} {vals:List Value} {K:PV→St→ah β} (h:Ai E dr f g l rest st K≠ .stuck) (h0:N0≤st.heap.length) (s:SI F κ w st.heap) (ht:TR F κ w st tm)
 (hl:vals.length=rest.length) (hN:l < st.heap.length) (hk:κ l=v) (ha:∀ (i:Nat) (p:PV) (v:Value),rest[i]? =some p→vals[i]? =some v→RP F κ st.heap.length w p v):
 Invokes E.P f (v::vals).toArray w fun v w'=>∃ p st' F' κ',Ai E dr f g l rest st K=K p st'∧Next' N0 F κ w st tm p v F' κ' w' st':=by
 unfold Ai at h ⊢
 cases ho:st.heap[l]? with
 |none=>simp[ho] at h
 |some obj=>
  cases obj with
  |row e k xs=>
   simp only[ho] at h ⊢
   obtain⟨g1,e1⟩:=bD h
   rw[e1] at h ⊢
   simp only[Bool.and_eq_true,beq_iff_eq,Bool.not_eq_true'] at g1
   obtain⟨⟨_,g2⟩,g3⟩:=g1
   have hnm:l∉PV.dU rest:=fun hm=>by rw[List.contains_iff_mem.2 hm] at g3; cases g3
   obtain⟨F1,s1,a1,a2,a3,a4,a5,a6⟩:=jS (PV.dU rest) s
   have hi:=hg F κ w st.heap l e k xs rest vals s ho g2 hnm hl ha (vw h)
   rw[hk] at hi
   refine hi.mono fun r w'=>?_
   rintro⟨ys,q1,q2,q3,q4,q5⟩
   rw[q1]
   simp only[ah.bind_ok]
   rw[←hk] at q2 q3
   have ho':(aI (PV.dU rest) st.heap)[l]? =some (.row e k xs):=by rw[oL _ _ hnm]; exact ho
   have hF1:∀ b,F1 b→w'.heap[b]? =w.heap[b]? :=fun b hb=>q2.block b (s1.fl b hb) fun e=>(s1.lt l _ b ho' (by simpa[blk] using e.symm)).2 hb
   have hrow:=q5 F1 a1 a4 hF1
   have hro:RO F1 (upd κ l r) (aI (PV.dU rest) st.heap).length w' l (.row e k ys):=hrow.ro (upd_same _ _ _)
   obtain⟨t1,t2,t3,t4⟩:=s1.QM ho' r q2 q3 q4 hro N0 (by rw[bU]; exact h0)
   refine⟨_,_,F1,upd κ l r,rfl,Next'.frozen h0 a1 a2 a3 a5 ⟨t1,t2,?_,by simp[jk],fun i q u c d=>?_⟩⟩
   · obtain⟨A',c',h4,_⟩:=uz hro
     rw[upd_same] at h4
     rw[h4]
     exact .own (by simpa[bU] using hN) (by rw[upd_same])
   · rw[gK,Option.map_eq_some_iff] at c
     obtain⟨q,c,rfl⟩:=c
     exact((ht i q u c d).freeze a1).kill _ (fun _ h=>h) t3 (by simp[bU]) (fun i hi=>t4 i (by rw[bU]; exact hi))
  |_=>simp[ho] at h
theorem VN {dr:Bool} {f:FuncId} {g:List aj→List T→List PV→ah (List T)} (hg:Je E f g) {args:List PV} {vals:List Value} {K:PV→St→ah β} (h:BZ E dr f g args st K≠ .stuck) (h0:N0≤st.heap.length) (s:SI F κ w st.heap) (ht:TR F κ w st tm)
 (hl:vals.length=args.length) (ha:∀ (i:Nat) (p:PV) (v:Value),args[i]? =some p→vals[i]? =some v→RP F κ st.heap.length w p v):
 Invokes E.P f vals.toArray w fun v w'=>∃ p st' F' κ',BZ E dr f g args st K=K p st'∧Next' N0 F κ w st tm p v F' κ' w' st':=by
 unfold BZ at h ⊢
 match args,vals,hl with
 | [],_,_=>exact absurd rfl h
 |p::rest,v::vals,hl=>
  have hp:=ha 0 p v rfl rfl
  have ha':∀ (i:Nat) (p:PV) (v:Value),rest[i]? =some p→vals[i]? =some v→RP F κ st.heap.length w p v:=fun i p v c d=>ha (i+1) p v (by simpa using c) (by simpa using d)
  cases hp with
  | @own l A n c hN hk=>exact G9 hg h h0 s ht (by simpa using hl) hN hk ha'
  |nil=>
   simp only[] at h ⊢
   cases hr:lu E f with
   |none=>simp[hr] at h
   |some ek=>
    obtain⟨e,k⟩:=ek
    simp only[hr] at h ⊢
    have s1:SI F (upd κ st.heap.length (.slice none 0 0)) w (st.heap++ [.row e k []]):=s.push _ _ (Nat.le_refl _) (fun _ _=>rfl) (fun _ h=>h) (fun _ h=> .inl h) s.fl
     ⟨[],by rw[upd_same]; exact World.ownsRow_nil w 0 e k,by simp,by simp,by simp,by simp⟩ (fun b hb=>by simp[blk,upd_same,Value.ownBlock] at hb)
    have rp:∀ {p:PV} {v:Value},RP F κ st.heap.length w p v→RP F (upd κ st.heap.length (.slice none 0 0)) (st.heap++ [aj.row e k []]).length w p v:=fun h=>
     h.mono (fun _ h=>h) (fun _ _=>rfl) fun l hl=>⟨kX κ _ (by have:=h.bound l hl; omega),by have:=h.bound l hl; simp; omega⟩
    have ev:Ev N0 F κ w st.heap F (upd κ st.heap.length (.slice none 0 0)) w (st.heap++ [aj.row e k []]):=
     ⟨rfl,rfl,rfl,Nat.le_refl _,fun _ _ _=>rfl,fun _ h=>h,fun _ h=> .inl h,fun b hb=>by
      rcases hb.push with h|h
      · exact .inl h
      · simp[blk,upd_same,Value.ownBlock] at h,by simp; omega,fun l o h1 h2 h3=>⟨kX κ _ (by omega),o,by rw[List.getElem?_append_left (by omega)]; exact h2,h3⟩⟩
    have hi:=G9 (st:=⟨st.tmps,st.heap++ [aj.row e k []]⟩) (N0:=N0) hg h (by simp; omega) s1 (fun i q v c d=>rp (ht i q v c d)) (by simpa using hl) (by simp) (upd_same _ _ _) (fun i p v c d=>rp (ha' i p v c d))
    refine hi.mono fun r w'=>?_
    rintro⟨p,st',F',κ',q1,q2⟩
    exact⟨p,st',F',κ',q1,q2.si,ev.trans q2.ev,q2.rp,q2.tl,q2.tr⟩
  |_=>exact absurd rfl h
theorem VF (hc:fG E rc) {dr:Bool} {f:FuncId} {args:List PV} {vals:List Value} {K:PV→St→ah β} (h:mD E rc dr f args st K≠ .stuck) (h0:N0≤st.heap.length) (s:SI F κ w st.heap) (ht:TR F κ w st tm)
 (hl:vals.length=args.length) (ha:∀ (i:Nat) (p:PV) (v:Value),args[i]? =some p→vals[i]? =some v→RP F κ st.heap.length w p v):
 Invokes E.P f vals.toArray w fun v w'=>∃ p st' F' κ',mD E rc dr f args st K=K p st'∧Next' N0 F κ w st tm p v F' κ' w' st':=by
 unfold mD at h ⊢
 cases hin:E.zM f with
 |some g=>
  simp only[hin] at h ⊢
  exact VN (hc.zM f g hin) h h0 s ht hl ha
 |none=>
 simp only[hin] at h ⊢
 cases hf':(bif E.mode f==3 then none else PV.lF st.heap args) with
 |some ts=>
  have hf:PV.lF st.heap args=some ts:=by
   cases hm3:E.mode f==3 with
   |true=>rw[hm3] at hf'; cases hf'
   |false=>rw[hm3] at hf'; exact hf'
  simp only[hf'] at h ⊢
  obtain⟨F1,s1,a1,a2,a3,a4,a5,a6⟩:=jS (PV.dU args) s
  obtain⟨t1,t2⟩:=rY s ha hf a1 a4
  have ht1:TR F1 κ w ⟨st.tmps,aI (PV.dU args) st.heap⟩ tm:=fun i q v c d=>by simpa[bU] using(ht i q v c d).freeze a1
  have h01:N0≤(aI (PV.dU args) st.heap).length:=by rw[bU]; exact h0
  have back:∀ {p:PV} {v:Value} {F':Nat→Prop} {κ':Nat→Value} {w':World} {st':St},Next' N0 F1 κ w ⟨st.tmps,aI (PV.dU args) st.heap⟩ tm p v F' κ' w' st'→Next' N0 F κ w st tm p v F' κ' w' st':=fun h=>h.frozen h0 a1 a2 a3 a5
  match hm:E.mode f with
  |0=>
   simp only[hm] at h ⊢
   refine(hc.pure f ts (vw h) F1 w vals (by omega) t2 s1.fl).mono fun v w'=>?_
   rintro⟨x,F',e1,ho,hg⟩
   rw[e1] at h ⊢
   simp only[ah.bind_ok] at h ⊢
   have hx:Rd F' w' x v:=by
    cases ho with
    |frozen _ h=>exact h
    |row h=>omega
    |au h=>omega
   have hfz:Next' N0 F κ w st tm (.t x) v F' κ w' ⟨st.tmps,aI (PV.dU args) st.heap⟩:=back (hg.next h01 s1 ht1 (.t hx))
   cases hr:(PV.dU args).isEmpty with
   |true=>
    rw[hr] at h
    have:PV.dU args= []:=by simpa using hr
    rw[this] at hfz
    exact⟨_,_,F',κ,rfl,hfz⟩
   |false=>
    rw[hr] at h
    simp only[cond_false] at h ⊢
    cases hre:aaW E f with
    |true=>
     rw[hre] at h
     simp only[cond_true] at h ⊢
     obtain⟨h1,h2⟩:=dQ h
     rw[h2]
     exact⟨_,_,F,κ,rfl,Next'.fresh h0 s ht hg.os hg.tape hg.output hg.size hg.old (fun _ h=>h) (fun _ h=> .inl h) (fun b hb=>Nat.lt_of_lt_of_le (s.fl b hb) hg.size) (.t (hx.plain h1))⟩
    |false=>
     rw[hre] at h
     simp only[cond_false] at h ⊢
     obtain⟨h1,h2⟩:=jq h
     rw[h2]
     exact⟨_,_,F',κ,rfl,hfz⟩
  |1=>
   simp only[hm] at h ⊢
   obtain⟨h1,h2⟩:=jq h
   rw[h2] at h ⊢
   obtain⟨⟨e,k⟩,h3,h4⟩:=aB h
   rw[h4] at h ⊢
   refine(hc.pure f ts (vw h) F1 w vals (by omega) t2 s1.fl).mono fun v w'=>?_
   rintro⟨x,F',e1,ho,hg⟩
   rw[e1] at h ⊢
   simp only[ah.bind_ok] at h ⊢
   cases ho with
   |frozen h=>omega
   |au h=>omega
   | @row e' k' xs v _ hr hrow hb=>
    rw[hr] at h3
    injection h3 with h3
    injection h3 with h3 h5
    subst h3
    subst h5
    refine⟨.own st.heap.length,⟨st.tmps,aI (PV.dU args) st.heap++ [.row e' k' xs]⟩,F',upd κ (aI (PV.dU args) st.heap).length v,by simp[qW],back ?_⟩
    refine Next'.push h01 s1 ht1 hg.os hg.tape hg.output hg.size hg.old hg.fm hg.fn hg.fl (hrow.ro (upd_same κ _ v)) (fun b hb'=>?_) ?_
    · simp only[blk,upd_same] at hb'; exact hb b hb'
    · obtain⟨A,c,h6,_⟩:=uz (hrow.ro (κ:=fun _=>v) (N:=0) (l:=0) rfl)
      change v=_ at h6
      subst h6
      have:=RP.own (F:=F') (κ:=upd κ (aI (PV.dU args) st.heap).length (.slice A xs.length c)) (N:=(aI (PV.dU args) st.heap).length+1) (w:=w') (l:=(aI (PV.dU args) st.heap).length) (by omega) (upd_same κ _ _)
      rw[bU] at this ⊢
      exact this
  |m+2=>
   simp only[hm] at h ⊢
   obtain⟨h1,h2⟩:=jq h
   rw[h2] at h ⊢
   obtain⟨⟨e,k⟩,h3,h4⟩:=aB h
   rw[h4] at h ⊢
   refine(hc.pure f ts (vw h) F1 w vals (by omega) t2 s1.fl).mono fun v w'=>?_
   rintro⟨x,F',e1,ho,hg⟩
   rw[e1] at h ⊢
   simp only[ah.bind_ok] at h ⊢
   cases ho with
   |frozen h=>omega
   |row h=>omega
   | @au e' k' xs ys v vs _ hr hrow hb hcnt hlen hys=>
    rw[hr] at h3
    injection h3 with h3
    injection h3 with h3 h5
    subst h3
    subst h5
    refine⟨.au (.own st.heap.length::ys.map .t),⟨st.tmps,aI (PV.dU args) st.heap++ [.row e' k' xs]⟩,F',upd κ (aI (PV.dU args) st.heap).length v,?_,back ?_⟩
    · rw[show sZ E f - 1=ys.length by omega]
      simp only[aG,List.getElem?_cons_zero,qW,if_true]
      rw[KI _ _ _ _ (by simp; omega)]
      rfl
    have ro:=hrow.ro (κ:=upd κ (aI (PV.dU args) st.heap).length v) (N:=(aI (PV.dU args) st.heap).length+1) (upd_same κ _ v)
    have hp:=Next'.push (p:= .junk) h01 s1 ht1 hg.os hg.tape hg.output hg.size hg.old hg.fm hg.fn hg.fl ro (fun b hb'=>by simp only[blk,upd_same] at hb'; exact hb b hb') .junk
    refine⟨hp.si,?_,?_,hp.tl,hp.tr⟩
    · have:=hp.ev
      exact this
    · refine .au (vs:=v::vs) (by simp[hlen]) fun i p u g1 g2=>?_
      cases i with
      |zero=>
       simp at g1 g2
       subst g1
       subst g2
       obtain⟨A,c,h6,_⟩:=uz (hrow.ro (κ:=fun _=>v) (N:=0) (l:=0) rfl)
       change v=_ at h6
       subst h6
       refine .own (by simp[bU]) ?_
       rw[←bU (PV.dU args) st.heap]
       exact upd_same κ _ _
      |succ i=>
       simp only[List.getElem?_cons_succ,List.getElem?_map,Option.map_eq_some_iff] at g1 g2
       obtain⟨y,g1,rfl⟩:=g1
       exact .t (hys i y u g1 g2)
 |none=>
  simp only[hf'] at h ⊢
  obtain⟨h1,h2⟩:=jq h
  rw[h2] at h ⊢
  refine(hc.go _ f args _ _ h F κ w vals hl (by rw[xP]; exact ha) (s.hide _)).mono fun v w'=>?_
  rintro⟨r,H',F',κ',e1,e2,e3,e4⟩
  have hn:=amu h0 s ht e2 e3 e4
  obtain⟨p,st2,κ2,f1,f2⟩:=Xn (K:=K) hn.ev.hl hn
  exact⟨p,st2,F',κ2,e1.trans f1,f2⟩
end
end
section
open Go.RowKit
def aj.lX (o:aj):Prop:=∀ (e:TypeId) (k:Nat) (xs:List T),o≠ .row e k xs
structure zO (F:Nat→Prop) (κ:Nat→Value) (w:World) (H:List aj) (F':Nat→Prop) (H':List aj):Prop where
 si:SI F' κ w H'
 fm:∀ b,F b→F' b
 fn:∀ b,F' b→F b∨Own κ H b
 on:∀ b,Own κ H' b→Own κ H b
 len:H'.length=H.length
 kp:∀ (l:Nat) (o:aj),H[l]? =some o→o.lX→∃ o',H'[l]? =some o'∧o'.lX
section
variable {F F1 F2:Nat→Prop} {κ:Nat→Value} {w:World} {H H1 H2:List aj}
theorem zO.refl (s:SI F κ w H):zO F κ w H F H:=⟨s,fun _ h=>h,fun _ h=> .inl h,fun _ h=>h,rfl,fun l o h h2=>⟨o,h,h2⟩⟩
theorem zO.trans (a:zO F κ w H F1 H1) (b:zO F1 κ w H1 F2 H2):zO F κ w H F2 H2 where
 si:=b.si
 fm:=fun x h=>b.fm x (a.fm x h)
 fn:=fun x h=>(b.fn x h).elim (a.fn x) (fun h=> .inr (a.on x h))
 on:=fun x h=>a.on x (b.on x h)
 len:=b.len.trans a.len
 kp:=fun l o h h2=>by
  obtain⟨o1,g1,g2⟩:=a.kp l o h h2
  exact b.kp l o1 g1 g2
theorem zO.rows (s:SI F κ w H) (ls:List Nat):∃ F',zO F κ w H F' (aI ls H)∧(∀ l∈ls,∀ (e:TypeId) (k:Nat) (xs:List T) (b:Nat),H[l]? =some (.row e k xs)→(κ l).ownBlock=some b→F' b)∧
 ∀ (l:Nat) (o:aj),H[l]? =some o→o.lX→(aI ls H)[l]? =some o:=by
 obtain⟨F',s',a1,a2,a3,a4,a5,a6⟩:=jS ls s
 exact⟨F',⟨s',a1,a2,a3,bU _ _,fun l o h h2=>⟨o,a5 l o h h2,h2⟩⟩,a4,a5⟩
theorem zO.next {β:Type} {st:St} {N0:Nat} {tm:Array Value} (f:zO F κ w st.heap F1 H1) (h0:N0≤st.heap.length) (ht:TR F κ w st tm) {p:PV} {v:Value} (hp:RP F1 κ st.heap.length w p v):Next' N0 F κ w st tm p v F1 κ w ⟨st.tmps,H1⟩:=
 ⟨f.si,⟨rfl,rfl,rfl,Nat.le_refl _,fun _ _ _=>rfl,f.fm,fun b h=>(f.fn b h).imp id .inl,fun b h=> .inl (f.on b h),by rw[f.len]; exact h0,fun l o _ h1 h2=>⟨rfl,f.kp l o h1 h2⟩⟩,by rw[f.len]; exact hp,rfl,
  fun i q v g1 g2=>by rw[f.len]; exact(ht i q v g1 g2).freeze f.fm⟩
theorem zO.box (s:SI F κ w H) {l:Nat} {e n:Nat} {p:PV} {x:T} (h:H[l]? =some (.box e n p)) (hx:p.o7 H=some x) (hn:x.cells.length=n) (h1:n=1→x.isAgg=false) (hrows:∀ r∈p.rows,∀ (e:TypeId) (k:Nat) (xs:List T),H[r]? ≠some (.row e k xs)):
 ∃ F',zO F κ w H F' (H.set l (.ng e n x))∧Rd F' w (.ref x) (κ l):=by
 have hl:l < H.length:=(List.getElem?_eq_some_iff.1 h).1
 obtain⟨b,vs,vv,r1,r2,r3,r4,r5,r6⟩:=s.ro l _ h
 subst r3
 have hblk:blk κ l (.box e n p)=some b:=by simp[blk,r1,iY]
 have hF1:∀ c,F c→F c∨c=b:=fun c hc=> .inl hc
 have hv:Rd (fun c=>F c∨c=b) w x vv:=kS s r6 hF1 hx (fun r hr e k xs c g _=>absurd g (hrows r hr e k xs))
 have hcells:∀ (j:Nat) (y:T),x.cells[j]? =some y→∃ c,vv.cells[j]? =some c∧Rd (fun c=>F c∨c=b) w y c:=by
  intro j y hy
  obtain⟨c1,c2⟩:=RP.cells (κ:=κ) (N:=0) (.t hv) r4 r5
  have hj:j < n:=by rw[←hn]; exact(List.getElem?_eq_some_iff.1 hy).1
  refine⟨vv.cells[j],Array.getElem?_eq_getElem (by omega),?_⟩
  have:=c2 j (.t y) _ (by simp[PV.cells,List.getElem?_range hj,T.cell,List.getD_eq_getElem?_getD,hy]) (Array.getElem?_eq_getElem (by omega))
  cases this with
  |t h=>exact h
 have href:Rd (fun c=>F c∨c=b) w (.ref x) (κ l):=by
  rw[r1]
  refine .ref (fun j=>vv.cells.getD j undef) (.inr rfl) (fun h=>h1 (by omega)) (fun j hj=>?_) (fun j hj=>?_) (fun j y hy=>?_)
  · show(vv.cells.getD j undef).oneCell'=true
    rw[Array.getD_eq_getD_getElem?,Array.getElem?_eq_getElem (show j < vv.cells.size by omega)]
    exact r5 _ (Array.getElem_mem _)
  · show w.cell? _=some (vv.cells.getD j undef)
    rw[Array.getD_eq_getD_getElem?,Array.getElem?_eq_getElem (show j < vv.cells.size by omega)]
    simp[World.cell?,r2,show j < vv.cells.size by omega]
  · obtain⟨c,g1,g2⟩:=hcells j y hy
    show Rd _ _ y (vv.cells.getD j undef)
    rw[Array.getD_eq_getD_getElem?,g1]
    exact g2
 refine⟨fun c=>F c∨c=b,⟨⟨fun i o hi=>?_,fun i o c hi hc=>?_,fun i j o o' c hi hj hc hc'=>?_,fun c hc=>?_⟩,hF1,?_,?_,by simp,fun i o hi hnr=>?_⟩,href⟩
 · rw[List.length_set]
   rcases eu hl hi with ⟨rfl,rfl⟩|⟨hne,ho⟩
   · exact⟨b,r1,href,hn⟩
   · exact(s.ro i o ho).mono hF1 (fun _ _=>rfl) (fun _ _=>rfl) rfl fun l' hl'=>⟨rfl,(s.ro i o ho).bound l' hl'⟩
 · rcases eu hl hi with ⟨rfl,rfl⟩|⟨hne,ho⟩
   · simp[blk] at hc
   · refine⟨(s.lt i o c ho hc).1,?_⟩
     rintro(hf|rfl)
     · exact(s.lt i o c ho hc).2 hf
     · exact hne (s.ne i l o _ c ho h hc hblk)
 · rcases eu hl hi with ⟨rfl,rfl⟩|⟨hne,ho⟩
   · simp[blk] at hc
   · rcases eu hl hj with ⟨rfl,rfl⟩|⟨hne',ho'⟩
     · simp[blk] at hc'
     · exact s.ne i j o o' c ho ho' hc hc'
 · rcases hc with hc|rfl
   · exact s.fl c hc
   · exact(s.lt l _ c h hblk).1
 · rintro c (hc|rfl)
   · exact .inl hc
   · exact .inr ⟨l,_,h,hblk⟩
 · rintro c ⟨i,o,hi,hc⟩
   rcases eu hl hi with ⟨rfl,rfl⟩|⟨hne,ho⟩
   · simp[blk] at hc
   · exact⟨i,o,ho,hc⟩
 · by_cases e0:i=l
   · subst e0
     exact⟨_,List.getElem?_set_self hl,fun _ _ _ h=>by cases h⟩
   · exact⟨o,by rw[List.getElem?_set_ne (fun h=>e0 h.symm)]; exact hi,hnr⟩
theorem O3 {H H':List aj} (h:∀ (l:Nat),(∀ (e:TypeId) (k:Nat) (xs:List T),H[l]? =some (.row e k xs)→H'[l]? =some (.row e k xs)∨H'[l]? =some (.jT e k xs))∧(∀ o,H[l]? =some o→o.lX→H'[l]? =some o)):
 (∀ (p:PV) (x:T),p.o7 H=some x→p.o7 H'=some x):=by
 have main:∀ n:Nat,(∀ (p:PV),SizeOf.sizeOf p < n→∀ (x:T),p.o7 H=some x→p.o7 H'=some x)∧(∀ (ps:List PV),SizeOf.sizeOf ps < n→∀ (xs:List T),PV.lF H ps=some xs→PV.lF H' ps=some xs):=by
  intro n
  induction n with
  |zero=>exact⟨fun p hp=>absurd hp (Nat.not_lt_zero _),fun p hp=>absurd hp (Nat.not_lt_zero _)⟩
  |succ n ih=>
   refine⟨fun p hp x hx=>?_,fun ps hp xs hx=>?_⟩
   · cases p with
     |agg cs=>
      simp only[PV.o7,Option.map_eq_some_iff] at hx ⊢
      obtain⟨ts,h1,h2⟩:=hx
      exact⟨ts,ih.2 cs (by simp at hp; omega) ts h1,h2⟩
     |au cs=>
      simp only[PV.o7,Option.map_eq_some_iff] at hx ⊢
      obtain⟨ts,h1,h2⟩:=hx
      exact⟨ts,ih.2 cs (by simp at hp; omega) ts h1,h2⟩
     |fn f fs cs=>
      simp only[PV.o7] at hx ⊢
      cases h1:PV.lF H fs with
      |none=>simp[h1] at hx
      |some a=>
       cases h2:PV.lF H cs with
       |none=>simp[h1,h2] at hx
       |some b=>
        rw[ih.2 fs (by simp at hp; omega) a h1,ih.2 cs (by simp at hp; omega) b h2]
        simpa[h1,h2] using hx
     |own l=>
      simp only[PV.o7] at hx ⊢
      cases ho:H[l]? with
      |none=>simp[ho] at hx
      |some o=>
       cases o with
       |row e k xs=>
        rw[ho] at hx
        rcases(h l).1 e k xs ho with h1|h1<;>rw[h1]<;>exact hx
       |jT e k xs=>rw[(h l).2 _ ho (fun _ _ _ h=>by cases h)]; rw[ho] at hx; exact hx
       |_=>simp[ho] at hx
     |view l k0 lo hi=>
      simp only[PV.o7] at hx ⊢
      cases ho:H[l]? with
      |none=>simp[ho] at hx
      |some o=>
       cases o with
       |row e k xs=>
        rw[ho] at hx
        rcases(h l).1 e k xs ho with h1|h1<;>rw[h1]<;>exact hx
       |jT e k xs=>rw[(h l).2 _ ho (fun _ _ _ h=>by cases h)]; rw[ho] at hx; exact hx
       |_=>simp[ho] at hx
     |ptr l o=>
      simp only[PV.o7] at hx ⊢
      cases ho:H[l]? with
      |none=>simp[ho] at hx
      |some q=>
       cases q with
       |ng e k v=>rw[(h l).2 _ ho (fun _ _ _ h=>by cases h)]; rw[ho] at hx; exact hx
       |_=>simp[ho] at hx
     |_=>exact hx
   · cases ps with
     |nil=>exact hx
     |cons p r=>
      simp only[PV.lF] at hx ⊢
      cases h1:p.o7 H with
      |none=>simp[h1] at hx
      |some a=>
       cases h2:PV.lF H r with
       |none=>simp[h1,h2] at hx
       |some b=>
        rw[ih.1 p (by simp at hp; omega) a h1,ih.2 r (by simp at hp; omega) b h2]
        simpa[h1,h2] using hx
 exact fun p=>(main (SizeOf.sizeOf p+1)).1 p (Nat.lt_succ_self _)
theorem NP (s:SI F κ w H) {p:PV} {v:Value} (h:RP F κ H.length w p v) {x:T} (hc:capture H p=some (x,H1)):∃ F',zO F κ w H F' H1∧Rd F' w x v:=by
 cases h with
 |t h=>simp[capture] at hc; obtain⟨rfl,rfl⟩:=hc; exact⟨F,zO.refl s,h⟩
 | @ptr l o b hN hk=>
  cases o with
  |succ o=>simp[capture] at hc
  |zero=>
   simp only[capture] at hc
   cases ho:H[l]? with
   |none=>simp[ho] at hc
   |some q=>
    cases q with
    |box e n q=>
     simp only[ho] at hc
     cases hq:q.o7 H with
     |none=>simp[hq] at hc
     |some y=>
      simp only[hq] at hc
      cases hg:(y.cells.length==n&&(!(n==1)|| !y.isAgg)) with
      |true=>
       rw[hg] at hc
       simp only[cond_true] at hc
       injection hc with hc
       injection hc with h1 h2
       subst h1
       subst h2
       simp only[Bool.and_eq_true,beq_iff_eq,Bool.or_eq_true,Bool.not_eq_true',Bool.not_eq_false'] at hg
       obtain⟨F1,f1,f2,f3⟩:=zO.rows s q.rows
       obtain⟨_,_,_,_,_,_,a5,a6⟩:=jS q.rows s
       have hob:(aI q.rows H)[l]? =some (.box e n q):=f3 l _ ho (fun _ _ _ h=>by cases h)
       have hfz:q.o7 (aI q.rows H)=some y:=O3 (H:=H) (fun l'=>⟨a6 l',a5 l'⟩) q y hq
       have hnr:∀ r∈q.rows,∀ (e:TypeId) (k:Nat) (xs:List T),(aI q.rows H)[r]? ≠some (.row e k xs):=by
        intro r hr e k xs hh
        have:∀ (ls:List Nat) (H:List aj),r∈ls→(aI ls H)[r]? ≠some (.row e k xs):=by
         intro ls
         induction ls with
         |nil=>intro H h; cases h
         |cons a ls ih=>
          intro H hm hh
          by_cases hin:r∈ls
          · exact ih _ hin hh
          · have hra:r=a:=(List.mem_cons.1 hm).resolve_right hin
            subst hra
            have e1:aI (r::ls) H=aI ls (match H[r]? with|some (aj.row e k xs)=>H.set r (aj.jT e k xs)|_=>H):=rfl
            rw[e1,oL ls _ hin] at hh
            cases hq:H[r]? with
            |none=>rw[hq] at hh; simp only[hq] at hh; cases hh
            |some o=>
             rw[hq] at hh
             cases o with
             |row e' k' xs'=>
              simp only at hh
              rw[List.getElem?_set_self (List.getElem?_eq_some_iff.1 hq).1] at hh
              cases hh
             |_=>simp only[hq] at hh; cases hh
        exact this _ _ hr hh
       obtain⟨F2,f4,f5⟩:=zO.box f1.si hob hfz hg.1 (fun h=>by rcases hg.2 with h2|h2<;>simp_all) hnr
       exact⟨F2,f1.trans f4,by rw[←hk]; exact f5⟩
      |false=>rw[hg] at hc; cases hc
    |ng e n y=>
     simp only[ho,Option.some.injEq,Prod.mk.injEq] at hc
     obtain⟨rfl,rfl⟩:=hc
     obtain⟨b',r1,r2,r3⟩:=s.ro l _ ho
     exact⟨F,zO.refl s,by rw[←hk]; exact r2⟩
    |_=>simp[ho] at hc
 |_=>simp[capture] at hc
theorem vW:∀ {ps:List PV} {F:Nat→Prop} {H H1:List aj} {vs:List Value} {xs:List T},SI F κ w H→vs.length=ps.length→(∀ (i:Nat) (p:PV) (v:Value),ps[i]? =some p→vs[i]? =some v→RP F κ H.length w p v)→captures H ps=some (xs,H1)→
 ∃ F',zO F κ w H F' H1∧xs.length=ps.length∧∀ (i:Nat) (x:T) (v:Value),xs[i]? =some x→vs[i]? =some v→Rd F' w x v
 | [],F,H,H1,vs,xs,s,hl,hp,hc=>by
  simp[captures] at hc
  obtain⟨rfl,rfl⟩:=hc
  exact⟨F,zO.refl s,rfl,by simp⟩
 |p::ps,F,H,H1,[],xs,s,hl,hp,hc=>by simp at hl
 |p::ps,F,H,H1,v::vs,xs,s,hl,hp,hc=>by
  simp only[captures] at hc
  cases h1:capture H p with
  |none=>simp[h1] at hc
  |some r=>
   obtain⟨x,H'⟩:=r
   simp only[h1] at hc
   cases h2:captures H' ps with
   |none=>simp[h2] at hc
   |some r2=>
    obtain⟨ys,H''⟩:=r2
    simp only[h2,Option.some.injEq,Prod.mk.injEq] at hc
    obtain⟨rfl,rfl⟩:=hc
    obtain⟨Fa,a1,a2⟩:=NP s (hp 0 p v rfl rfl) h1
    obtain⟨Fb,b1,b2,b3⟩:=vW (vs:=vs) a1.si (by simpa using hl) (fun i q u g1 g2=>by rw[a1.len]; exact(hp (i+1) q u (by simpa using g1) (by simpa using g2)).freeze a1.fm) h2
    refine⟨Fb,a1.trans b1,by simp[b2],fun i y u g1 g2=>?_⟩
    cases i with
    |zero=>simp at g1 g2; subst g1; subst g2; exact a2.mono b1.fm (fun _ _=>rfl)
    |succ i=>exact b3 i y u (by simpa using g1) (by simpa using g2)
end
end
section
open Go.RowKit
section
variable {β:Type} {E:Env} {st:St} {F:Nat→Prop} {κ:Nat→Value} {w:World} {N0:Nat} {tm:Array Value}
theorem Lu (h0:N0≤st.heap.length) (s:SI F κ w st.heap) (ht:TR F κ w st tm) {l e k a b:Nat} {xs ys:List T} (ho:st.heap[l]? =some (.row e k xs)) {v:Value} (hv:QV (κ l) v k a b)
 (hb:b≤xs.length) (ha:a+ys.length≤b) {news:List Value} (n1:news.length=ys.length*k) (n2:∀ u∈news,u.oneCell'=true) (n3:∀ x∈ys,x.cells.length=k∧(k=1→x.isAgg=false))
 (n6:∀ (i:Nat) (x:T) (j:Nat) (y:T) (u:Value),ys[i]? =some x→x.cells[j]? =some y→news[i*k+j]? =some u→Rd F w y u) (p:PV) (u:Value) (hp:RP F κ st.heap.length w p u):
 ∃ A c w',v= .slice A (b - a) c∧(A=none→ys= [])∧(∀ ad,A=some ad→(storeCells ad news).run E.P w= .ok () w')∧(A=none→w'=w)∧Next' N0 F κ w st tm p u F κ w' ⟨st.tmps,st.heap.set l (.row e k (fQ xs a ys))⟩:=by
 obtain⟨A,n,c,A',⟨v1,vb⟩,rfl,v3,v4,v5⟩:=hv
 obtain⟨cs,o1,_⟩:=s.ro l _ ho
 have same:ys= []→Next' N0 F κ w st tm p u F κ w ⟨st.tmps,st.heap.set l (.row e k (fQ xs a ys))⟩:=fun h=>by
  subst h
  rw[AO,set_self ho]
  exact Next'.same h0 s ht hp
 have hle:n≤c∧n=xs.length:=by
  rcases o1.2 with ⟨q1,q2⟩|⟨g,cap,cur,q1,_,_,q2,_⟩
  · rw[v1] at q1; injection q1 with q1 q3 q4; omega
  · rw[v1] at q1; injection q1 with q1 q3 q4; omega
 rcases v5 with ⟨rfl,rfl⟩|⟨g,o,rfl,rfl,v6⟩
 · have hys:ys= []:=by
    rcases o1.2 with ⟨q1,q2⟩|⟨g,cap,cur,q1,_⟩
    · exact List.eq_nil_of_length_eq_zero (by omega)
    · rw[v1] at q1; cases q1
   exact⟨none,c - a,w,rfl,fun _=>hys,fun ad h=>(by cases h),fun _=>rfl,same hys⟩
 · rcases Nat.eq_zero_or_pos ys.length with ey|ey
   · have hys:ys= []:=List.eq_nil_of_length_eq_zero ey
     have hn:news= []:=List.eq_nil_of_length_eq_zero (by rw[n1,ey]; simp)
     exact⟨_,c - a,w,rfl,fun _=>hys,fun ad h=>(by rw[hn]; rfl),fun h=>(by cases h),same hys⟩
   · obtain⟨w',g1,g2,g3,g4⟩:=LJ (P:=E.P) (N0:=N0) (a:=a) s h0 ho v1 (by omega) n1 n2 n3 n6
     refine⟨_,c - a,w',rfl,fun h=>(by cases h),fun ad h=>?_,fun h=>(by cases h),g2,g3,by simpa using g4 p u hp,rfl,fun i q u g5 g6=>?_⟩
     · injection h with h
       subst h
       rw[v6 (by omega)]
       exact g1
     · simpa using g4 q u (ht i q u g5 g6)
theorem ZX {z:Value} {k n:Nat} (hz:z.cells.size=k+1) (i:Nat) (hi:i < n*(k+1)):(Builtin.zeroCells z.cells n)[i]? =z.cells[i % (k+1)]? :=by
 unfold Builtin.zeroCells
 rw[Array.getElem?_map,Array.getElem?_range,hz]
 rw[if_pos (by simpa using hi)]
 have:i % (k+1) < z.cells.size:=by rw[hz]; exact Nat.mod_lt _ (by omega)
 simp only[Option.map_some]
 rw[getElem!_pos z.cells _ this,Array.getElem?_eq_getElem this]
theorem Q8 {t ty:TypeId} {p:PV} {K:St→ah β} {v:Value} (h:BI E st t p K≠ .stuck) (h0:N0≤st.heap.length) (s:SI F κ w st.heap) (ht:TR F κ w st tm) (hp:RP F κ st.heap.length w p v):
 ∃ st' w',BI E st t p K=K st'∧(Builtin.clear_ #[t] ty #[v]).run E.P w= .ok undef w'∧Next' N0 F κ w st tm dY undef F κ w' st':=by
 unfold BI at h ⊢
 cases he:AY E.P t with
 |none=>simp[he] at h
 |some e=>
  cases hs:kJ E.P e with
  |none=>simp[he,hs] at h
  |some k=>
   cases k with
   |zero=>simp[he,hs] at h
   |succ k=>
    cases hz:((E.P.info? e).bind (·.zero)).bind (l9 E.P e) with
    |none=>simp[he,hs,hz] at h
    |some z=>
     simp only[he,hs,hz] at h ⊢
     obtain⟨z',h1,e1⟩:=aB h
     rw[e1] at h ⊢
     obtain⟨h2,e2⟩:=dQ h
     rw[e2] at h ⊢
     clear e1 e2
     simp only[Bool.and_eq_true] at h2
     cases hr:qJ st.heap p with
     |none=>simp[hr] at h
     |some q=>
      obtain⟨l,k',a,b,full⟩:=q
      simp only[hr] at h ⊢
      obtain⟨e',kr,xs,A0,c,r1,r2,r3,r4,r5,r6,r7⟩:=xI hr s hp
      rw[r1] at h ⊢
      simp only[] at h ⊢
      obtain⟨g1,e3⟩:=bD h
      rw[e3] at h ⊢
      obtain⟨g2,e4⟩:=dQ h
      rw[e4]
      clear e3 e4
      simp only[Bool.and_eq_true,beq_iff_eq,decide_eq_true_eq] at g1 g2
      obtain⟨⟨rfl,rfl⟩,rfl⟩:=g1
      obtain⟨i,zv,i1,i2,i3⟩:=AA hz
      have hu:=jO he
      have hrz:RP F κ 0 w z zv:=lG i3
      have hfz:Rd F w z' zv:=by
       have:=kS (F:=F) (F':=F) (κ:=κ) (w:=w) (H:=[]) ⟨fun l o h=>by simp at h,fun l o b h=>by simp at h,fun l l' o o' b h=>by simp at h,s.fl⟩ hrz (fun _ h=>h) h1 (fun l _ e k xs b h=>by simp at h)
       exact this
      obtain⟨z1,z2,z3,z4,z5⟩:=rM hfz h2.2
      have hsz:(Builtin.zeroCells zv.cells (b - a)).toList.length=(List.replicate (b - a) z').length*(k+1):=by simp[Builtin.zeroCells,z3]
      have hget:∀ q u,(Builtin.zeroCells zv.cells (b - a)).toList[q]? =some u→zv.cells[q % (k+1)]? =some u:=fun q u hq=>by
       have hlt:q < (b - a)*(k+1):=by
        have:=(List.getElem?_eq_some_iff.1 hq).1
        rw[hsz] at this
        simpa using this
       rw[Array.getElem?_toList,ZX z3 q hlt] at hq
       exact hq
      obtain⟨A,cc,w',rfl,p1,p2,p3,p4⟩:=Lu (E:=E) (N0:=N0) (tm:=tm) (ys:=List.replicate (b - a) z') (news:=(Builtin.zeroCells zv.cells (b - a)).toList) h0 s ht r1 r4 r5 (by simp; omega) hsz
       (fun u hu=>by
        obtain⟨q,hq⟩:=List.getElem?_of_mem hu
        exact z4 u (Array.mem_of_getElem? (hget q u hq)))
       (fun x hx=>by rw[(List.mem_replicate.1 hx).2]; exact⟨z1,z2⟩)
       (fun i x j y u hx hy hu=>by
        have hx2:=(List.mem_replicate.1 (List.mem_of_getElem? hx)).2
        subst hx2
        have hj:j < k+1:=by rw[←z1]; exact(List.getElem?_eq_some_iff.1 hy).1
        have h6:=hget _ _ hu
        rw[Nat.mul_comm i,Nat.mul_add_mod,Nat.mod_eq_of_lt hj] at h6
        exact z5 j y u hy h6) dY undef kW
      refine⟨_,w',rfl,?_,p4⟩
      cases A with
      |none=>
       rw[p3 rfl]
       simp[Builtin.clear_,run_underlying hu]
       rfl
      |some ad=>
       have:=p2 ad rfl
       rcases Nat.eq_zero_or_pos (b - a) with e0|e0
       · have hw:w'=w:=by
          rw[e0] at this
          simp[Builtin.zeroCells,storeCells] at this
          exact this.symm
         rw[hw,e0]
         simp[Builtin.clear_,run_underlying hu]
         rfl
       · obtain⟨m,hm⟩:∃ m,b - a=m+1:=⟨b - a - 1,by omega⟩
         rw[hm] at this ⊢
         simp[Builtin.clear_,run_underlying hu,zeroValue,typeInfo,i1,i2,this]
         rfl
theorem VJ {t t' ty:TypeId} {p q:PV} {K:PV→St→ah β} {v u:Value} (h:zh E st t t' p q K≠ .stuck) (h0:N0≤st.heap.length) (s:SI F κ w st.heap) (ht:TR F κ w st tm) (hp:RP F κ st.heap.length w p v) (hq:RP F κ st.heap.length w q u):
 ∃ r x st' w',zh E st t t' p q K=K r st'∧(Builtin.copy_ #[t,t'] ty #[v,u]).run E.P w= .ok x w'∧Next' N0 F κ w st tm r x F κ w' st':=by
 unfold zh at h ⊢
 cases he:AY E.P t with
 |none=>simp[he] at h
 |some e=>
  cases hs:kJ E.P e with
  |none=>simp[he,hs] at h
  |some k=>
   cases k with
   |zero=>simp[he,hs] at h
   |succ k=>
    simp only[he,hs] at h ⊢
    obtain⟨g0,e1⟩:=bD h
    rw[e1] at h ⊢
    obtain rfl:t=t':=by simpa using g0
    obtain⟨ys,e2,hv⟩:=zi h s hq
    rw[e2] at h ⊢
    clear e1 e2
    cases hr:qJ st.heap p with
    |none=>simp[hr] at h
    |some q=>
     obtain⟨l,k',a,b,full⟩:=q
     simp only[hr] at h ⊢
     obtain⟨e',kr,xs,A0,c,r1,r2,r3,r4,r5,r6,r7⟩:=xI hr s hp
     rw[r1] at h ⊢
     simp only[] at h ⊢
     obtain⟨g1,e3⟩:=bD h
     rw[e3] at h ⊢
     obtain⟨g2,e4⟩:=dQ h
     rw[e4]
     clear e3 e4
     simp only[Bool.and_eq_true,beq_iff_eq,decide_eq_true_eq] at g1 g2
     obtain⟨⟨rfl,rfl⟩,rfl⟩:=g1
     obtain⟨A,cA,news,rfl,n1,n2,n3,n4,n5,n6⟩:=hv.news
     obtain⟨i,hi',hsz⟩:=pK hs
     have hu:=jO he
     have hlt:(ys.take (b - a)).length=min ys.length (b - a):=by simp[Nat.min_comm]
     have hnl:(news.take (min ys.length (b - a)*(k+1))).length=min ys.length (b - a)*(k+1):=by
      rw[List.length_take,n1]
      exact Nat.min_eq_left (Nat.mul_le_mul_right _ (Nat.min_le_left _ _))
     obtain⟨A',cc,w',rfl,p1,p2,p3,p4⟩:=Lu (E:=E) (N0:=N0) (tm:=tm) (ys:=ys.take (b - a)) (news:=news.take (min ys.length (b - a)*(k+1))) h0 s ht r1 r4 r5 (by rw[hlt]; omega) (by rw[hnl,hlt])
      (fun u hu=>n2 u (List.mem_of_mem_take hu)) (fun x hx=>n3 x (List.mem_of_mem_take hx))
      (fun i x j y u hx hy hu=>by
       rw[List.getElem?_take] at hx hu
       split at hx
       · split at hu
         · exact n6 i x j y u hx hy hu
         · cases hu
       · cases hx) (.t (.int .i64 (min ys.length (b - a):Nat))) (goInt ((min ys.length (b - a):Nat):Int)) (.t (.int (yY (by omega))))
     refine⟨_,_,_,w',rfl,?_,p4⟩
     have hfc:(Builtin.firstCells (k+1) (min ys.length (b - a)) (.slice A ys.length cA)).run E.P w= .ok (news.take (min ys.length (b - a)*(k+1))).toArray w:=by
      rcases n5 with ⟨rfl,rfl⟩|⟨ad,rfl,hA⟩
      · have:news= []:=List.eq_nil_of_length_eq_zero (by simpa using n1)
        subst this
        simp[Builtin.firstCells]
      · exact run_firstCells_some w (k+1) _ ad ys.length cA _ hnl (fun j u hj=>by
         rw[List.getElem?_take] at hj
         split at hj
         · exact hA j u hj
         · cases hj)
     cases A' with
     |none=>
      have hy:ys.take (b - a)= []:=p1 rfl
      rw[p3 rfl]
      have hm:min ys.length (b - a)=0:=by rw[←hlt,hy]; rfl
      rw[hm] at hfc ⊢
      have hm':Nat.min ys.length (b - a)=0:=hm
      simp[Builtin.copy_,run_underlying hu,Builtin.lenOf,sizeOf,typeInfo,hi',hsz,hm',hfc]
     |some ad=>
      have:=p2 ad rfl
      have hm':Nat.min ys.length (b - a)=min ys.length (b - a):=rfl
      simp[Builtin.copy_,run_underlying hu,Builtin.lenOf,sizeOf,typeInfo,hi',hsz,hm',hfc,this]
end
section
variable {β:Type} {E:Env} {F:Nat→Prop} {κ:Nat→Value} {N:Nat} {w:World}
theorem Hr {t:TypeId} {s n o:Nat} {a:Bool} {p:PV} {K:PV→ah β} {v:Value} (h:EY s a n o p K≠ .stuck) (hs:kJ E.P t=some s) (ha:lM E.P t=some a) (hp:RP F κ N w p v):
 ∃ q u cs,v= .agg cs∧EY s a n o p K=K q∧(part t cs o).run E.P w= .ok u w∧RP F κ N w q u:=by
 unfold EY at h ⊢
 obtain⟨g1,e1⟩:=jq h
 rw[e1] at h ⊢
 obtain⟨g2,e2⟩:=dQ h
 rw[e2]
 simp only[Bool.and_eq_true,decide_eq_true_eq] at g2
 obtain⟨⟨g3,g4⟩,g5⟩:=g2
 obtain⟨u1,u2⟩:=qc hp g3
 have hc:=hp.cell_of u1 u2 g5 (guard_of g1)
 cases v with
 |agg cs=>
  refine⟨_,_,cs,rfl,rfl,?_,hc⟩
  simp only[Value.cells] at u1
  cases a with
  |true=>
   have hex:cs.extract o (o+s)=((cs.toList.drop o).take s).toArray:=by apply Array.ext'; simp[List.drop_take]
   simp[part,vU ha,jM hs,Value.cells,hex]
  |false=>
   have hs1:s=1:=by rcases guard_of g1 with ⟨h,_⟩|⟨_,h⟩; cases h; exact h
   have hlt:o < cs.size:=by omega
   simp[part,vU ha,Value.cells,Array.getElem?_eq_getElem hlt]
 |_=>simp[Value.cells] at u1; omega
theorem YL {t:TypeId} {p i:PV} {K:PV→ah β} {v vi:Value} (h:TD E t p i K≠ .stuck) (hp:RP F κ N w p v) (hi:RP F κ N w i vi):
 ∃ q u,TD E t p i K=K q∧(Instr.index t v vi).run E.P w= .ok u w∧RP F κ N w q u:=by
 unfold TD at h ⊢
 cases hu:E.P.underlying t with
 |none=>simp[hu] at h
 |some d=>
  cases d with
  |array n e=>
   cases hs:kJ E.P e with
   |none=>simp[hu,hs] at h
   |some s=>
    cases ha:lM E.P e with
    |none=>simp[hu,hs,ha] at h
    |some a=>
     cases hi with
     | @t iv vi hi=>
      simp only[hu,hs,ha] at h ⊢
      obtain⟨ki,j,rfl,e1⟩:=D7 h
      rw[e1] at h ⊢
      obtain⟨g1,e2⟩:=dQ h
      rw[e2] at h ⊢
      cases hi
      simp only[Bool.and_eq_true,decide_eq_true_eq] at g1
      obtain⟨q,u,cs,rfl,p1,p2,p3⟩:=Hr h hs ha hp
      refine⟨q,u,p1,?_,p3⟩
      simp[Instr.index,asIntOf,run_underlying hu,g1,jM hs,p2]
     |_=>simp[hu,hs,ha] at h
  |string=>
   simp only[hu] at h ⊢
   cases hp with
   | @t pv v hp=>
    cases hi with
    | @t iv vi hi=>
     simp only[] at h ⊢
     obtain⟨s,rfl,e0⟩:=Kq h
     rw[e0] at h ⊢
     obtain⟨ki,j,rfl,e1⟩:=D7 h
     rw[e1] at h ⊢
     obtain⟨g1,e2⟩:=dQ h
     rw[e2] at h ⊢
     obtain⟨b,g2,e3⟩:=aB h
     rw[e3] at h ⊢
     cases hi
     cases hp
     simp only[decide_eq_true_eq] at g1
     refine⟨_,.int .u8 b.toNat,rfl,?_,.t (.int ?_)⟩
     · simp[Instr.index,asIntOf,run_underlying hu,g1,g2]
     · have h0:=b.toNat_lt
       have h1:IntKind.u8.min=0:=rfl
       have h2:IntKind.u8.max=255:=rfl
       unfold kindOk
       rw[h1,h2,decide_eq_true (show(0:Int)≤(b.toNat:Int) by omega),decide_eq_true (show(b.toNat:Int)≤255 by omega)]
       rfl
    |_=>simp at h
   |_=>simp at h
  |_=>simp[hu] at h
theorem YU {t:TypeId} {f:Nat} {p:PV} {K:PV→ah β} {v:Value} (h:TF E t f p K≠ .stuck) (hp:RP F κ N w p v):
 ∃ q u,TF E t f p K=K q∧(Instr.field t v f).run E.P w= .ok u w∧RP F κ N w q u:=by
 unfold TF at h ⊢
 cases hf:yh E.P t f with
 |none=>simp[hf] at h
 |some q=>
  obtain⟨off,ft⟩:=q
  cases hs:kJ E.P ft with
  |none=>simp[hf,hs] at h
  |some s=>
   cases ha:lM E.P ft with
   |none=>simp[hf,hs,ha] at h
   |some a=>
    cases hn:kJ E.P t with
    |none=>simp[hf,hs,ha,hn] at h
    |some n=>
     simp only[hf,hs,ha,hn] at h ⊢
     obtain⟨q,u,cs,rfl,p1,p2,p3⟩:=Hr h hs ha hp
     refine⟨q,u,p1,?_,p3⟩
     unfold yh at hf
     cases hu:E.P.underlying t with
     |none=>simp[hu] at hf
     |some d=>
      cases d with
      |struct fs=>
       simp only[hu,Option.map_eq_some_iff,Prod.mk.injEq] at hf
       obtain⟨fd,h1,rfl,rfl⟩:=hf
       simp[Instr.field,run_underlying hu,h1,asAgg,p2]
      |_=>simp[hu] at hf
end
end
end Go.aT
