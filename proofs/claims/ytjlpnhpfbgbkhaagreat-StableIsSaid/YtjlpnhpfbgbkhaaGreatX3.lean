/- The texts of a proof, one behind the other: an interpreter and its soundness, what the functions of the program answer, and plain laws on that. -/
import Derived.Test.YtjlpnhpfbgbkhaaGreatX1
import Derived.Test.YtjlpnhpfbgbkhaaGreatK9
import Derived.Test.YtjlpnhpfbgbkhaaGreatX2
set_option linter.unusedVariables false
set_option linter.unusedSimpArgs false
set_option linter.unnecessarySimpa false
set_option linter.unusedSectionVars false
set_option maxRecDepth 100000
namespace Go.aT
section
open Go.RowKit Go.Proofs
variable [Lv]
def gW (c:Cf) (k:Int) (x:Px) (p:Pa) (b:Bool):Pin:=⟨170,[.ptr 0 0,.ptr 1 0,.ptr 2 0,.ptr 3 0],G7 c k x p (T.agg [i64 0,i64 0,i64 0,i64 0,i64 0,i64 0]) 0,.t (.bool b),G7 c k x p (T.agg [i64 0,i64 0,i64 0,i64 0,i64 0,i64 0]) 0⟩
def jd (c:Cf) (k:Int) (x:Px) (p:Pa) (b:Bool):Pin:=⟨171,[.ptr 3 0,.ptr 0 0,.ptr 1 0],G7 c k x p (T.agg [i64 0,i64 0,i64 0,i64 0,i64 0,i64 0]) 0,.t (.bool b),G7 c k x p (T.agg [i64 0,i64 0,i64 0,i64 0,i64 0,i64 0]) 0⟩
def kF (c:Cf) (k:Int) (x:Px) (p:Pa) (b:Bool):Pin:=⟨172,[.ptr 3 0,.ptr 0 0],G7 c k x p (T.agg [i64 0,i64 0,i64 0,i64 0,i64 0,i64 0]) 0,.t (.bool b),G7 c k x p (T.agg [i64 0,i64 0,i64 0,i64 0,i64 0,i64 0]) 0⟩
def nS (c:Cf) (k:Int) (x:Px) (p:Pa) (b:Bool) (o:Int):Pin:=⟨174,[.ptr 0 0,.ptr 1 0,.ptr 3 0,.ptr 6 0],G7 c k x p (T.agg [i64 0,i64 0,i64 0,i64 0,i64 0,i64 0]) 0,.t (.bool b),G7 c k x p (T.agg [i64 0,i64 0,i64 0,i64 0,i64 0,i64 0]) o⟩
def wu (c:Cf) (k:Int) (x:Px) (p:Pa) (b:Bool) (o:Int) (r:T):Pin:=⟨176,[.ptr 0 0,.ptr 1 0,.ptr 2 0,.ptr 3 0,.ptr 5 0],G7 c k x p (T.agg [i64 0,i64 0,i64 0,i64 0,i64 0,i64 0]) o,.t (.bool b),G7 c k x p r o⟩
def zx (c:Cf) (k:Int) (x:Px) (p:Pa) (b:Bool) (o:Int) (r:T):Pin:=⟨111,[.own 7],aqN c k x p (T.agg [i64 0,i64 0,i64 0,i64 0,i64 0,i64 0]) 0,.t (.bool b),G7 c k x p r o⟩
def rQ (c:Cf) (k:Int) (x:Px) (p:Pa) (r:T) (o:Int):St:=⟨slots 15 [(5,.own 7),(6,.t (i64 5)),(7,.t (i64 0))],[.box 56 6 (.t c.t),.box 3 1 (.t (i64 k)),.box 25 2 (.t x.t),.box 42 4 (.t p.t),.box 44 6 (.agg [.t (i64 0),.t (i64 0),.own 8,.t (i64 0),.t (i64 0),.t (i64 0)]),.box 123 6 (.t r),.box 3 1 (.t (i64 o)),.vec 26 1 5 G8,.row 3 1 []]⟩
def MZ (c:Cf) (k:Int) (x:Px) (p:Pa) (r:T) (o:Int):St:=⟨slots 15 [(5,.own 7),(6,.t (i64 5)),(7,.t (i64 1))],[.box 56 6 (.t c.t),.box 3 1 (.t (i64 k)),.box 25 2 (.t x.t),.box 42 4 (.t p.t),.box 44 6 (.agg [.t (i64 0),.t (i64 0),.own 8,.t (i64 0),.t (i64 0),.t (i64 0)]),.box 123 6 (.t r),.box 3 1 (.t (i64 o)),.vec 26 1 5 G8,.row 3 1 []]⟩
def TQ (c:Cf) (k:Int) (x:Px) (p:Pa) (r:T) (o:Int):St:=⟨slots 15 [(5,.own 7),(6,.t (i64 5)),(7,.t (i64 2))],[.box 56 6 (.t c.t),.box 3 1 (.t (i64 k)),.box 25 2 (.t x.t),.box 42 4 (.t p.t),.box 44 6 (.agg [.t (i64 0),.t (i64 0),.own 8,.t (i64 0),.t (i64 0),.t (i64 0)]),.box 123 6 (.t r),.box 3 1 (.t (i64 o)),.vec 26 1 5 G8,.row 3 1 []]⟩
def acv (c:Cf) (k:Int) (x:Px) (p:Pa) (r:T) (o:Int):St:=⟨slots 15 [(5,.own 7),(6,.t (i64 5)),(7,.t (i64 3))],[.box 56 6 (.t c.t),.box 3 1 (.t (i64 k)),.box 25 2 (.t x.t),.box 42 4 (.t p.t),.box 44 6 (.agg [.t (i64 0),.t (i64 0),.own 8,.t (i64 0),.t (i64 0),.t (i64 0)]),.box 123 6 (.t r),.box 3 1 (.t (i64 o)),.vec 26 1 5 G8,.row 3 1 []]⟩
def ak0 (c:Cf) (k:Int) (x:Px) (p:Pa) (r:T) (o:Int):St:=⟨slots 15 [(5,.own 7),(6,.t (i64 5)),(7,.t (i64 4))],[.box 56 6 (.t c.t),.box 3 1 (.t (i64 k)),.box 25 2 (.t x.t),.box 42 4 (.t p.t),.box 44 6 (.agg [.t (i64 0),.t (i64 0),.own 8,.t (i64 0),.t (i64 0),.t (i64 0)]),.box 123 6 (.t r),.box 3 1 (.t (i64 o)),.vec 26 1 5 G8,.row 3 1 []]⟩
def aol (c:Cf) (k:Int) (x:Px) (p:Pa) (r:T) (o:Int):St:=⟨slots 15 [(5,.own 7),(6,.t (i64 5)),(7,.t (i64 5))],[.box 56 6 (.t c.t),.box 3 1 (.t (i64 k)),.box 25 2 (.t x.t),.box 42 4 (.t p.t),.box 44 6 (.agg [.t (i64 0),.t (i64 0),.own 8,.t (i64 0),.t (i64 0),.t (i64 0)]),.box 123 6 (.t r),.box 3 1 (.t (i64 o)),.vec 26 1 5 G8,.row 3 1 []]⟩
def jA (c:Cf) (k:Int) (x:Px) (p:Pa):List aj:=[aj.box 56 6 (PV.t c.t),aj.box 3 1 (PV.t (i64 k)),aj.box 25 2 (PV.t x.t),aj.box 42 4 (PV.t p.t),aj.box 44 6 (PV.agg [PV.t (i64 0),PV.t (i64 0),PV.own 8,PV.t (i64 0),PV.t (i64 0),PV.t (i64 0)]),aj.box 123 6 (PV.t (T.agg [i64 0,i64 0,i64 0,i64 0,i64 0,i64 0])),aj.box 3 1 (PV.t (i64 0)),aj.vec 26 1 5 [PV.fn 170 [] [PV.ptr 0 0,PV.ptr 1 0,PV.ptr 2 0,PV.ptr 3 0],PV.fn 171 [] [PV.ptr 3 0,PV.ptr 0 0,PV.ptr 1 0],PV.fn 172 [] [PV.ptr 3 0,PV.ptr 0 0],PV.fn 174 [] [PV.ptr 0 0,PV.ptr 1 0,PV.ptr 3 0,PV.ptr 6 0],PV.fn 176 [] [PV.ptr 0 0,PV.ptr 1 0,PV.ptr 2 0,PV.ptr 3 0,PV.ptr 5 0]],aj.row 3 1 []]
def abB (c:Cf) (k:Int) (x:Px) (p:Pa) (o:Int):List aj:=[aj.box 56 6 (PV.t c.t),aj.box 3 1 (PV.t (i64 k)),aj.box 25 2 (PV.t x.t),aj.box 42 4 (PV.t p.t),aj.box 44 6 (PV.agg [PV.t (i64 0),PV.t (i64 0),PV.own 8,PV.t (i64 0),PV.t (i64 0),PV.t (i64 0)]),aj.box 123 6 (PV.t (T.agg [i64 0,i64 0,i64 0,i64 0,i64 0,i64 0])),aj.box 3 1 (PV.t (i64 o)),aj.vec 26 1 5 [PV.fn 170 [] [PV.ptr 0 0,PV.ptr 1 0,PV.ptr 2 0,PV.ptr 3 0],PV.fn 171 [] [PV.ptr 3 0,PV.ptr 0 0,PV.ptr 1 0],PV.fn 172 [] [PV.ptr 3 0,PV.ptr 0 0],PV.fn 174 [] [PV.ptr 0 0,PV.ptr 1 0,PV.ptr 3 0,PV.ptr 6 0],PV.fn 176 [] [PV.ptr 0 0,PV.ptr 1 0,PV.ptr 2 0,PV.ptr 3 0,PV.ptr 5 0]],aj.row 3 1 []]
def akP (c:Cf) (k:Int) (x:Px) (p:Pa) (o:Int) (r:T):List aj:=[aj.box 56 6 (PV.t c.t),aj.box 3 1 (PV.t (i64 k)),aj.box 25 2 (PV.t x.t),aj.box 42 4 (PV.t p.t),aj.box 44 6 (PV.agg [PV.t (i64 0),PV.t (i64 0),PV.own 8,PV.t (i64 0),PV.t (i64 0),PV.t (i64 0)]),aj.box 123 6 (PV.t r),aj.box 3 1 (PV.t (i64 o)),aj.vec 26 1 5 [PV.fn 170 [] [PV.ptr 0 0,PV.ptr 1 0,PV.ptr 2 0,PV.ptr 3 0],PV.fn 171 [] [PV.ptr 3 0,PV.ptr 0 0,PV.ptr 1 0],PV.fn 172 [] [PV.ptr 3 0,PV.ptr 0 0],PV.fn 174 [] [PV.ptr 0 0,PV.ptr 1 0,PV.ptr 3 0,PV.ptr 6 0],PV.fn 176 [] [PV.ptr 0 0,PV.ptr 1 0,PV.ptr 2 0,PV.ptr 3 0,PV.ptr 5 0]],aj.row 3 1 []]
theorem aph (N:Nat) (c:Cf) (k:Int) (x:Px) (p:Pa) (b:Bool) {β:Type} (K:PV→List aj→ah β):fU env (bI env N [gW c k x p b]) N 111 [.own 7] [.box 56 6 (.t c.t),.box 3 1 (.t (i64 k)),.box 25 2 (.t x.t),.box 42 4 (.t p.t),.box 44 6 (.agg [.t (i64 0),.t (i64 0),.nil 3 1,.t (i64 0),.t (i64 0),.t (i64 0)]),.box 123 6 (.t (.agg [i64 0,i64 0,i64 0,i64 0,i64 0,i64 0])),.box 3 1 (.t (i64 0)),.vec 26 1 5 G8] K=um env (bI env N [gW c k x p b]) N 111 8 2 K {tmps:=slots 15 [(5,.own 7),(6,.t (i64 5)),(7,.t (i64 0))],heap:=(jA c k x p)}:=by kernel_rfl
theorem af8 (N:Nat) (c:Cf) (k:Int) (x:Px) (p:Pa) (b:Bool):cu env (bI env N [gW c k x p b]) N 111 8 2 (rQ c k x p (T.agg [i64 0,i64 0,i64 0,i64 0,i64 0,i64 0]) 0)=iU ([PV.ptr 0 0,.ptr 1 0,.ptr 2 0,.ptr 3 0]= [PV.ptr 0 0,.ptr 1 0,.ptr 2 0,.ptr 3 0]∧(jA c k x p)=(jA c k x p)) (bif !b then ah.ok (Ex.ret,{tmps:=slots 15 [(2,.t (.bool false))],heap:=(jA c k x p)}) else ah.ok (Ex.norm,{tmps:=slots 15 [(5,.own 7),(6,.t (i64 5)),(7,.t (i64 1))],heap:=(jA c k x p)})):=by kernel_rfl
theorem Ry (N:Nat) (c:Cf) (k:Int) (x:Px) (p:Pa) (b:Bool) (H:List aj) {β:Type} (K:PV→List aj→ah β):qX env (bI env N [gW c k x p b]) N 111 8 2 K (.ret) (⟨slots 15 [(2,.t (.bool false))],H⟩)=K (PV.t (.bool false)) H:=by kernel_rfl
theorem aji (N:Nat) (c:Cf) (k:Int) (x:Px) (p:Pa) (b:Bool) {β:Type} (K:PV→List aj→ah β):fU env (bI env N [gW c k x p true,jd c k x p b]) N 111 [.own 7] [.box 56 6 (.t c.t),.box 3 1 (.t (i64 k)),.box 25 2 (.t x.t),.box 42 4 (.t p.t),.box 44 6 (.agg [.t (i64 0),.t (i64 0),.nil 3 1,.t (i64 0),.t (i64 0),.t (i64 0)]),.box 123 6 (.t (.agg [i64 0,i64 0,i64 0,i64 0,i64 0,i64 0])),.box 3 1 (.t (i64 0)),.vec 26 1 5 G8] K=um env (bI env N [gW c k x p true,jd c k x p b]) N 111 8 2 K {tmps:=slots 15 [(5,.own 7),(6,.t (i64 5)),(7,.t (i64 0))],heap:=(jA c k x p)}:=by kernel_rfl
theorem Zc (N:Nat) (c:Cf) (k:Int) (x:Px) (p:Pa) (b:Bool):cu env (bI env N [gW c k x p true,jd c k x p b]) N 111 8 2 (rQ c k x p (T.agg [i64 0,i64 0,i64 0,i64 0,i64 0,i64 0]) 0)=iU ([PV.ptr 0 0,.ptr 1 0,.ptr 2 0,.ptr 3 0]= [PV.ptr 0 0,.ptr 1 0,.ptr 2 0,.ptr 3 0]∧(jA c k x p)=(jA c k x p)) (ah.ok (Ex.norm,{tmps:=slots 15 [(5,.own 7),(6,.t (i64 5)),(7,.t (i64 1))],heap:=(jA c k x p)})):=by kernel_rfl
theorem Zd (N:Nat) (c:Cf) (k:Int) (x:Px) (p:Pa) (b:Bool):cu env (bI env N [gW c k x p true,jd c k x p b]) N 111 8 2 (MZ c k x p (T.agg [i64 0,i64 0,i64 0,i64 0,i64 0,i64 0]) 0)=iU ([PV.ptr 3 0,.ptr 0 0,.ptr 1 0]= [PV.ptr 3 0,.ptr 0 0,.ptr 1 0]∧(jA c k x p)=(jA c k x p)) (bif !b then ah.ok (Ex.ret,{tmps:=slots 15 [(2,.t (.bool false))],heap:=(jA c k x p)}) else ah.ok (Ex.norm,{tmps:=slots 15 [(5,.own 7),(6,.t (i64 5)),(7,.t (i64 2))],heap:=(jA c k x p)})):=by kernel_rfl
theorem MR (N:Nat) (c:Cf) (k:Int) (x:Px) (p:Pa) (b:Bool) (H:List aj) {β:Type} (K:PV→List aj→ah β):qX env (bI env N [gW c k x p true,jd c k x p b]) N 111 8 2 K (.ret) (⟨slots 15 [(2,.t (.bool false))],H⟩)=K (PV.t (.bool false)) H:=by kernel_rfl
theorem ajj (N:Nat) (c:Cf) (k:Int) (x:Px) (p:Pa) (b:Bool) {β:Type} (K:PV→List aj→ah β):fU env (bI env N [gW c k x p true,jd c k x p true,kF c k x p b]) N 111 [.own 7] [.box 56 6 (.t c.t),.box 3 1 (.t (i64 k)),.box 25 2 (.t x.t),.box 42 4 (.t p.t),.box 44 6 (.agg [.t (i64 0),.t (i64 0),.nil 3 1,.t (i64 0),.t (i64 0),.t (i64 0)]),.box 123 6 (.t (.agg [i64 0,i64 0,i64 0,i64 0,i64 0,i64 0])),.box 3 1 (.t (i64 0)),.vec 26 1 5 G8] K=um env (bI env N [gW c k x p true,jd c k x p true,kF c k x p b]) N 111 8 2 K {tmps:=slots 15 [(5,.own 7),(6,.t (i64 5)),(7,.t (i64 0))],heap:=(jA c k x p)}:=by kernel_rfl
theorem Ze (N:Nat) (c:Cf) (k:Int) (x:Px) (p:Pa) (b:Bool):cu env (bI env N [gW c k x p true,jd c k x p true,kF c k x p b]) N 111 8 2 (rQ c k x p (T.agg [i64 0,i64 0,i64 0,i64 0,i64 0,i64 0]) 0)=iU ([PV.ptr 0 0,.ptr 1 0,.ptr 2 0,.ptr 3 0]= [PV.ptr 0 0,.ptr 1 0,.ptr 2 0,.ptr 3 0]∧(jA c k x p)=(jA c k x p)) (ah.ok (Ex.norm,{tmps:=slots 15 [(5,.own 7),(6,.t (i64 5)),(7,.t (i64 1))],heap:=(jA c k x p)})):=by kernel_rfl
theorem Zf (N:Nat) (c:Cf) (k:Int) (x:Px) (p:Pa) (b:Bool):cu env (bI env N [gW c k x p true,jd c k x p true,kF c k x p b]) N 111 8 2 (MZ c k x p (T.agg [i64 0,i64 0,i64 0,i64 0,i64 0,i64 0]) 0)=iU ([PV.ptr 3 0,.ptr 0 0,.ptr 1 0]= [PV.ptr 3 0,.ptr 0 0,.ptr 1 0]∧(jA c k x p)=(jA c k x p)) (ah.ok (Ex.norm,{tmps:=slots 15 [(5,.own 7),(6,.t (i64 5)),(7,.t (i64 2))],heap:=(jA c k x p)})):=by kernel_rfl
theorem Zg (N:Nat) (c:Cf) (k:Int) (x:Px) (p:Pa) (b:Bool):cu env (bI env N [gW c k x p true,jd c k x p true,kF c k x p b]) N 111 8 2 (TQ c k x p (T.agg [i64 0,i64 0,i64 0,i64 0,i64 0,i64 0]) 0)=iU ([PV.ptr 3 0,.ptr 0 0]= [PV.ptr 3 0,.ptr 0 0]∧(jA c k x p)=(jA c k x p)) (bif !b then ah.ok (Ex.ret,{tmps:=slots 15 [(2,.t (.bool false))],heap:=(jA c k x p)}) else ah.ok (Ex.norm,{tmps:=slots 15 [(5,.own 7),(6,.t (i64 5)),(7,.t (i64 3))],heap:=(jA c k x p)})):=by kernel_rfl
theorem MS (N:Nat) (c:Cf) (k:Int) (x:Px) (p:Pa) (b:Bool) (H:List aj) {β:Type} (K:PV→List aj→ah β):qX env (bI env N [gW c k x p true,jd c k x p true,kF c k x p b]) N 111 8 2 K (.ret) (⟨slots 15 [(2,.t (.bool false))],H⟩)=K (PV.t (.bool false)) H:=by kernel_rfl
theorem ajk (N:Nat) (c:Cf) (k:Int) (x:Px) (p:Pa) (b:Bool) (o:Int) {β:Type} (K:PV→List aj→ah β):fU env (bI env N [gW c k x p true,jd c k x p true,kF c k x p true,nS c k x p b o]) N 111 [.own 7] [.box 56 6 (.t c.t),.box 3 1 (.t (i64 k)),.box 25 2 (.t x.t),.box 42 4 (.t p.t),.box 44 6 (.agg [.t (i64 0),.t (i64 0),.nil 3 1,.t (i64 0),.t (i64 0),.t (i64 0)]),.box 123 6 (.t (.agg [i64 0,i64 0,i64 0,i64 0,i64 0,i64 0])),.box 3 1 (.t (i64 0)),.vec 26 1 5 G8] K=um env (bI env N [gW c k x p true,jd c k x p true,kF c k x p true,nS c k x p b o]) N 111 8 2 K {tmps:=slots 15 [(5,.own 7),(6,.t (i64 5)),(7,.t (i64 0))],heap:=(jA c k x p)}:=by kernel_rfl
theorem Zh (N:Nat) (c:Cf) (k:Int) (x:Px) (p:Pa) (b:Bool) (o:Int):cu env (bI env N [gW c k x p true,jd c k x p true,kF c k x p true,nS c k x p b o]) N 111 8 2 (rQ c k x p (T.agg [i64 0,i64 0,i64 0,i64 0,i64 0,i64 0]) 0)=iU ([PV.ptr 0 0,.ptr 1 0,.ptr 2 0,.ptr 3 0]= [PV.ptr 0 0,.ptr 1 0,.ptr 2 0,.ptr 3 0]∧(jA c k x p)=(jA c k x p)) (ah.ok (Ex.norm,{tmps:=slots 15 [(5,.own 7),(6,.t (i64 5)),(7,.t (i64 1))],heap:=(jA c k x p)})):=by kernel_rfl
theorem Zi (N:Nat) (c:Cf) (k:Int) (x:Px) (p:Pa) (b:Bool) (o:Int):cu env (bI env N [gW c k x p true,jd c k x p true,kF c k x p true,nS c k x p b o]) N 111 8 2 (MZ c k x p (T.agg [i64 0,i64 0,i64 0,i64 0,i64 0,i64 0]) 0)=iU ([PV.ptr 3 0,.ptr 0 0,.ptr 1 0]= [PV.ptr 3 0,.ptr 0 0,.ptr 1 0]∧(jA c k x p)=(jA c k x p)) (ah.ok (Ex.norm,{tmps:=slots 15 [(5,.own 7),(6,.t (i64 5)),(7,.t (i64 2))],heap:=(jA c k x p)})):=by kernel_rfl
theorem Zj (N:Nat) (c:Cf) (k:Int) (x:Px) (p:Pa) (b:Bool) (o:Int):cu env (bI env N [gW c k x p true,jd c k x p true,kF c k x p true,nS c k x p b o]) N 111 8 2 (TQ c k x p (T.agg [i64 0,i64 0,i64 0,i64 0,i64 0,i64 0]) 0)=iU ([PV.ptr 3 0,.ptr 0 0]= [PV.ptr 3 0,.ptr 0 0]∧(jA c k x p)=(jA c k x p)) (ah.ok (Ex.norm,{tmps:=slots 15 [(5,.own 7),(6,.t (i64 5)),(7,.t (i64 3))],heap:=(jA c k x p)})):=by kernel_rfl
theorem Wh (N:Nat) (c:Cf) (k:Int) (x:Px) (p:Pa) (b:Bool) (o:Int):cu env (bI env N [gW c k x p true,jd c k x p true,kF c k x p true,nS c k x p b o]) N 111 8 2 (acv c k x p (T.agg [i64 0,i64 0,i64 0,i64 0,i64 0,i64 0]) 0)=iU ([PV.ptr 0 0,.ptr 1 0,.ptr 3 0,.ptr 6 0]= [PV.ptr 0 0,.ptr 1 0,.ptr 3 0,.ptr 6 0]∧(jA c k x p)=(jA c k x p)) (bif !b then ah.ok (Ex.ret,{tmps:=slots 15 [(2,.t (.bool false))],heap:=(abB c k x p o)}) else ah.ok (Ex.norm,{tmps:=slots 15 [(5,.own 7),(6,.t (i64 5)),(7,.t (i64 4))],heap:=(abB c k x p o)})):=by kernel_rfl
theorem MV (N:Nat) (c:Cf) (k:Int) (x:Px) (p:Pa) (b:Bool) (o:Int) (H:List aj) {β:Type} (K:PV→List aj→ah β):qX env (bI env N [gW c k x p true,jd c k x p true,kF c k x p true,nS c k x p b o]) N 111 8 2 K (.ret) (⟨slots 15 [(2,.t (.bool false))],H⟩)=K (PV.t (.bool false)) H:=by kernel_rfl
theorem aaS (N:Nat) (c:Cf) (k:Int) (x:Px) (p:Pa) (b:Bool) (o:Int) (r:T) {β:Type} (K:PV→List aj→ah β):fU env (bI env N [gW c k x p true,jd c k x p true,kF c k x p true,nS c k x p true o,wu c k x p b o r]) N 111 [.own 7] [.box 56 6 (.t c.t),.box 3 1 (.t (i64 k)),.box 25 2 (.t x.t),.box 42 4 (.t p.t),.box 44 6 (.agg [.t (i64 0),.t (i64 0),.nil 3 1,.t (i64 0),.t (i64 0),.t (i64 0)]),.box 123 6 (.t (.agg [i64 0,i64 0,i64 0,i64 0,i64 0,i64 0])),.box 3 1 (.t (i64 0)),.vec 26 1 5 G8] K=um env (bI env N [gW c k x p true,jd c k x p true,kF c k x p true,nS c k x p true o,wu c k x p b o r]) N 111 8 2 K {tmps:=slots 15 [(5,.own 7),(6,.t (i64 5)),(7,.t (i64 0))],heap:=(jA c k x p)}:=by kernel_rfl
theorem Ht (N:Nat) (c:Cf) (k:Int) (x:Px) (p:Pa) (b:Bool) (o:Int) (r:T):cu env (bI env N [gW c k x p true,jd c k x p true,kF c k x p true,nS c k x p true o,wu c k x p b o r]) N 111 8 2 (rQ c k x p (T.agg [i64 0,i64 0,i64 0,i64 0,i64 0,i64 0]) 0)=iU ([PV.ptr 0 0,.ptr 1 0,.ptr 2 0,.ptr 3 0]= [PV.ptr 0 0,.ptr 1 0,.ptr 2 0,.ptr 3 0]∧(jA c k x p)=(jA c k x p)) (ah.ok (Ex.norm,{tmps:=slots 15 [(5,.own 7),(6,.t (i64 5)),(7,.t (i64 1))],heap:=(jA c k x p)})):=by kernel_rfl
theorem Hu (N:Nat) (c:Cf) (k:Int) (x:Px) (p:Pa) (b:Bool) (o:Int) (r:T):cu env (bI env N [gW c k x p true,jd c k x p true,kF c k x p true,nS c k x p true o,wu c k x p b o r]) N 111 8 2 (MZ c k x p (T.agg [i64 0,i64 0,i64 0,i64 0,i64 0,i64 0]) 0)=iU ([PV.ptr 3 0,.ptr 0 0,.ptr 1 0]= [PV.ptr 3 0,.ptr 0 0,.ptr 1 0]∧(jA c k x p)=(jA c k x p)) (ah.ok (Ex.norm,{tmps:=slots 15 [(5,.own 7),(6,.t (i64 5)),(7,.t (i64 2))],heap:=(jA c k x p)})):=by kernel_rfl
theorem Hw (N:Nat) (c:Cf) (k:Int) (x:Px) (p:Pa) (b:Bool) (o:Int) (r:T):cu env (bI env N [gW c k x p true,jd c k x p true,kF c k x p true,nS c k x p true o,wu c k x p b o r]) N 111 8 2 (TQ c k x p (T.agg [i64 0,i64 0,i64 0,i64 0,i64 0,i64 0]) 0)=iU ([PV.ptr 3 0,.ptr 0 0]= [PV.ptr 3 0,.ptr 0 0]∧(jA c k x p)=(jA c k x p)) (ah.ok (Ex.norm,{tmps:=slots 15 [(5,.own 7),(6,.t (i64 5)),(7,.t (i64 3))],heap:=(jA c k x p)})):=by kernel_rfl
theorem Hy (N:Nat) (c:Cf) (k:Int) (x:Px) (p:Pa) (b:Bool) (o:Int) (r:T):cu env (bI env N [gW c k x p true,jd c k x p true,kF c k x p true,nS c k x p true o,wu c k x p b o r]) N 111 8 2 (acv c k x p (T.agg [i64 0,i64 0,i64 0,i64 0,i64 0,i64 0]) 0)=iU ([PV.ptr 0 0,.ptr 1 0,.ptr 3 0,.ptr 6 0]= [PV.ptr 0 0,.ptr 1 0,.ptr 3 0,.ptr 6 0]∧(jA c k x p)=(jA c k x p)) (ah.ok (Ex.norm,{tmps:=slots 15 [(5,.own 7),(6,.t (i64 5)),(7,.t (i64 4))],heap:=(abB c k x p o)})):=by kernel_rfl
theorem Hz (N:Nat) (c:Cf) (k:Int) (x:Px) (p:Pa) (b:Bool) (o:Int) (r:T):cu env (bI env N [gW c k x p true,jd c k x p true,kF c k x p true,nS c k x p true o,wu c k x p b o r]) N 111 8 2 (ak0 c k x p (T.agg [i64 0,i64 0,i64 0,i64 0,i64 0,i64 0]) o)=iU ([PV.ptr 0 0,.ptr 1 0,.ptr 2 0,.ptr 3 0,.ptr 5 0]= [PV.ptr 0 0,.ptr 1 0,.ptr 2 0,.ptr 3 0,.ptr 5 0]∧(abB c k x p o)=(abB c k x p o)) (bif !b then ah.ok (Ex.ret,{tmps:=slots 15 [(2,.t (.bool false))],heap:=(akP c k x p o r)}) else ah.ok (Ex.norm,{tmps:=slots 15 [(5,.own 7),(6,.t (i64 5)),(7,.t (i64 5))],heap:=(akP c k x p o r)})):=by kernel_rfl
theorem Wi (N:Nat) (c:Cf) (k:Int) (x:Px) (p:Pa) (b:Bool) (o:Int) (r:T):cu env (bI env N [gW c k x p true,jd c k x p true,kF c k x p true,nS c k x p true o,wu c k x p b o r]) N 111 8 2 (aol c k x p r o)=ah.ok (Ex.exit 0,{tmps:=slots 15 [],heap:=(akP c k x p o r)}):=by kernel_rfl
theorem MW (N:Nat) (c:Cf) (k:Int) (x:Px) (p:Pa) (b:Bool) (o:Int) (r:T) (H:List aj) {β:Type} (K:PV→List aj→ah β):qX env (bI env N [gW c k x p true,jd c k x p true,kF c k x p true,nS c k x p true o,wu c k x p b o r]) N 111 8 2 K (.ret) (⟨slots 15 [(2,.t (.bool false))],H⟩)=K (PV.t (.bool false)) H:=by kernel_rfl
theorem MQ (N:Nat) (c:Cf) (k:Int) (x:Px) (p:Pa) (b:Bool) (o:Int) (r:T) (H:List aj) {β:Type} (K:PV→List aj→ah β):qX env (bI env N [gW c k x p true,jd c k x p true,kF c k x p true,nS c k x p true o,wu c k x p b o r]) N 111 8 2 K (.exit 0) (⟨slots 15 [],H⟩)=K (PV.t (.bool true)) H:=by kernel_rfl
theorem akq (N:Nat) (c:Cf) (k:Int) (x:Px) (p:Pa) (b:Bool) (o:Int) (r:T):fU env (bI env N [zx c k x p b o r]) N 136 [.t (c.t),.t (i64 k),.t (x.t),.t (p.t)] [] (aW env 136)=bW (fun p=>((match p with|PV.t x=>x.cells.length==1&& !x.aY|PV.agg cs=>cs.length==1|PV.au xs=>false|PV.junk=>false|x=>true)&& !match p with|PV.agg cs=>true|x=>false)&& !match p with|PV.t x=>x.isAgg|x=>false) [PV.fn 170 [] [PV.ptr 0 0,.ptr 1 0,.ptr 2 0,.ptr 3 0],.fn 171 [] [PV.ptr 3 0,.ptr 0 0,.ptr 1 0],.fn 172 [] [PV.ptr 3 0,.ptr 0 0],.fn 174 [] [PV.ptr 0 0,.ptr 1 0,.ptr 3 0,.ptr 6 0],.fn 176 [] [PV.ptr 0 0,.ptr 1 0,.ptr 2 0,.ptr 3 0,.ptr 5 0]] (iU ([PV.own 7]= [PV.own 7]∧ [aj.box 56 6 (.t c.t),.box 3 1 (.t (i64 k)),.box 25 2 (.t x.t),.box 42 4 (.t p.t),.box 44 6 (.agg [PV.t (i64 0),.t (i64 0),PV.nil 3 1,.t (i64 0),.t (i64 0),.t (i64 0)]),.box 123 6 (.t (.agg [i64 0,i64 0,i64 0,i64 0,i64 0,i64 0])),.box 3 1 (.t (i64 0)),.vec 26 1 5 [PV.fn 170 [] [PV.ptr 0 0,.ptr 1 0,.ptr 2 0,.ptr 3 0],.fn 171 [] [PV.ptr 3 0,.ptr 0 0,.ptr 1 0],.fn 172 [] [PV.ptr 3 0,.ptr 0 0],.fn 174 [] [PV.ptr 0 0,.ptr 1 0,.ptr 3 0,.ptr 6 0],.fn 176 [] [PV.ptr 0 0,.ptr 1 0,.ptr 2 0,.ptr 3 0,.ptr 5 0]]]= [aj.box 56 6 (.t c.t),.box 3 1 (.t (i64 k)),.box 25 2 (.t x.t),.box 42 4 (.t p.t),.box 44 6 (.agg [PV.t (i64 0),.t (i64 0),PV.nil 3 1,.t (i64 0),.t (i64 0),.t (i64 0)]),.box 123 6 (.t (.agg [i64 0,i64 0,i64 0,i64 0,i64 0,i64 0])),.box 3 1 (.t (i64 0)),.vec 26 1 5 [PV.fn 170 [] [PV.ptr 0 0,.ptr 1 0,.ptr 2 0,.ptr 3 0],.fn 171 [] [PV.ptr 3 0,.ptr 0 0,.ptr 1 0],.fn 172 [] [PV.ptr 3 0,.ptr 0 0],.fn 174 [] [PV.ptr 0 0,.ptr 1 0,.ptr 3 0,.ptr 6 0],.fn 176 [] [PV.ptr 0 0,.ptr 1 0,.ptr 2 0,.ptr 3 0,.ptr 5 0]]]) (bif !b then ah.ok (T.au [T.agg [i64 0,i64 0,T.sl 1 [],i64 0,i64 0,i64 0],T.bool false]) else chk ((r.ay 5 1 false).cells.length==1&& !(r.ay 5 1 false).aY) (ah.ok (T.au [T.agg [(r.ay 5 1 false).cell 0,i64 p.o,T.sl 1 (ints p.s),i64 p.h,i64 o,i64 k],T.bool true])))):=by kernel_rfl
end
section
open Go.RowKit Go.Proofs
variable [Lv]
theorem aij {M:Nat} {a b c:Int} (hM:1≤M) (ha:aV a=true) (hb:aV b=true) (hc:aV c=true):ak env (M+1) 175 [i64 a,i64 b,i64 c]= .ok (.au [i64 ((og a b c).getD 0),.bool (og a b c).isSome]):=by
 obtain⟨m,rfl⟩:=dJ hM
 have ho:=aao (M:=m) hc hb
 rw[aso,aX (yG (aZ ha) (aZ hb) (aZ hc))]
 unfold og
 by_cases h3:a=3
 · rw[beq_iff_eq.2 h3,if_pos h3]; simp only[cond_true]; rw[aH ho]; rfl
 rw[beq_eq_false_iff_ne.2 h3,if_neg h3]; simp only[cond_false]
 by_cases h2:a=2
 · have h1:a≠1:=by omega
   rw[beq_iff_eq.2 h2,if_pos h2,beq_eq_false_iff_ne.2 h1]; simp only[cond_true,cond_false]
   rw[nG ho]
   by_cases he:PI c b=b
   · rw[beq_iff_eq.2 he,if_pos he]; simp only[cond_true]; rw[aH ho]; rfl
   · rw[beq_eq_false_iff_ne.2 he,if_neg he]; rfl
 rw[beq_eq_false_iff_ne.2 h2,if_neg h2]; simp only[cond_false]
 by_cases h1:a=1
 · rw[beq_iff_eq.2 h1,if_pos h1]; simp only[cond_true]
   by_cases he:c=0
   · rw[beq_iff_eq.2 he,if_pos he]; rfl
   · rw[beq_eq_false_iff_ne.2 he,if_neg he]; rfl
 · rw[beq_eq_false_iff_ne.2 h1,if_neg h1]; rfl
def hasB (c:Cf) (k:Int):Bool:=decide (k≥0)&&decide (k < (c.s.length:Int))
def eY (c:Cf) (k:Int):Int:=if 0≤k then(match c.s[k.toNat]? with|some s=>s.r|none=>0) else 0
theorem Qs {M:Nat} {c:Cf} {k:Int} (h:c.ok) (hk:aV k=true):ak env (M+1) 113 [c.t,i64 k]= .ok (.bool (hasB c k)):=by
 rw[arC,aX (dM h.wf (aZ hk)),jE,List.length_map]; rfl
theorem wI {c:Cf} {k:Int} (h:hasB c k=true):∃ (i:Nat) (s:Sd),k=i∧i < c.s.length∧c.s[i]? =some s:=by
 unfold hasB at h
 simp only[Bool.and_eq_true,decide_eq_true_eq] at h
 exact⟨k.toNat,c.s[k.toNat]'(by omega),by omega,by omega,List.getElem?_eq_getElem _⟩
theorem ahP {M:Nat} {c:Cf} {k:Int} (hM:1≤M) (h:c.ok) (hk:aV k=true):ak env (M+1) 118 [c.t,i64 k]= .ok (i64 (eY c k)):=by
 obtain⟨m,rfl⟩:=dJ hM
 rw[arF,aX (dM h.wf (aZ hk)),bJ (Qs h hk)]
 cases hh:hasB c k with
 |false=>
  have:eY c k=0:=by
   unfold eY
   unfold hasB at hh
   split
   · rw[List.getElem?_eq_none (by simp at hh; omega)]
   · rfl
  rw[this]; rfl
 |true=>
  obtain⟨i,s,rfl,hi,hx⟩:=wI hh
  simp only[Bool.not_true,cond_false]
  rw[aA (aC hx)]
  unfold eY
  rw[if_pos (by omega),Int.toNat_natCast,hx]
  rfl
end
section
open Go.RowKit Go.Proofs
variable [Lv]
def TJ (c:Cf) (k:Int) (x:Px) (p:Pa):Bool:=dH c&&(hasB c k&&(dB x&&gY p))
theorem arf {M:Nat} {c:Cf} {k:Int} {x:Px} {p:Pa} (hM:big+15≤M) (h:c.ok) (hk:aV k=true) (hx:x.ok) (hp:p.ok):jc env (M+1) (gW c k x p (TJ c k x p)):=fun β K=>by
 obtain⟨m,rfl⟩:=dJ (show 1≤M by omega)
 refine(aqW (m+1) c k x p _ 0 K).trans ?_
 rw[bJ (BK (by omega) h)]
 unfold gW TJ
 cases dH c with
 |false=>rfl
 |true=>
 rw[cond_true,bJ (Qs h hk)]
 cases hasB c k with
 |false=>rfl
 |true=>
 rw[cond_true,bJ (x9 hx (by omega))]
 cases dB x with
 |false=>rfl
 |true=>
 rw[cond_true,aH (Qx (by omega) hp)]
 rfl
theorem ari {M:Nat} {c:Cf} {k:Int} {x:Px} {p:Pa} (hM:big+15≤M) (h:c.ok) (hp:p.ok):jc env (M+1) (kF c k x p (!(p.s.contains c.a))):=fun β K=>by
 obtain⟨m,rfl⟩:=dJ (show 1≤M by omega)
 refine(aqY (m+1) c k x p _ 0 K).trans ?_
 rw[bJ (aap (by omega) (rF hp) h.a)]
 rfl
theorem arh {M:Nat} {c:Cf} {k:Nat} {x:Px} {p:Pa} {s:Sd} (hs:c.s[k]? =some s):jc env (M+1) (jd c k x p (decide (0 < p.s.length)&&(decide (p.s.length≤32)&&decide (p.s[0]? =some s.a)))):=fun β K=>by
 refine(aqX M c k x p _ 0 K).trans ?_
 have hl:((ints p.s).length:Int)=(p.s.length:Int):=by rw[bg,List.length_map]
 rw[hl]
 unfold jd
 by_cases h0:p.s.length > 0
 case neg=>rw[decide_eq_false (show ¬ (p.s.length:Int) > 0 by omega),decide_eq_false (show ¬ 0 < p.s.length by omega)]; rfl
 rw[decide_eq_true (show(p.s.length:Int) > 0 by omega),decide_eq_true (show 0 < p.s.length by omega)]
 by_cases h1:p.s.length≤32
 case neg=>rw[decide_eq_false (show ¬ (p.s.length:Int)≤32 by omega),decide_eq_false h1]; rfl
 rw[decide_eq_true (show(p.s.length:Int)≤32 by omega),decide_eq_true h1]
 have hg:p.s[0]? =some p.s[0]:=List.getElem?_eq_getElem h0
 have ha:=aA (K:=fun e=>bK (List.map Sd.t c.s) k fun e_1=>iT IntKind.i64 e fun a=>iT IntKind.i64 (e_1.ay 0 1 false) fun b=>K (PV.t (T.bool (a==b))) (G7 c k x p (T.agg [i64 0,i64 0,i64 0,i64 0,i64 0,i64 0]) 0)) (iV hg)
 simp only[cond_true]
 refine ha.trans ?_
 rw[aA (aC hs),hg]
 have e:s.t.ay 0 1 false=i64 s.a:=rfl
 simp only[e,dI]
 have:(p.s[0]==s.a)=decide (some p.s[0]=some s.a):=by rw[Bool.eq_iff_iff]; simp
 rw[this]
 rfl
theorem arj {M:Nat} {c:Cf} {k:Nat} {x:Px} {p:Pa} {s:Sd} (hM:2≤M) (hs:c.s[k]? =some s) (h:c.ok) (hp:p.ok):jc env (M+1) (nS c k x p (og s.r s.a p.c).isSome ((og s.r s.a p.c).getD 0)):=fun β K=>by
 obtain⟨m,rfl⟩:=dJ (show 1≤M by omega)
 have ho:=h.s.2 _ (List.mem_of_getElem? hs)
 refine(aqZ (m+1) c k x p _ 0 K).trans ?_
 rw[aA (aC hs),aA (aC hs)]
 refine(aH (aij (M:=m) (by omega) ho.r ho.a hp.c)).trans ?_
 rfl
def BD (x:Px) (p:Pa) (r:Int):Vw:=⟨x,p.s,r⟩
theorem ark {M:Nat} {c:Cf} {k:Nat} {x:Px} {p:Pa} {s:Sd} {o:Int} (hM:big+10≤M) (hs:c.s[k]? =some s) (h:c.ok) (hx:x.ok) (hp:p.ok):
 jc env (M+1) (wu c k x p (match kM s.i (BD x p s.r) with|some r=>r.a==2|none=>false) o (match kM s.i (BD x p s.r) with|some r=>r.t|none=>T.agg [i64 0,i64 0,i64 0,i64 0,i64 0,i64 0])):=fun β K=>by
 obtain⟨m,rfl⟩:=dJ (show 1≤M by omega)
 have ho:=h.s.2 _ (List.mem_of_getElem? hs)
 refine(aq0 (m+1) c k x p _ o K).trans ?_
 rw[aA (aC hs),aA (aC hs)]
 have hv:(BD x p s.r).ok:=⟨hx,rF hp,ho.r⟩
 have hc:=aak (M:=m) (by omega) ho.i hv
 refine(aH hc).trans ?_
 cases kM s.i (BD x p s.r)<;>rfl
end
section
open Go.RowKit Go.Proofs
variable [Lv]
theorem all1 {M:Nat} {c:Cf} {k:Int} {x:Px} {p:Pa} (hM:6≤M) (h:oO env M [gW c k x p false]):jc env (M+1) (zx c k x p false 0 (T.agg [i64 0,i64 0,i64 0,i64 0,i64 0,i64 0])):=by
 refine kC h ?_
 refine(aph M c k x p false _).trans ?_
 have it:∀ n,bF (cu env (bI env M [gW c k x p false]) M 111 8 2) (n+1) (rQ c k x p (T.agg [i64 0,i64 0,i64 0,i64 0,i64 0,i64 0]) 0)= .ok (.ret,⟨slots 15 [(2,.t (.bool false))],G7 c k x p (T.agg [i64 0,i64 0,i64 0,i64 0,i64 0,i64 0]) 0⟩):=fun n=>by
  exact dR (n:=n) ((af8 M c k x p false).trans bH)
 obtain⟨n,hn⟩:∃ n,M=n+1:=⟨M - 1,by omega⟩
 have it':bF (cu env (bI env M [gW c k x p false]) M 111 8 2) M (rQ c k x p (T.agg [i64 0,i64 0,i64 0,i64 0,i64 0,i64 0]) 0)=_:=(congrArg (fun z=>bF (cu env (bI env M [gW c k x p false]) M 111 8 2) z (rQ c k x p (T.agg [i64 0,i64 0,i64 0,i64 0,i64 0,i64 0]) 0)) hn).trans (it n)
 exact(jD it').trans (Ry M c k x p false _ _)
theorem all2 {M:Nat} {c:Cf} {k:Int} {x:Px} {p:Pa} (hM:6≤M) (h:oO env M [gW c k x p true,jd c k x p false]):jc env (M+1) (zx c k x p false 0 (T.agg [i64 0,i64 0,i64 0,i64 0,i64 0,i64 0])):=by
 refine kC h ?_
 refine(aji M c k x p false _).trans ?_
 have it:∀ n,bF (cu env (bI env M [gW c k x p true,jd c k x p false]) M 111 8 2) (n+2) (rQ c k x p (T.agg [i64 0,i64 0,i64 0,i64 0,i64 0,i64 0]) 0)= .ok (.ret,⟨slots 15 [(2,.t (.bool false))],G7 c k x p (T.agg [i64 0,i64 0,i64 0,i64 0,i64 0,i64 0]) 0⟩):=fun n=>by
  refine(bf (n:=n+1) (s':=MZ c k x p (T.agg [i64 0,i64 0,i64 0,i64 0,i64 0,i64 0]) 0) ((Zc M c k x p false).trans bH)).trans ?_
  exact dR (n:=n) ((Zd M c k x p false).trans bH)
 obtain⟨n,hn⟩:∃ n,M=n+2:=⟨M - 2,by omega⟩
 have it':bF (cu env (bI env M [gW c k x p true,jd c k x p false]) M 111 8 2) M (rQ c k x p (T.agg [i64 0,i64 0,i64 0,i64 0,i64 0,i64 0]) 0)=_:=(congrArg (fun z=>bF (cu env (bI env M [gW c k x p true,jd c k x p false]) M 111 8 2) z (rQ c k x p (T.agg [i64 0,i64 0,i64 0,i64 0,i64 0,i64 0]) 0)) hn).trans (it n)
 exact(jD it').trans (MR M c k x p false _ _)
theorem aqt {M:Nat} {c:Cf} {k:Int} {x:Px} {p:Pa} (hM:6≤M) (h:oO env M [gW c k x p true,jd c k x p true,kF c k x p false]):jc env (M+1) (zx c k x p false 0 (T.agg [i64 0,i64 0,i64 0,i64 0,i64 0,i64 0])):=by
 refine kC h ?_
 refine(ajj M c k x p false _).trans ?_
 have it:∀ n,bF (cu env (bI env M [gW c k x p true,jd c k x p true,kF c k x p false]) M 111 8 2) (n+3) (rQ c k x p (T.agg [i64 0,i64 0,i64 0,i64 0,i64 0,i64 0]) 0)= .ok (.ret,⟨slots 15 [(2,.t (.bool false))],G7 c k x p (T.agg [i64 0,i64 0,i64 0,i64 0,i64 0,i64 0]) 0⟩):=fun n=>by
  refine(bf (n:=n+2) (s':=MZ c k x p (T.agg [i64 0,i64 0,i64 0,i64 0,i64 0,i64 0]) 0) ((Ze M c k x p false).trans bH)).trans ?_
  refine(bf (n:=n+1) (s':=TQ c k x p (T.agg [i64 0,i64 0,i64 0,i64 0,i64 0,i64 0]) 0) ((Zf M c k x p false).trans bH)).trans ?_
  exact dR (n:=n) ((Zg M c k x p false).trans bH)
 obtain⟨n,hn⟩:∃ n,M=n+3:=⟨M - 3,by omega⟩
 have it':bF (cu env (bI env M [gW c k x p true,jd c k x p true,kF c k x p false]) M 111 8 2) M (rQ c k x p (T.agg [i64 0,i64 0,i64 0,i64 0,i64 0,i64 0]) 0)=_:=(congrArg (fun z=>bF (cu env (bI env M [gW c k x p true,jd c k x p true,kF c k x p false]) M 111 8 2) z (rQ c k x p (T.agg [i64 0,i64 0,i64 0,i64 0,i64 0,i64 0]) 0)) hn).trans (it n)
 exact(jD it').trans (MS M c k x p false _ _)
theorem aqu {M:Nat} {c:Cf} {k:Int} {x:Px} {p:Pa} {o:Int} (hM:6≤M) (h:oO env M [gW c k x p true,jd c k x p true,kF c k x p true,nS c k x p false o]):jc env (M+1) (zx c k x p false o (T.agg [i64 0,i64 0,i64 0,i64 0,i64 0,i64 0])):=by
 refine kC h ?_
 refine(ajk M c k x p false o _).trans ?_
 have it:∀ n,bF (cu env (bI env M [gW c k x p true,jd c k x p true,kF c k x p true,nS c k x p false o]) M 111 8 2) (n+4) (rQ c k x p (T.agg [i64 0,i64 0,i64 0,i64 0,i64 0,i64 0]) 0)= .ok (.ret,⟨slots 15 [(2,.t (.bool false))],G7 c k x p (T.agg [i64 0,i64 0,i64 0,i64 0,i64 0,i64 0]) o⟩):=fun n=>by
  refine(bf (n:=n+3) (s':=MZ c k x p (T.agg [i64 0,i64 0,i64 0,i64 0,i64 0,i64 0]) 0) ((Zh M c k x p false o).trans bH)).trans ?_
  refine(bf (n:=n+2) (s':=TQ c k x p (T.agg [i64 0,i64 0,i64 0,i64 0,i64 0,i64 0]) 0) ((Zi M c k x p false o).trans bH)).trans ?_
  refine(bf (n:=n+1) (s':=acv c k x p (T.agg [i64 0,i64 0,i64 0,i64 0,i64 0,i64 0]) 0) ((Zj M c k x p false o).trans bH)).trans ?_
  exact dR (n:=n) ((Wh M c k x p false o).trans bH)
 obtain⟨n,hn⟩:∃ n,M=n+4:=⟨M - 4,by omega⟩
 have it':bF (cu env (bI env M [gW c k x p true,jd c k x p true,kF c k x p true,nS c k x p false o]) M 111 8 2) M (rQ c k x p (T.agg [i64 0,i64 0,i64 0,i64 0,i64 0,i64 0]) 0)=_:=(congrArg (fun z=>bF (cu env (bI env M [gW c k x p true,jd c k x p true,kF c k x p true,nS c k x p false o]) M 111 8 2) z (rQ c k x p (T.agg [i64 0,i64 0,i64 0,i64 0,i64 0,i64 0]) 0)) hn).trans (it n)
 exact(jD it').trans (MV M c k x p false o _ _)
theorem anI {M:Nat} {c:Cf} {k:Int} {x:Px} {p:Pa} {o:Int} {r:T} (hM:6≤M) (h:oO env M [gW c k x p true,jd c k x p true,kF c k x p true,nS c k x p true o,wu c k x p false o r]):jc env (M+1) (zx c k x p false o r):=by
 refine kC h ?_
 refine(aaS M c k x p false o r _).trans ?_
 have it:∀ n,bF (cu env (bI env M [gW c k x p true,jd c k x p true,kF c k x p true,nS c k x p true o,wu c k x p false o r]) M 111 8 2) (n+5) (rQ c k x p (T.agg [i64 0,i64 0,i64 0,i64 0,i64 0,i64 0]) 0)= .ok (.ret,⟨slots 15 [(2,.t (.bool false))],G7 c k x p r o⟩):=fun n=>by
  refine(bf (n:=n+4) (s':=MZ c k x p (T.agg [i64 0,i64 0,i64 0,i64 0,i64 0,i64 0]) 0) ((Ht M c k x p false o r).trans bH)).trans ?_
  refine(bf (n:=n+3) (s':=TQ c k x p (T.agg [i64 0,i64 0,i64 0,i64 0,i64 0,i64 0]) 0) ((Hu M c k x p false o r).trans bH)).trans ?_
  refine(bf (n:=n+2) (s':=acv c k x p (T.agg [i64 0,i64 0,i64 0,i64 0,i64 0,i64 0]) 0) ((Hw M c k x p false o r).trans bH)).trans ?_
  refine(bf (n:=n+1) (s':=ak0 c k x p (T.agg [i64 0,i64 0,i64 0,i64 0,i64 0,i64 0]) o) ((Hy M c k x p false o r).trans bH)).trans ?_
  exact dR (n:=n) ((Hz M c k x p false o r).trans bH)
 obtain⟨n,hn⟩:∃ n,M=n+5:=⟨M - 5,by omega⟩
 have it':bF (cu env (bI env M [gW c k x p true,jd c k x p true,kF c k x p true,nS c k x p true o,wu c k x p false o r]) M 111 8 2) M (rQ c k x p (T.agg [i64 0,i64 0,i64 0,i64 0,i64 0,i64 0]) 0)=_:=(congrArg (fun z=>bF (cu env (bI env M [gW c k x p true,jd c k x p true,kF c k x p true,nS c k x p true o,wu c k x p false o r]) M 111 8 2) z (rQ c k x p (T.agg [i64 0,i64 0,i64 0,i64 0,i64 0,i64 0]) 0)) hn).trans (it n)
 exact(jD it').trans (MW M c k x p false o r _ _)
theorem aqv {M:Nat} {c:Cf} {k:Int} {x:Px} {p:Pa} {o:Int} {r:T} (hM:6≤M) (h:oO env M [gW c k x p true,jd c k x p true,kF c k x p true,nS c k x p true o,wu c k x p true o r]):jc env (M+1) (zx c k x p true o r):=by
 refine kC h ?_
 refine(aaS M c k x p true o r _).trans ?_
 have it:∀ n,bF (cu env (bI env M [gW c k x p true,jd c k x p true,kF c k x p true,nS c k x p true o,wu c k x p true o r]) M 111 8 2) (n+6) (rQ c k x p (T.agg [i64 0,i64 0,i64 0,i64 0,i64 0,i64 0]) 0)= .ok (.exit 0,⟨slots 15 [],G7 c k x p r o⟩):=fun n=>by
  refine(bf (n:=n+5) (s':=MZ c k x p (T.agg [i64 0,i64 0,i64 0,i64 0,i64 0,i64 0]) 0) ((Ht M c k x p true o r).trans bH)).trans ?_
  refine(bf (n:=n+4) (s':=TQ c k x p (T.agg [i64 0,i64 0,i64 0,i64 0,i64 0,i64 0]) 0) ((Hu M c k x p true o r).trans bH)).trans ?_
  refine(bf (n:=n+3) (s':=acv c k x p (T.agg [i64 0,i64 0,i64 0,i64 0,i64 0,i64 0]) 0) ((Hw M c k x p true o r).trans bH)).trans ?_
  refine(bf (n:=n+2) (s':=ak0 c k x p (T.agg [i64 0,i64 0,i64 0,i64 0,i64 0,i64 0]) o) ((Hy M c k x p true o r).trans bH)).trans ?_
  refine(bf (n:=n+1) (s':=aol c k x p r o) ((Hz M c k x p true o r).trans bH)).trans ?_
  exact dV (n:=n) (Wi M c k x p true o r)
 obtain⟨n,hn⟩:∃ n,M=n+6:=⟨M - 6,by omega⟩
 have it':bF (cu env (bI env M [gW c k x p true,jd c k x p true,kF c k x p true,nS c k x p true o,wu c k x p true o r]) M 111 8 2) M (rQ c k x p (T.agg [i64 0,i64 0,i64 0,i64 0,i64 0,i64 0]) 0)=_:=(congrArg (fun z=>bF (cu env (bI env M [gW c k x p true,jd c k x p true,kF c k x p true,nS c k x p true o,wu c k x p true o r]) M 111 8 2) z (rQ c k x p (T.agg [i64 0,i64 0,i64 0,i64 0,i64 0,i64 0]) 0)) hn).trans (it n)
 exact(jD it').trans (MQ M c k x p true o r _ _)
end
section
open Go.RowKit Go.Proofs
variable [Lv]
def zR:T:=T.agg [i64 0,i64 0,T.sl 1 [],i64 0,i64 0,i64 0]
def wK (c:Cf) (k:Int) (x:Px) (p:Pa):Option Rt:=
 if TJ c k x p then match c.s[k.toNat]? with
  |some s=>if (p.s[0]? =some s.a∧p.s.length≤32)∧p.s.contains c.a=false then match og s.r s.a p.c with
   |some m=>match kM s.i (BD x p s.r) with
    |some r=>if r.a=2 then some ⟨r.n,⟨p.o,p.s,p.h,m⟩,k⟩ else none
    |none=>none
   |none=>none
   else none
  |none=>none
 else none
def I5:Option Rt→T
 |some r=> .au [r.t,.bool true]
 |none=> .au [zR,.bool false]
theorem Yc {M:Nat} {c:Cf} {k:Int} {x:Px} {p:Pa} {o:Int} {r:T} (hw:T.wfs [c.t,i64 k,x.t,p.t]=true) (h:jc env M (zx c k x p false o r)):ak env (M+1) 136 [c.t,i64 k,x.t,p.t]= .ok (.au [zR,.bool false]):=
 lQ (ps:=[zx c k x p false o r]) ⟨h,trivial⟩ hw rfl ((akq M c k x p false o r).trans (l7 ⟨rfl,rfl⟩))
theorem aqO {M:Nat} {c:Cf} {k:Int} {x:Px} {p:Pa} {o:Int} {r:Ru} (hw:T.wfs [c.t,i64 k,x.t,p.t]=true) (h:jc env M (zx c k x p true o r.t)):ak env (M+1) 136 [c.t,i64 k,x.t,p.t]= .ok (.au [(Rt.mk r.n ⟨p.o,p.s,p.h,o⟩ k).t,.bool true]):=
 lQ (ps:=[zx c k x p true o r.t]) ⟨h,trivial⟩ hw rfl ((akq M c k x p true o r.t).trans (l7 ⟨rfl,rfl⟩))
theorem ahZ {M:Nat} {c:Cf} {k:Int} {x:Px} {p:Pa} (hM:big+18≤M) (h:c.ok) (hk:aV k=true) (hx:x.ok) (hp:p.ok):ak env (M+1) 136 [c.t,i64 k,x.t,p.t]= .ok (I5 (wK c k x p)):=by
 obtain⟨m,rfl⟩:=dJ (show 1≤M by omega)
 obtain⟨m,rfl⟩:=dJ (show 1≤m by omega)
 have hw:T.wfs [c.t,i64 k,x.t,p.t]=true:=by
  have h1:=h.wf; have h2:=aZ hk; have h3:=hx.wf; have h4:=hp.wf
  simp only[T.wfs,h1,h2,h3,h4,Bool.and_self]
 have g1:=arf (M:=m) (c:=c) (k:=k) (x:=x) (p:=p) (by omega) h hk hx hp
 unfold wK
 cases e1:TJ c k x p with
 |false=>
  rw[e1] at g1
  exact Yc hw (all1 (M:=m+1) (by omega) ⟨g1,trivial⟩)
 |true=>
 rw[e1] at g1
 simp only[if_true]
 have hh:hasB c k=true:=by unfold TJ at e1; simp only[Bool.and_eq_true] at e1; exact e1.2.1
 obtain⟨i,s,rfl,hi,hs⟩:=wI hh
 rw[Int.toNat_natCast,hs]
 have g2:=arh (M:=m) (x:=x) (p:=p) hs
 by_cases e2:p.s[0]? =some s.a∧p.s.length≤32
 case neg=>
  have:(decide (0 < p.s.length)&&(decide (p.s.length≤32)&&decide (p.s[0]? =some s.a)))=false:=by
   rw[Bool.eq_false_iff]; intro ht
   simp only[Bool.and_eq_true,decide_eq_true_eq] at ht
   exact e2 ⟨ht.2.2,ht.2.1⟩
  rw[this] at g2
  simp only[e2,false_and,if_false]
  exact Yc hw (all2 (M:=m+1) (by omega) ⟨g1,g2,trivial⟩)
 have:(decide (0 < p.s.length)&&(decide (p.s.length≤32)&&decide (p.s[0]? =some s.a)))=true:=by
  simp only[Bool.and_eq_true,decide_eq_true_eq]
  exact⟨(List.getElem?_eq_some_iff.1 e2.1).1,e2.2,e2.1⟩
 rw[this] at g2
 have g3:=ari (M:=m) (c:=c) (k:=(i:Int)) (x:=x) (p:=p) (by omega) h hp
 simp only[e2,true_and,and_self]
 cases e3:p.s.contains c.a with
 |true=>
  rw[e3] at g3
  exact Yc hw (aqt (M:=m+1) (by omega) ⟨g1,g2,g3,trivial⟩)
 |false=>
 rw[e3] at g3
 simp only[if_true]
 have g4:=arj (M:=m) (c:=c) (x:=x) (p:=p) (by omega) hs h hp
 cases e4:og s.r s.a p.c with
 |none=>
  rw[e4] at g4
  exact Yc hw (aqu (M:=m+1) (by omega) ⟨g1,g2,g3,g4,trivial⟩)
 |some o=>
 rw[e4] at g4
 have g5:=ark (M:=m) (c:=c) (x:=x) (p:=p) (o:=o) (by omega) hs h hx hp
 cases e5:kM s.i (BD x p s.r) with
 |none=>
  rw[e5] at g5
  exact Yc hw (anI (M:=m+1) (by omega) ⟨g1,g2,g3,g4,g5,trivial⟩)
 |some r=>
 rw[e5] at g5
 by_cases e6:r.a=2
 · simp only[e6,beq_self_eq_true] at g5
   simp only[e6,if_true]
   exact aqO hw (aqv (M:=m+1) (by omega) ⟨g1,g2,g3,g4,g5,trivial⟩)
 · simp only[beq_eq_false_iff_ne.2 e6] at g5
   simp only[e6,if_false]
   exact Yc hw (anI (M:=m+1) (by omega) ⟨g1,g2,g3,g4,g5,trivial⟩)
end
section
open Go.RowKit Go.Proofs
def yA (h:Int):Rt:=⟨400,⟨0,[],h,0⟩,-1⟩
def dw (a b:Int):Int:=if a < b then -1 else if b < a then 1 else 0
def cmpL:List Int→List Int→Int
 | [],[]=>0
 | [],_::_=> -1
 |_::_,[]=>1
 |a::l,b::m=>if a=b then cmpL l m else dw a b
def xk:List Int→Int
 | []=>0
 |x::l=>if x=0 then xk l else x
def jy (a b:Rt):Int:=xk [dw b.n a.n,dw a.p.s.length b.p.s.length,dw a.p.o b.p.o,cmpL a.p.s b.p.s,dw a.p.h b.p.h,dw a.p.c b.p.c,dw a.f b.f]
def oh (r:Rt):Bool:=gY r.p&&(decide (r.p.s.length≤32)&&(if r.f= -1 then jy r (yA r.p.h)==0 else decide (r.f≥0)&&(decide (r.f≤7)&&(decide (r.n > 0)&&decide (r.n < 400)))))
def jV (c:Cf) (u:Ru) (r:Rt):List Int:=List.replicate (1+u.n).toNat c.a++r.p.s
def jU (c:Cf) (k:Int) (x:Px) (r:Rt):Option Pa:=
 if (dH c&&(hasB c k&&(dB x&&oh r)))&&(decide (r.f≠k)&&decide (r.f < (c.s.length:Int))) then match c.s[k.toNat]? with
  |some s=>match kM s.o (BD x r.p (eY c r.f)) with
   |some u=>if u.a=0 then none else match kL s.r c.a r.p.c with
    |some m=>if (jV c u r).length≤32 then some ⟨r.p.o,jV c u r,c.d,m⟩ else none
    |none=>none
   |none=>none
  |none=>none
 else none
theorem kR {a b:Int}:dw a b=0↔a=b:=by
 unfold dw
 split
 · omega
 · split<;>omega
theorem Oy:∀ {l m:List Int},cmpL l m=0↔l=m
 | [],[]=>by simp[cmpL]
 | [],_::_=>by simp[cmpL]
 |_::_,[]=>by simp[cmpL]
 |a::l,b::m=>by
  simp only[cmpL]
  split
  · rename_i h; subst h; rw[Oy]; simp
  · rename_i h
    rw[kR]
    constructor
    · intro e; exact absurd e h
    · intro e; injection e with e1 e2
theorem Uz:∀ {l:List Int},xk l=0↔∀ x∈l,x=0
 | []=>by simp[xk]
 |x::l=>by
  simp only[xk]
  split
  · rename_i h; rw[Uz]; simp[h]
  · rename_i h; simp[h]
theorem AV {a b:Rt}:jy a b=0↔a=b:=by
 unfold jy
 rw[Uz]
 simp only[List.mem_cons,List.not_mem_nil,or_false,forall_eq_or_imp,forall_eq,kR,Oy]
 obtain⟨n,⟨o,s,h,c⟩,f⟩:=a
 obtain⟨n',⟨o',s',h',c'⟩,f'⟩:=b
 simp only[Rt.mk.injEq,Pa.mk.injEq]
 constructor
 · rintro⟨h1,h2,h3,h4,h5,h6,h7⟩; exact⟨h1.symm,⟨h3,h4,h5,h6⟩,h7⟩
 · rintro⟨h1,⟨h3,h4,h5,h6⟩,h7⟩; exact⟨h1.symm,by rw[h4],h3,h4,h5,h6,h7⟩
variable [Lv]
theorem mQ {c:Cf} {k:Int} {x:Px} {p:Pa} {r:Rt} (h:wK c k x p=some r):dH c=true∧dB x=true∧gY p=true∧∃ (i:Nat) (s:Sd) (m:Int) (u:Ru),k=i∧i < c.s.length∧c.s[i]? =some s∧p.s[0]? =some s.a∧p.s.length≤32∧
 p.s.contains c.a=false∧og s.r s.a p.c=some m∧kM s.i (BD x p s.r)=some u∧u.a=2∧r=⟨u.n,⟨p.o,p.s,p.h,m⟩,k⟩:=by
 unfold wK at h
 split at h
 case isFalse=>cases h
 rename_i h1
 unfold TJ at h1
 simp only[Bool.and_eq_true] at h1
 obtain⟨i,s,rfl,hi,hs⟩:=wI h1.2.1
 rw[Int.toNat_natCast,hs] at h
 simp only[] at h
 split at h
 case isFalse=>cases h
 rename_i h2
 split at h
 case h_2=>cases h
 rename_i m h3
 split at h
 case h_2=>cases h
 rename_i u h4
 split at h
 case isFalse=>cases h
 rename_i h5
 injection h with h
 exact⟨h1.1,h1.2.2.1,h1.2.2.2,i,s,m,u,rfl,hi,hs,h2.1.1,h2.1.2,h2.2,h3,h4,h5,h.symm⟩
theorem Bq {c:Cf} {k:Int} {x:Px} {r:Rt} {q:Pa} (h:jU c k x r=some q):dH c=true∧dB x=true∧oh r=true∧r.f≠k∧r.f < c.s.length∧∃ (i:Nat) (s:Sd) (m:Int) (u:Ru),k=i∧i < c.s.length∧c.s[i]? =some s∧
 kM s.o (BD x r.p (eY c r.f))=some u∧u.a≠0∧kL s.r c.a r.p.c=some m∧(jV c u r).length≤32∧q=⟨r.p.o,jV c u r,c.d,m⟩:=by
 unfold jU at h
 split at h
 case isFalse=>cases h
 rename_i h1
 simp only[Bool.and_eq_true,decide_eq_true_eq] at h1
 obtain⟨i,s,rfl,hi,hs⟩:=wI h1.1.2.1
 rw[Int.toNat_natCast,hs] at h
 simp only[] at h
 split at h
 case h_2=>cases h
 rename_i u h3
 split at h
 case isTrue=>cases h
 rename_i h4
 split at h
 case h_2=>cases h
 rename_i m h5
 split at h
 case isFalse=>cases h
 rename_i h6
 injection h with h
 exact⟨h1.1.1,h1.1.2.2.1,h1.1.2.2.2,h1.2.1,h1.2.2,i,s,m,u,rfl,hi,hs,h3,h4,h5,h6,h.symm⟩
theorem sW {l:List Ru} {v:Vw} {r:Ru} (h:kM l v=some r):r∈l∧rX v r=true:=⟨List.mem_of_find?_eq_some h,by have:=List.find?_some h; exact this⟩
theorem mP {c:Cf} (h:dH c=true) {i:Nat} {s:Sd} (hs:c.s[i]? =some s):0 < s.a∧s.a≤4294967295∧1≤s.r∧s.r≤3∧(∀ r∈s.i,pG r true=true)∧∀ r∈s.o,pG r false=true:=by
 have:=pJ h (List.mem_of_getElem? hs)
 unfold nY rG uI at this
 simp only[Bool.and_eq_true,decide_eq_true_eq,Bool.not_eq_true',List.any_eq_false,Bool.not_eq_true] at this
 obtain⟨⟨h1,h2⟩,h3,h4,⟨_,h5⟩,_,h6⟩:=this
 refine⟨h1,h2,h3,h4,fun r hr=>?_,fun r hr=>?_⟩
 · have:=h5 r hr; simpa using this
 · have:=h6 r hr; simpa using this
theorem ou {c:Cf} (h:dH c=true):0 < c.a∧c.a≤4294967295∧0 < c.d∧c.d≤4294967295∧c.s.length≤8:=by
 unfold dH rG at h
 simp only[Bool.and_eq_true,decide_eq_true_eq] at h
 exact⟨h.1.1,h.1.2,h.2.1.1,h.2.1.2,h.2.2.2.2.2.2.1⟩
theorem xZ {c:Cf} {i:Nat} {s:Sd} (hs:c.s[i]? =some s):eY c (i:Int)=s.r:=by
 unfold eY; rw[if_pos (by omega),Int.toNat_natCast,hs]
theorem JV {u:Ru} (h:pG u false=true) (ha:u.a≠0):0≤u.n∧u.n≤8:=by
 unfold pG FN at h
 simp only[Bool.and_eq_true] at h
 have h2:=h.2.2
 rw[if_neg ha] at h2
 split at h2
 · simp at h2; omega
 split at h2
 · simp at h2
 split at h2
 · simp at h2; omega
 · cases h2
theorem tX {p:Pa} (h:gY p=true):(∀ n∈p.s,1≤n∧n≤4294967295)∧p.s.length≤255∧0≤p.o∧p.o≤2∧0 < p.h∧p.h≤4294967295∧0≤p.c∧p.c≤4294967295:=by
 unfold gY at h
 simp only[Bool.and_eq_true,Bool.not_eq_true',List.any_eq_false,decide_eq_true_eq] at h
 refine⟨fun n hn=>?_,h.2.1,h.2.2.1,h.2.2.2.1,h.2.2.2.2.1,h.2.2.2.2.2.1,h.2.2.2.2.2.2.1,h.2.2.2.2.2.2.2⟩
 have:=h.1 n hn
 unfold Md at this
 simp only[Bool.or_eq_true,decide_eq_true_eq] at this
 omega
theorem Ua {p:Pa} (h1:∀ n∈p.s,1≤n∧n≤4294967295) (h2:p.s.length≤255) (h3:0≤p.o) (h4:p.o≤2) (h5:0 < p.h) (h6:p.h≤4294967295) (h7:0≤p.c) (h8:p.c≤4294967295):gY p=true:=by
 unfold gY
 simp only[Bool.and_eq_true,Bool.not_eq_true',List.any_eq_false,decide_eq_true_eq]
 refine⟨fun n hn=>?_,h2,h3,h4,h5,h6,h7,h8⟩
 have:=h1 n hn
 unfold Md
 simp only[Bool.or_eq_true,decide_eq_true_eq]
 omega
theorem DZ {a b:Int} (ha:0≤a) (hb:0 < b):0 < PI a b:=by unfold PI; split<;>omega
theorem XO {a b n:Int} (ha:a≤n) (hb:b≤n):PI a b≤n:=by unfold PI; split<;>omega
theorem vk {c:Cf} {k:Int} {x:Px} {r:Rt} {q:Pa} (h:jU c k x r=some q):dH c=true∧oh r=true∧gY q=true∧r.f≠k∧q.h=c.d∧q.o=r.p.o∧q.s.length≤32∧∃ n:Nat,1≤n∧n≤9∧q.s=List.replicate n c.a++r.p.s:=by
 obtain⟨h1,h2,h3,h4,h5,i,s,m,u,rfl,hi,hs,h6,h7,h8,h9,rfl⟩:=Bq h
 obtain⟨s1,s2,s3,s4,s5,s6⟩:=mP h1 hs
 obtain⟨c1,c2,c3,c4,c5⟩:=ou h1
 obtain⟨u1,u2⟩:=JV (s6 u (sW h6).1) h7
 have h3':=h3
 unfold oh at h3'
 simp only[Bool.and_eq_true] at h3'
 obtain⟨p1,p2,p3,p4,p5,p6,p7,p8⟩:=tX h3'.1
 refine⟨h1,h3,?_,h4,rfl,rfl,h9,(1+u.n).toNat,by omega,by omega,rfl⟩
 have hm:0≤m∧m≤4294967295:=by
  have:=DZ p7 c1
  have:=XO p8 c2
  unfold kL at h8
  repeat' split at h8
  all_goals first|(injection h8 with h8; omega)|cases h8
 refine Ua (fun n hn=>?_) (show(jV c u r).length≤255 by omega) p3 p4 c3 c4 hm.1 hm.2
 simp only[jV,List.mem_append,List.mem_replicate] at hn
 rcases hn with ⟨_,rfl⟩|hn
 · omega
 · exact p1 n hn
def Yg:Ru:=⟨0,⟨0,0⟩,0,0,0⟩
end
section
open Go.RowKit Go.Proofs
theorem abn (a b:Int):dw b a= - dw a b:=by
 unfold dw
 split<;>split<;>omega
theorem JG {a b:Int}:(dw a b < 0↔a < b)∧(dw a b≤0↔a≤b):=by
 unfold dw
 split
 · omega
 · split<;>omega
theorem Ox:∀ (l m:List Int),cmpL m l= - cmpL l m
 | [],[]=>rfl
 | [],_::_=>rfl
 |_::_,[]=>rfl
 |a::l,b::m=>by
  simp only[cmpL]
  by_cases h:a=b
  · rw[if_pos h,if_pos h.symm]; exact Ox l m
  · rw[if_neg h,if_neg (Ne.symm h)]; exact abn a b
theorem KH:∀ {l m k:List Int},cmpL l m≤0→cmpL m k≤0→cmpL l k≤0
 | [],_,[],_,_=>Int.le_refl _
 | [],_,_::_,_,_=>by show(-1:Int)≤0; decide
 |_::_,[],_,h,_=>absurd h (by show ¬ (1:Int)≤0; decide)
 |_::_,_::_,[],_,h=>absurd h (by show ¬ (1:Int)≤0; decide)
 |a::l,b::m,c::k,h1,h2=>by
  simp only[cmpL] at h1 h2 ⊢
  by_cases e1:a=b
  · subst e1
    rw[if_pos rfl] at h1
    by_cases e2:a=c
    · rw[if_pos e2] at h2 ⊢; exact KH h1 h2
    · rw[if_neg e2] at h2 ⊢; exact h2
  · rw[if_neg e1] at h1
    have h3:=JG.2.1 h1
    by_cases e2:b=c
    · subst e2
      rw[if_neg e1]; exact h1
    · rw[if_neg e2] at h2
      have h4:=JG.2.1 h2
      rw[if_neg (by omega)]
      exact JG.2.2 (by omega)
theorem GU:∀ {l m:List Int},l.length=m.length→∀ (t u:List Int),cmpL (l++t) (m++u)=if cmpL l m=0 then cmpL t u else cmpL l m
 | [],[],_,t,u=>by simp[cmpL]
 | [],_::_,h,_,_=>by simp at h
 |_::_,[],h,_,_=>by simp at h
 |a::l,b::m,h,t,u=>by
  have e1:cmpL (a::l) (b::m)=if a=b then cmpL l m else dw a b:=rfl
  have e2:cmpL (a::(l++t)) (b::(m++u))=if a=b then cmpL (l++t) (m++u) else dw a b:=rfl
  show cmpL (a::(l++t)) (b::(m++u))=_
  by_cases e:a=b
  · rw[if_pos e] at e1 e2
    rw[e1,e2]; exact GU (by simpa using h) t u
  · rw[if_neg e] at e1 e2
    rw[e1,e2,if_neg (fun h=>e (kR.1 h))]
def akS (r:Rt):List Int:=[-r.n,r.p.s.length,r.p.o]++(r.p.s++ [r.p.h,r.p.c,r.f])
theorem aaf (x y:Int) (l m:List Int):cmpL (x::l) (y::m)=if dw x y=0 then cmpL l m else dw x y:=by
 simp only[cmpL]
 by_cases e:x=y
 · rw[if_pos e,if_pos (kR.2 e)]
 · rw[if_neg e,if_neg (fun h=>e (kR.1 h))]
theorem afh (a b:Int):dw (-a) (-b)=dw b a:=by
 unfold dw
 split<;>split<;>first|rfl|omega|(split<;>first|rfl|omega)
theorem JH (a b:Rt):jy a b=cmpL (akS a) (akS b):=by
 unfold jy akS
 simp only[xk,List.cons_append,List.nil_append,aaf,afh]
 by_cases h1:dw b.n a.n=0
 case neg=>rw[if_neg h1,if_neg h1]
 rw[if_pos h1,if_pos h1]
 by_cases h2:dw (a.p.s.length:Int) (b.p.s.length:Int)=0
 case neg=>rw[if_neg h2,if_neg h2]
 rw[if_pos h2,if_pos h2]
 by_cases h3:dw a.p.o b.p.o=0
 case neg=>rw[if_neg h3,if_neg h3]
 rw[if_pos h3,if_pos h3,GU (by have:=kR.1 h2; omega)]
 simp only[aaf]
 rfl
theorem F5 (a b:Rt):jy b a= - jy a b:=by rw[JH,JH,Ox]
theorem yS {a b c:Rt} (h1:jy a b≤0) (h2:jy b c≤0):jy a c≤0:=by
 rw[JH] at h1 h2 ⊢; exact KH h1 h2
def qw:List Rt→Option Rt
 | []=>none
 |r::l=>some (l.foldl (fun b r=>if jy r b < 0 then r else b) r)
theorem FV:∀ (l:List Rt) (b:Rt),(l.foldl (fun b r=>if jy r b < 0 then r else b) b=b∨l.foldl (fun b r=>if jy r b < 0 then r else b) b∈l)∧jy (l.foldl (fun b r=>if jy r b < 0 then r else b) b) b≤0∧∀ r∈l,jy (l.foldl (fun b r=>if jy r b < 0 then r else b) b) r≤0
 | [],b=>⟨.inl rfl,by show jy b b≤0; rw[AV.2 rfl]; exact Int.le_refl _,by simp⟩
 |x::l,b=>by
  rw[List.foldl_cons]
  by_cases h:jy x b < 0
  · rw[if_pos h]
    obtain⟨h1,h2,h3⟩:=FV l x
    refine⟨.inr ?_,yS h2 (by omega),fun r hr=>(List.mem_cons.1 hr).elim (fun e=>e ▸ h2) (h3 r)⟩
    rcases h1 with h1|h1
    · rw[h1]; exact List.mem_cons_self
    · exact List.mem_cons_of_mem _ h1
  · rw[if_neg h]
    obtain⟨h1,h2,h3⟩:=FV l b
    refine⟨h1.imp id (List.mem_cons_of_mem _),h2,fun r hr=>(List.mem_cons.1 hr).elim (fun e=>?_) (h3 r)⟩
    subst e
    have h4:jy b r≤0:=by have:=F5 b r; omega
    exact yS h2 h4
theorem mY {l:List Rt} {r:Rt} (h:qw l=some r):r∈l∧∀ q∈l,jy r q≤0:=by
 cases l with
 |nil=>cases h
 |cons x l=>
  simp only[qw,Option.some.injEq] at h
  obtain⟨h1,h2,h3⟩:=FV l x
  rw[h] at h1 h2 h3
  exact⟨h1.elim (fun e=>e ▸ List.mem_cons_self) (List.mem_cons_of_mem _),fun q hq=>(List.mem_cons.1 hq).elim (fun e=>e ▸ h2) (h3 q)⟩
end
section
open Go.RowKit Go.Proofs
variable [Lv]
def sRp (l:List T) (j:Int):St:=⟨slots 48 [(7,.own 0),(8,.t (i64 j))],[.row 3 1 l]⟩
def sCc (l:List (List Int)) (n i:Int):St:=⟨slots 36 [(0,.t (.sl 1 (l.map fun a=> .sl 1 (ints a)))),(3,.t (i64 n)),(9,.t (.sl 1 (l.map fun a=> .sl 1 (ints a)))),(10,.t (i64 l.length)),(11,.t (i64 i))],[]⟩
def agT (l:List (List Int)) (r:List Int) (i:Int):St:=⟨slots 36 [(6,.own 0),(25,.t (.sl 1 (l.map fun a=> .sl 1 (ints a)))),(26,.t (i64 l.length)),(27,.t (i64 i))],[.row 3 1 (ints r)]⟩
def sCm (l m:List Int) (i:Int):St:=⟨slots 36 [(0,.t (.sl 1 (ints l))),(1,.t (.sl 1 (ints m))),(9,.t (.sl 1 (ints l))),(10,.t (i64 l.length)),(11,.t (i64 i))],[]⟩
theorem arI (N:Nat) (a n:Int):ak env (N+1) 123 [.sl 1 [i64 a],i64 n]=W [.sl 1 [i64 a],i64 n] (bif decide (n < 0) then ah.stuck else cl N 156 [T.int IntKind.u64 (IntKind.u64.wrap (↑1:Int)),T.int IntKind.u64 (IntKind.u64.wrap n)] fun x=>aG x 0 fun y=>aG x 1 fun y_1=>iT IntKind.u64 y fun a_1=>bif decide (a_1 > 0) then ah.stuck else iT IntKind.u64 y_1 fun a_2=>bif decide (a_2 > 9223372036854775807) then ah.stuck else iT IntKind.u64 y_1 fun n=>chk (decide (0≤IntKind.i64.wrap n)&&decide (IntKind.i64.wrap n≤IntKind.i64.wrap n)&&decide ((IntKind.i64.wrap n).toNat*8≤140737488355328)) (chk (decide ((List.replicate (IntKind.i64.wrap n).toNat (i64 0)).length≤(List.replicate (IntKind.i64.wrap n).toNat (i64 0)).length)) (bC env N 123 8 (sRp (fQ (List.replicate (IntKind.i64.wrap n).toNat (i64 0)) 0 (List.take (List.replicate (IntKind.i64.wrap n).toNat (i64 0)).length [i64 a])) (↑(min 1 (List.replicate (IntKind.i64.wrap n).toNat (i64 0)).length):Int))))):=by kernel_rfl
theorem ad9 (N:Nat) (l:List T) (j:Int):aF env N 123 0 8 (sRp l j)=bif decide (j < (↑l.length:Int)) then chk (decide (0≤j)&&decide (j≤(↑l.length:Int))) (chk (decide (0≤j)&&decide (j≤(↑l.length:Int))) (bif decide (0+j.toNat≤l.length) then chk (decide (0+j.toNat≤0+l.length)&&decide (0+l.length≤l.length)) (ah.ok (Ex.norm,sRp (fQ l (0+j.toNat) (List.take (0+l.length - (0+j.toNat)) (List.drop 0 (List.take (0+j.toNat) l)))) (IntKind.i64.wrap (j+(↑(min (List.drop 0 (List.take (0+j.toNat) l)).length (0+l.length - (0+j.toNat))):Int))))) else ah.stuck)) else ah.ok (Ex.exit 0,{tmps:=slots 48 [(7,.own 0)],heap:=[aj.row 3 1 l]}):=by kernel_rfl
theorem Sv (N:Nat) (l:List T) (j:Int):aP env N 123 0 8 (aW env 123) (.exit 0) (⟨slots 48 [(7,.own 0)],[.row 3 1 l]⟩)=ah.ok (T.sl 1 l):=by kernel_rfl
theorem ar8 (N:Nat) (a b:Int):ak env (N+1) 156 [.int .u64 a,.int .u64 b]=W [.int .u64 a,.int .u64 b] (cl N 195 [T.int IntKind.u64 a,T.int IntKind.u64 b] fun x=>aG x 0 fun y=>aG x 1 fun y_1=>ah.ok (T.au [y,y_1])):=by kernel_rfl
theorem asz (N:Nat) (a b:Int):ak env (N+1) 195 [.int .u64 a,.int .u64 b]=W [.int .u64 a,.int .u64 b] (ah.ok (T.au [T.int IntKind.u64 (IntKind.u64.wrap (IntKind.u64.wrap (IntKind.u64.wrap (a.fdiv 4294967296*b.fdiv 4294967296)+(IntKind.u64.wrap (IntKind.u64.wrap (a.fdiv 4294967296*IntKind.u64.wrap (↑(BitVec.ofInt 64 b&&& BitVec.ofInt 64 4294967295).toNat:Int))+(IntKind.u64.wrap (IntKind.u64.wrap (↑(BitVec.ofInt 64 a&&& BitVec.ofInt 64 4294967295).toNat:Int)*IntKind.u64.wrap (↑(BitVec.ofInt 64 b&&& BitVec.ofInt 64 4294967295).toNat:Int))).fdiv 4294967296)).fdiv 4294967296)+(IntKind.u64.wrap (IntKind.u64.wrap (↑(BitVec.ofInt 64 (IntKind.u64.wrap (IntKind.u64.wrap (a.fdiv 4294967296*IntKind.u64.wrap (↑(BitVec.ofInt 64 b&&& BitVec.ofInt 64 4294967295).toNat:Int))+(IntKind.u64.wrap (IntKind.u64.wrap (↑(BitVec.ofInt 64 a&&& BitVec.ofInt 64 4294967295).toNat:Int)*IntKind.u64.wrap (↑(BitVec.ofInt 64 b&&& BitVec.ofInt 64 4294967295).toNat:Int))).fdiv 4294967296))&&& BitVec.ofInt 64 4294967295).toNat:Int)+IntKind.u64.wrap (IntKind.u64.wrap (↑(BitVec.ofInt 64 a&&& BitVec.ofInt 64 4294967295).toNat:Int)*b.fdiv 4294967296))).fdiv 4294967296)),T.int IntKind.u64 (IntKind.u64.wrap (a*b))])):=by kernel_rfl
theorem arH (N:Nat) (l:List (List Int)):ak env (N+1) 122 [.sl 1 (l.map fun a=> .sl 1 (ints a))]=W [.sl 1 (l.map fun a=> .sl 1 (ints a))] (bC env N 122 3 {tmps:=slots 36 [(0,.t (.sl 1 (List.map (fun a=>T.sl 1 (ints a)) l))),(3,.t (i64 0)),(9,.t (.sl 1 (List.map (fun a=>T.sl 1 (ints a)) l))),(10,.t (i64 (↑(List.map (fun a=>T.sl 1 (ints a)) l).length:Int))),(11,.t (i64 0))],heap:=[]}):=by kernel_rfl
theorem ad8 (N:Nat) (l:List (List Int)) (n i:Int):aF env N 122 0 3 (sCc l n i)=bif decide (i < (↑l.length:Int)) then bK (List.map (fun a=>T.sl 1 (ints a)) l) i fun e=>iO e fun n_1=>bif decide (IntKind.i64.wrap (n+n_1) < 0) then ah.stuck else ah.ok (Ex.norm,sCc l (IntKind.i64.wrap (n+n_1)) (IntKind.i64.wrap (i+1))) else ah.ok (Ex.exit 0,{tmps:=slots 36 [(0,.t (.sl 1 (List.map (fun a=>T.sl 1 (ints a)) l))),(3,.t (i64 n))],heap:=[]}):=by kernel_rfl
theorem Sr (N:Nat) (l:List (List Int)) (n:Int):aP env N 122 0 3 (aW env 122) (.exit 0) (⟨slots 36 [(0,.t (.sl 1 (l.map fun a=> .sl 1 (ints a)))),(3,.t (i64 n))],[]⟩)=(bif decide (0≤n)&&decide ((0+n.toNat)*8≤140737488355328) then ah.ok [] else ah.stuck).bind fun ys=>bC env N 122 11 {tmps:=slots 36 [(6,.own 0),(25,.t (.sl 1 (List.map (fun a=>T.sl 1 (ints a)) l))),(26,.t (i64 (↑(List.map (fun a=>T.sl 1 (ints a)) l).length:Int))),(27,.t (i64 0))],heap:=[aj.row 3 1 ys]}:=by kernel_rfl
theorem Z5 (N:Nat) (l:List (List Int)) (r:List Int) (i:Int):aF env N 122 0 11 (agT l r i)=bif decide (i < (↑l.length:Int)) then bK (List.map (fun a=>T.sl 1 (ints a)) l) i fun e=>qW 1 e fun ys=>chk (decide (((ints r).length+ys.length)*8≤140737488355328)) (ah.ok (Ex.norm,{tmps:=slots 36 [(6,.own 0),(25,.t (.sl 1 (List.map (fun a=>T.sl 1 (ints a)) l))),(26,.t (i64 (↑l.length:Int))),(27,.t (i64 (IntKind.i64.wrap (i+1))))],heap:=[aj.row 3 1 (ints r++ys)]})) else ah.ok (Ex.exit 2,{tmps:=slots 36 [(6,.own 0)],heap:=[aj.row 3 1 (ints r)]}):=by kernel_rfl
theorem Ob (N:Nat) (l:List (List Int)) (r:List Int):aP env N 122 0 11 (aW env 122) (.exit 2) (⟨slots 36 [(6,.own 0)],[.row 3 1 (ints r)]⟩)=ah.ok (T.sl 1 (ints r)):=by kernel_rfl
theorem q97 (N:Nat) (l m:List Int):ak env (N+1) 97 [.sl 1 (ints l),.sl 1 (ints m)]=W [.sl 1 (ints l),.sl 1 (ints m)] (bC env N 97 2 {tmps:=slots 36 [(0,.t (.sl 1 (ints l))),(1,.t (.sl 1 (ints m))),(9,.t (.sl 1 (ints l))),(10,.t (i64 (↑(ints l).length:Int))),(11,.t (i64 0))],heap:=[]}):=by kernel_rfl
theorem aj0 (N:Nat) (l m:List Int) (i:Int):aF env N 97 0 2 (sCm l m i)=bif decide (i < (↑l.length:Int)) then bK (ints l) i fun e=>bif decide (i≥(↑(ints m).length:Int)) then ah.ok (Ex.ret,{tmps:=slots 36 [(4,.t (i64 1))],heap:=[]}) else bK (ints m) i fun e_1=>cl N 96 [e,e_1] fun x=>iT IntKind.i64 x fun a=>bif a !=0 then ah.ok (Ex.ret,{tmps:=slots 36 [(4,.t x)],heap:=[]}) else ah.ok (Ex.norm,sCm l m (IntKind.i64.wrap (i+1))) else ah.ok (Ex.exit 0,{tmps:=slots 36 [(0,.t (.sl 1 (ints l))),(1,.t (.sl 1 (ints m)))],heap:=[]}):=by kernel_rfl
theorem Qe (N:Nat) (n:Int):aP env N 97 0 2 (aW env 97) (.ret) (⟨slots 36 [(4,.t (i64 n))],[]⟩)=rI n:=by kernel_rfl
theorem Xj (N:Nat) (l m:List Int):aP env N 97 0 2 (aW env 97) (.exit 0) (⟨slots 36 [(0,.t (.sl 1 (ints l))),(1,.t (.sl 1 (ints m)))],[]⟩)=bif decide ((↑(ints l).length:Int) < (↑(ints m).length:Int)) then rI (-1) else rI 0:=by kernel_rfl
theorem q96 (N:Nat) (a b:Int):ak env (N+1) 96 [i64 a,i64 b]=W [i64 a,i64 b] (cl N 132 [i64 a] fun x=>cl N 132 [i64 b] fun x_1=>bT x fun v=>bif v then bT x_1 fun v=>bif v then rI 0 else rI (-1) else bT x_1 fun v=>bif v then rI 1 else bif decide (a < b) then rI (-1) else bif decide (a > b) then rI 1 else rI 0):=by kernel_rfl
theorem arN (N:Nat) (a:Int):ak env (N+1) 132 [i64 a]=W [i64 a] (rB (a !=a)):=by kernel_rfl
theorem q30 (N:Nat) (a b:Rt):ak env (N+1) 30 [a.t,b.t]=W [a.t,b.t] (bW (T.mF 1) [T.fn 63 [T.agg [i64 a.n,i64 a.p.o,T.sl 1 (ints a.p.s),i64 a.p.h,i64 a.p.c,i64 a.f,i64 b.n,i64 b.p.o,T.sl 1 (ints b.p.s),i64 b.p.h,i64 b.p.c,i64 b.f]] [],T.fn 64 [T.agg [i64 a.n,i64 a.p.o,T.sl 1 (ints a.p.s),i64 a.p.h,i64 a.p.c,i64 a.f,i64 b.n,i64 b.p.o,T.sl 1 (ints b.p.s),i64 b.p.h,i64 b.p.c,i64 b.f]] [],T.fn 65 [T.agg [i64 a.n,i64 a.p.o,T.sl 1 (ints a.p.s),i64 a.p.h,i64 a.p.c,i64 a.f,i64 b.n,i64 b.p.o,T.sl 1 (ints b.p.s),i64 b.p.h,i64 b.p.c,i64 b.f]] [],T.fn 66 [T.agg [i64 a.n,i64 a.p.o,T.sl 1 (ints a.p.s),i64 a.p.h,i64 a.p.c,i64 a.f,i64 b.n,i64 b.p.o,T.sl 1 (ints b.p.s),i64 b.p.h,i64 b.p.c,i64 b.f]] [],T.fn 67 [T.agg [i64 a.n,i64 a.p.o,T.sl 1 (ints a.p.s),i64 a.p.h,i64 a.p.c,i64 a.f,i64 b.n,i64 b.p.o,T.sl 1 (ints b.p.s),i64 b.p.h,i64 b.p.c,i64 b.f]] [],T.fn 68 [T.agg [i64 a.n,i64 a.p.o,T.sl 1 (ints a.p.s),i64 a.p.h,i64 a.p.c,i64 a.f,i64 b.n,i64 b.p.o,T.sl 1 (ints b.p.s),i64 b.p.h,i64 b.p.c,i64 b.f]] [],T.fn 69 [T.agg [i64 a.n,i64 a.p.o,T.sl 1 (ints a.p.s),i64 a.p.h,i64 a.p.c,i64 a.f,i64 b.n,i64 b.p.o,T.sl 1 (ints b.p.s),i64 b.p.h,i64 b.p.c,i64 b.f]] []] (bC env N 30 3 {tmps:=slots 38 [(26,.own 0),(27,.t (i64 (↑7:Int))),(28,.t (i64 0))],heap:=[aj.row 97 1 [T.fn 63 [T.agg [i64 a.n,i64 a.p.o,T.sl 1 (ints a.p.s),i64 a.p.h,i64 a.p.c,i64 a.f,i64 b.n,i64 b.p.o,T.sl 1 (ints b.p.s),i64 b.p.h,i64 b.p.c,i64 b.f]] [],T.fn 64 [T.agg [i64 a.n,i64 a.p.o,T.sl 1 (ints a.p.s),i64 a.p.h,i64 a.p.c,i64 a.f,i64 b.n,i64 b.p.o,T.sl 1 (ints b.p.s),i64 b.p.h,i64 b.p.c,i64 b.f]] [],T.fn 65 [T.agg [i64 a.n,i64 a.p.o,T.sl 1 (ints a.p.s),i64 a.p.h,i64 a.p.c,i64 a.f,i64 b.n,i64 b.p.o,T.sl 1 (ints b.p.s),i64 b.p.h,i64 b.p.c,i64 b.f]] [],T.fn 66 [T.agg [i64 a.n,i64 a.p.o,T.sl 1 (ints a.p.s),i64 a.p.h,i64 a.p.c,i64 a.f,i64 b.n,i64 b.p.o,T.sl 1 (ints b.p.s),i64 b.p.h,i64 b.p.c,i64 b.f]] [],T.fn 67 [T.agg [i64 a.n,i64 a.p.o,T.sl 1 (ints a.p.s),i64 a.p.h,i64 a.p.c,i64 a.f,i64 b.n,i64 b.p.o,T.sl 1 (ints b.p.s),i64 b.p.h,i64 b.p.c,i64 b.f]] [],T.fn 68 [T.agg [i64 a.n,i64 a.p.o,T.sl 1 (ints a.p.s),i64 a.p.h,i64 a.p.c,i64 a.f,i64 b.n,i64 b.p.o,T.sl 1 (ints b.p.s),i64 b.p.h,i64 b.p.c,i64 b.f]] [],T.fn 69 [T.agg [i64 a.n,i64 a.p.o,T.sl 1 (ints a.p.s),i64 a.p.h,i64 a.p.c,i64 a.f,i64 b.n,i64 b.p.o,T.sl 1 (ints b.p.s),i64 b.p.h,i64 b.p.c,i64 b.f]] []]]})):=by kernel_rfl
end
section
open Go.RowKit Go.Proofs
variable [Lv]
def xE (a b:Rt):T:=T.agg [i64 a.n,i64 a.p.o,T.sl 1 (ints a.p.s),i64 a.p.h,i64 a.p.c,i64 a.f,i64 b.n,i64 b.p.o,T.sl 1 (ints b.p.s),i64 b.p.h,i64 b.p.c,i64 b.f]
def MX (a b:Rt):List T:=[T.fn 63 [xE a b] [],T.fn 64 [xE a b] [],T.fn 65 [xE a b] [],T.fn 66 [xE a b] [],T.fn 67 [xE a b] [],T.fn 68 [xE a b] [],T.fn 69 [xE a b] []]
def atb (a b:Rt):St:=⟨slots 38 [(26,.own 0),(27,.t (i64 7)),(28,.t (i64 0))],[.row 97 1 (MX a b)]⟩
def atc (a b:Rt):St:=⟨slots 38 [(26,.own 0),(27,.t (i64 7)),(28,.t (i64 1))],[.row 97 1 (MX a b)]⟩
def atd (a b:Rt):St:=⟨slots 38 [(26,.own 0),(27,.t (i64 7)),(28,.t (i64 2))],[.row 97 1 (MX a b)]⟩
def ate (a b:Rt):St:=⟨slots 38 [(26,.own 0),(27,.t (i64 7)),(28,.t (i64 3))],[.row 97 1 (MX a b)]⟩
def atf (a b:Rt):St:=⟨slots 38 [(26,.own 0),(27,.t (i64 7)),(28,.t (i64 4))],[.row 97 1 (MX a b)]⟩
def atg (a b:Rt):St:=⟨slots 38 [(26,.own 0),(27,.t (i64 7)),(28,.t (i64 5))],[.row 97 1 (MX a b)]⟩
def ath (a b:Rt):St:=⟨slots 38 [(26,.own 0),(27,.t (i64 7)),(28,.t (i64 6))],[.row 97 1 (MX a b)]⟩
def ati (a b:Rt):St:=⟨slots 38 [(26,.own 0),(27,.t (i64 7)),(28,.t (i64 7))],[.row 97 1 (MX a b)]⟩
def TI (a:Rt) (b:Rt):List aj:=[aj.row 97 1 [T.fn 63 [T.agg [i64 a.n,i64 a.p.o,T.sl 1 (ints a.p.s),i64 a.p.h,i64 a.p.c,i64 a.f,i64 b.n,i64 b.p.o,T.sl 1 (ints b.p.s),i64 b.p.h,i64 b.p.c,i64 b.f]] [],T.fn 64 [T.agg [i64 a.n,i64 a.p.o,T.sl 1 (ints a.p.s),i64 a.p.h,i64 a.p.c,i64 a.f,i64 b.n,i64 b.p.o,T.sl 1 (ints b.p.s),i64 b.p.h,i64 b.p.c,i64 b.f]] [],T.fn 65 [T.agg [i64 a.n,i64 a.p.o,T.sl 1 (ints a.p.s),i64 a.p.h,i64 a.p.c,i64 a.f,i64 b.n,i64 b.p.o,T.sl 1 (ints b.p.s),i64 b.p.h,i64 b.p.c,i64 b.f]] [],T.fn 66 [T.agg [i64 a.n,i64 a.p.o,T.sl 1 (ints a.p.s),i64 a.p.h,i64 a.p.c,i64 a.f,i64 b.n,i64 b.p.o,T.sl 1 (ints b.p.s),i64 b.p.h,i64 b.p.c,i64 b.f]] [],T.fn 67 [T.agg [i64 a.n,i64 a.p.o,T.sl 1 (ints a.p.s),i64 a.p.h,i64 a.p.c,i64 a.f,i64 b.n,i64 b.p.o,T.sl 1 (ints b.p.s),i64 b.p.h,i64 b.p.c,i64 b.f]] [],T.fn 68 [T.agg [i64 a.n,i64 a.p.o,T.sl 1 (ints a.p.s),i64 a.p.h,i64 a.p.c,i64 a.f,i64 b.n,i64 b.p.o,T.sl 1 (ints b.p.s),i64 b.p.h,i64 b.p.c,i64 b.f]] [],T.fn 69 [T.agg [i64 a.n,i64 a.p.o,T.sl 1 (ints a.p.s),i64 a.p.h,i64 a.p.c,i64 a.f,i64 b.n,i64 b.p.o,T.sl 1 (ints b.p.s),i64 b.p.h,i64 b.p.c,i64 b.f]] []]]
theorem aoO (N:Nat) (a b:Rt):aF env N 30 0 3 (atb a b)=cl N 63 [T.agg [i64 a.n,i64 a.p.o,T.sl 1 (ints a.p.s),i64 a.p.h,i64 a.p.c,i64 a.f,i64 b.n,i64 b.p.o,T.sl 1 (ints b.p.s),i64 b.p.h,i64 b.p.c,i64 b.f]] fun r=>iT IntKind.i64 r fun a_1=>bif a_1 !=0 then ah.ok (Ex.ret,{tmps:=slots 38 [(4,.t r)],heap:=[]}) else ah.ok (Ex.norm,{tmps:=slots 38 [(26,.own 0),(27,.t (i64 7)),(28,.t (i64 1))],heap:=(TI a b)}):=by kernel_rfl
theorem aht (N:Nat) (a b:Rt):aF env N 30 0 3 (atc a b)=cl N 64 [T.agg [i64 a.n,i64 a.p.o,T.sl 1 (ints a.p.s),i64 a.p.h,i64 a.p.c,i64 a.f,i64 b.n,i64 b.p.o,T.sl 1 (ints b.p.s),i64 b.p.h,i64 b.p.c,i64 b.f]] fun r=>iT IntKind.i64 r fun a_1=>bif a_1 !=0 then ah.ok (Ex.ret,{tmps:=slots 38 [(4,.t r)],heap:=[]}) else ah.ok (Ex.norm,{tmps:=slots 38 [(26,.own 0),(27,.t (i64 7)),(28,.t (i64 2))],heap:=(TI a b)}):=by kernel_rfl
theorem ahu (N:Nat) (a b:Rt):aF env N 30 0 3 (atd a b)=cl N 65 [T.agg [i64 a.n,i64 a.p.o,T.sl 1 (ints a.p.s),i64 a.p.h,i64 a.p.c,i64 a.f,i64 b.n,i64 b.p.o,T.sl 1 (ints b.p.s),i64 b.p.h,i64 b.p.c,i64 b.f]] fun r=>iT IntKind.i64 r fun a_1=>bif a_1 !=0 then ah.ok (Ex.ret,{tmps:=slots 38 [(4,.t r)],heap:=[]}) else ah.ok (Ex.norm,{tmps:=slots 38 [(26,.own 0),(27,.t (i64 7)),(28,.t (i64 3))],heap:=(TI a b)}):=by kernel_rfl
theorem ahv (N:Nat) (a b:Rt):aF env N 30 0 3 (ate a b)=cl N 66 [T.agg [i64 a.n,i64 a.p.o,T.sl 1 (ints a.p.s),i64 a.p.h,i64 a.p.c,i64 a.f,i64 b.n,i64 b.p.o,T.sl 1 (ints b.p.s),i64 b.p.h,i64 b.p.c,i64 b.f]] fun r=>iT IntKind.i64 r fun a_1=>bif a_1 !=0 then ah.ok (Ex.ret,{tmps:=slots 38 [(4,.t r)],heap:=[]}) else ah.ok (Ex.norm,{tmps:=slots 38 [(26,.own 0),(27,.t (i64 7)),(28,.t (i64 4))],heap:=(TI a b)}):=by kernel_rfl
theorem ahw (N:Nat) (a b:Rt):aF env N 30 0 3 (atf a b)=cl N 67 [T.agg [i64 a.n,i64 a.p.o,T.sl 1 (ints a.p.s),i64 a.p.h,i64 a.p.c,i64 a.f,i64 b.n,i64 b.p.o,T.sl 1 (ints b.p.s),i64 b.p.h,i64 b.p.c,i64 b.f]] fun r=>iT IntKind.i64 r fun a_1=>bif a_1 !=0 then ah.ok (Ex.ret,{tmps:=slots 38 [(4,.t r)],heap:=[]}) else ah.ok (Ex.norm,{tmps:=slots 38 [(26,.own 0),(27,.t (i64 7)),(28,.t (i64 5))],heap:=(TI a b)}):=by kernel_rfl
theorem ahx (N:Nat) (a b:Rt):aF env N 30 0 3 (atg a b)=cl N 68 [T.agg [i64 a.n,i64 a.p.o,T.sl 1 (ints a.p.s),i64 a.p.h,i64 a.p.c,i64 a.f,i64 b.n,i64 b.p.o,T.sl 1 (ints b.p.s),i64 b.p.h,i64 b.p.c,i64 b.f]] fun r=>iT IntKind.i64 r fun a_1=>bif a_1 !=0 then ah.ok (Ex.ret,{tmps:=slots 38 [(4,.t r)],heap:=[]}) else ah.ok (Ex.norm,{tmps:=slots 38 [(26,.own 0),(27,.t (i64 7)),(28,.t (i64 6))],heap:=(TI a b)}):=by kernel_rfl
theorem ahy (N:Nat) (a b:Rt):aF env N 30 0 3 (ath a b)=cl N 69 [T.agg [i64 a.n,i64 a.p.o,T.sl 1 (ints a.p.s),i64 a.p.h,i64 a.p.c,i64 a.f,i64 b.n,i64 b.p.o,T.sl 1 (ints b.p.s),i64 b.p.h,i64 b.p.c,i64 b.f]] fun r=>iT IntKind.i64 r fun a_1=>bif a_1 !=0 then ah.ok (Ex.ret,{tmps:=slots 38 [(4,.t r)],heap:=[]}) else ah.ok (Ex.norm,{tmps:=slots 38 [(26,.own 0),(27,.t (i64 7)),(28,.t (i64 7))],heap:=(TI a b)}):=by kernel_rfl
theorem ahz (N:Nat) (a b:Rt):aF env N 30 0 3 (ati a b)=ah.ok (Ex.exit 0,{tmps:=slots 38 [],heap:=[]}):=by kernel_rfl
theorem acZ (N:Nat) (n:Int):aP env N 30 0 3 (aW env 30) (.ret) (⟨slots 38 [(4,.t (i64 n))],[]⟩)=rI n:=by kernel_rfl
theorem WE (N:Nat):aP env N 30 0 3 (aW env 30) (.exit 0) (⟨slots 38 [],[]⟩)=rI 0:=by kernel_rfl
theorem q63 (N:Nat) (a b:Rt):ak env (N+1) 63 [xE a b]=W [xE a b] (cl N 96 [i64 b.n,i64 a.n] fun x=>ah.ok x):=by kernel_rfl
theorem q64 (N:Nat) (a b:Rt):ak env (N+1) 64 [xE a b]=W [xE a b] (cl N 96 [i64 (↑(ints a.p.s).length:Int),i64 (↑(ints b.p.s).length:Int)] fun x=>ah.ok x):=by kernel_rfl
theorem q65 (N:Nat) (a b:Rt):ak env (N+1) 65 [xE a b]=W [xE a b] (cl N 96 [i64 a.p.o,i64 b.p.o] fun x=>ah.ok x):=by kernel_rfl
theorem q66 (N:Nat) (a b:Rt):ak env (N+1) 66 [xE a b]=W [xE a b] (cl N 97 [T.sl 1 (ints a.p.s),T.sl 1 (ints b.p.s)] fun x=>ah.ok x):=by kernel_rfl
theorem q67 (N:Nat) (a b:Rt):ak env (N+1) 67 [xE a b]=W [xE a b] (cl N 96 [i64 a.p.h,i64 b.p.h] fun x=>ah.ok x):=by kernel_rfl
theorem q68 (N:Nat) (a b:Rt):ak env (N+1) 68 [xE a b]=W [xE a b] (cl N 96 [i64 a.p.c,i64 b.p.c] fun x=>ah.ok x):=by kernel_rfl
theorem q69 (N:Nat) (a b:Rt):ak env (N+1) 69 [xE a b]=W [xE a b] (cl N 96 [i64 a.f,i64 b.f] fun x=>ah.ok x):=by kernel_rfl
end
end Go.aT
