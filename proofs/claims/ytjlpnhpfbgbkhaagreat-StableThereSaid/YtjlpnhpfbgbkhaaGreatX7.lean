/- The texts of a proof, one behind the other: an interpreter and its soundness, what the functions of the program answer, and plain laws on that. -/
import Derived.Test.YtjlpnhpfbgbkhaaGreatX1
import Derived.Test.YtjlpnhpfbgbkhaaGreatK9
import Derived.Test.YtjlpnhpfbgbkhaaGreatX4
import Derived.Test.YtjlpnhpfbgbkhaaGreatX3
import Derived.Test.YtjlpnhpfbgbkhaaGreatX2
import Derived.Test.YtjlpnhpfbgbkhaaGreatX6
set_option linter.unusedVariables false
set_option linter.unusedSimpArgs false
set_option linter.unnecessarySimpa false
set_option linter.unusedSectionVars false
set_option maxRecDepth 100000
namespace Go.aP
section
open Go.RowKit Go.Proofs
variable [Lv]
def wC:List PV:=[.fn 112 [] [.ptr 0 0,.ptr 1 0,.ptr 2 0,.ptr 3 0],.fn 115 [] [.ptr 3 0,.ptr 1 0,.ptr 0 0],.fn 116 [] [.ptr 0 0,.ptr 1 0,.ptr 2 0,.ptr 3 0,.ptr 5 0],.fn 119 [] [.ptr 0 0,.ptr 1 0,.ptr 3 0,.ptr 6 0],.fn 121 [] [.ptr 0 0,.ptr 5 0,.ptr 3 0,.ptr 6 0]]
def aj0 (c:Cf) (k:Int) (x:Px) (v:Rt) (r:T):List ah:=[.box 56 6 (.t c.t),.box 3 1 (.t (i64 k)),.box 25 2 (.t x.t),.box 44 6 (.t v.t),.box 42 4 (.agg [.t (i64 0),.nil 3 1,.t (i64 0),.t (i64 0)]),.box 123 6 (.t r),.box 42 4 (.agg [.t (i64 v.p.o),.nil 3 1,.t (i64 c.d),.t (i64 0)]),.vec 26 1 5 wC]
def BK (c:Cf) (k:Int) (x:Px) (v:Rt) (r:T) (o:Int):List ah:=[.box 56 6 (.t c.t),.box 3 1 (.t (i64 k)),.box 25 2 (.t x.t),.box 44 6 (.t v.t),.box 42 4 (.agg [.t (i64 0),.own 8,.t (i64 0),.t (i64 0)]),.box 123 6 (.t r),.box 42 4 (.agg [.t (i64 v.p.o),.own 9,.t (i64 c.d),.t (i64 o)]),.vec 26 1 5 wC,.row 3 1 [],.row 3 1 []]
def Yv (c:Cf) (k:Int) (x:Px) (v:Rt) (r:T) (o:Int) (s:T) (f:List T):List ah:=[.box 56 6 (.t c.t),.box 3 1 (.t (i64 k)),.box 25 2 (.t x.t),.box 44 6 (.t v.t),.box 42 4 (.agg [.t (i64 0),.own 8,.t (i64 0),.t (i64 0)]),.box 123 6 (.t r),.box 42 4 (.t (.agg [i64 v.p.o,s,i64 c.d,i64 o])),.vec 26 1 5 wC,.row 3 1 [],.row 3 1 [],.jR 31 1 f]
def ug (c:Cf) (k:Int) (x:Px) (v:Rt):List ah:=[ah.box 56 6 (PV.t c.t),ah.box 3 1 (PV.t (i64 k)),ah.box 25 2 (PV.t x.t),ah.box 44 6 (PV.t v.t),ah.box 42 4 (PV.agg [PV.t (i64 0),PV.own 8,PV.t (i64 0),PV.t (i64 0)]),ah.box 123 6 (PV.t (T.agg [i64 0,i64 0,i64 0,i64 0,i64 0,i64 0])),ah.box 42 4 (PV.agg [PV.t (i64 v.p.o),PV.own 9,PV.t (i64 c.d),PV.t (i64 0)]),ah.vec 26 1 5 [PV.fn 112 [] [PV.ptr 0 0,PV.ptr 1 0,PV.ptr 2 0,PV.ptr 3 0],PV.fn 115 [] [PV.ptr 3 0,PV.ptr 1 0,PV.ptr 0 0],PV.fn 116 [] [PV.ptr 0 0,PV.ptr 1 0,PV.ptr 2 0,PV.ptr 3 0,PV.ptr 5 0],PV.fn 119 [] [PV.ptr 0 0,PV.ptr 1 0,PV.ptr 3 0,PV.ptr 6 0],PV.fn 121 [] [PV.ptr 0 0,PV.ptr 5 0,PV.ptr 3 0,PV.ptr 6 0]],ah.row 3 1 [],ah.row 3 1 []]
def xH (c:Cf) (k:Int) (x:Px) (v:Rt) (o:Int):List ah:=[ah.box 56 6 (PV.t c.t),ah.box 3 1 (PV.t (i64 k)),ah.box 25 2 (PV.t x.t),ah.box 44 6 (PV.t v.t),ah.box 42 4 (PV.agg [PV.t (i64 0),PV.own 8,PV.t (i64 0),PV.t (i64 0)]),ah.box 123 6 (PV.t (T.agg [i64 0,i64 0,i64 0,i64 0,i64 0,i64 0])),ah.box 42 4 (PV.agg [PV.t (i64 v.p.o),PV.own 9,PV.t (i64 c.d),PV.t (i64 0)]),ah.vec 26 1 5 [PV.fn 112 [] [PV.ptr 0 0,PV.ptr 1 0,PV.ptr 2 0,PV.ptr 3 0],PV.fn 115 [] [PV.ptr 3 0,PV.ptr 1 0,PV.ptr 0 0],PV.fn 116 [] [PV.ptr 0 0,PV.ptr 1 0,PV.ptr 2 0,PV.ptr 3 0,PV.ptr 5 0],PV.fn 119 [] [PV.ptr 0 0,PV.ptr 1 0,PV.ptr 3 0,PV.ptr 6 0],PV.fn 121 [] [PV.ptr 0 0,PV.ptr 5 0,PV.ptr 3 0,PV.ptr 6 0]],ah.row 3 1 [],ah.row 3 1 []]
def GL (c:Cf) (k:Int) (x:Px) (v:Rt) (r:T) (o:Int):List ah:=[ah.box 56 6 (PV.t c.t),ah.box 3 1 (PV.t (i64 k)),ah.box 25 2 (PV.t x.t),ah.box 44 6 (PV.t v.t),ah.box 42 4 (PV.agg [PV.t (i64 0),PV.own 8,PV.t (i64 0),PV.t (i64 0)]),ah.box 123 6 (PV.t r),ah.box 42 4 (PV.agg [PV.t (i64 v.p.o),PV.own 9,PV.t (i64 c.d),PV.t (i64 o)]),ah.vec 26 1 5 [PV.fn 112 [] [PV.ptr 0 0,PV.ptr 1 0,PV.ptr 2 0,PV.ptr 3 0],PV.fn 115 [] [PV.ptr 3 0,PV.ptr 1 0,PV.ptr 0 0],PV.fn 116 [] [PV.ptr 0 0,PV.ptr 1 0,PV.ptr 2 0,PV.ptr 3 0,PV.ptr 5 0],PV.fn 119 [] [PV.ptr 0 0,PV.ptr 1 0,PV.ptr 3 0,PV.ptr 6 0],PV.fn 121 [] [PV.ptr 0 0,PV.ptr 5 0,PV.ptr 3 0,PV.ptr 6 0]],ah.row 3 1 [],ah.row 3 1 []]
def Yp (c:Cf) (k:Int) (x:Px) (v:Rt) (r:T) (o:Int):List ah:=[ah.box 56 6 (PV.t c.t),ah.box 3 1 (PV.t (i64 k)),ah.box 25 2 (PV.t x.t),ah.box 44 6 (PV.t v.t),ah.box 42 4 (PV.agg [PV.t (i64 0),PV.own 8,PV.t (i64 0),PV.t (i64 0)]),ah.box 123 6 (PV.t r),ah.box 42 4 (PV.agg [PV.t (i64 v.p.o),PV.own 9,PV.t (i64 c.d),PV.t (i64 0)]),ah.vec 26 1 5 [PV.fn 112 [] [PV.ptr 0 0,PV.ptr 1 0,PV.ptr 2 0,PV.ptr 3 0],PV.fn 115 [] [PV.ptr 3 0,PV.ptr 1 0,PV.ptr 0 0],PV.fn 116 [] [PV.ptr 0 0,PV.ptr 1 0,PV.ptr 2 0,PV.ptr 3 0,PV.ptr 5 0],PV.fn 119 [] [PV.ptr 0 0,PV.ptr 1 0,PV.ptr 3 0,PV.ptr 6 0],PV.fn 121 [] [PV.ptr 0 0,PV.ptr 5 0,PV.ptr 3 0,PV.ptr 6 0]],ah.row 3 1 [],ah.row 3 1 []]
def akr (c:Cf) (k:Int) (x:Px) (v:Rt) (r:T) (o:Int) (s:T) (f:List T):List ah:=[ah.box 56 6 (PV.t c.t),ah.box 3 1 (PV.t (i64 k)),ah.box 25 2 (PV.t x.t),ah.box 44 6 (PV.t v.t),ah.box 42 4 (PV.agg [PV.t (i64 0),PV.own 8,PV.t (i64 0),PV.t (i64 0)]),ah.box 123 6 (PV.t r),ah.box 42 4 (PV.t (T.agg [i64 v.p.o,s,i64 c.d,i64 o])),ah.vec 26 1 5 [PV.fn 112 [] [PV.ptr 0 0,PV.ptr 1 0,PV.ptr 2 0,PV.ptr 3 0],PV.fn 115 [] [PV.ptr 3 0,PV.ptr 1 0,PV.ptr 0 0],PV.fn 116 [] [PV.ptr 0 0,PV.ptr 1 0,PV.ptr 2 0,PV.ptr 3 0,PV.ptr 5 0],PV.fn 119 [] [PV.ptr 0 0,PV.ptr 1 0,PV.ptr 3 0,PV.ptr 6 0],PV.fn 121 [] [PV.ptr 0 0,PV.ptr 5 0,PV.ptr 3 0,PV.ptr 6 0]],ah.row 3 1 [],ah.row 3 1 [],ah.jR 31 1 f]
def ani (c:Cf) (k:Int) (x:Px) (v:Rt) (r:T):List ah:=[ah.box 56 6 (PV.t c.t),ah.box 3 1 (PV.t (i64 k)),ah.box 25 2 (PV.t x.t),ah.box 44 6 (PV.t v.t),ah.box 42 4 (PV.agg [PV.t (i64 0),PV.own 8,PV.t (i64 0),PV.t (i64 0)]),ah.box 123 6 (PV.t r),ah.box 42 4 (PV.agg [PV.t (i64 v.p.o),PV.own 9,PV.t (i64 c.d),PV.t (i64 0)]),ah.vec 26 1 5 [PV.fn 112 [] [PV.ptr 0 0,PV.ptr 1 0,PV.ptr 2 0,PV.ptr 3 0],PV.fn 115 [] [PV.ptr 3 0,PV.ptr 1 0,PV.ptr 0 0],PV.fn 116 [] [PV.ptr 0 0,PV.ptr 1 0,PV.ptr 2 0,PV.ptr 3 0,PV.ptr 5 0],PV.fn 119 [] [PV.ptr 0 0,PV.ptr 1 0,PV.ptr 3 0,PV.ptr 6 0],PV.fn 121 [] [PV.ptr 0 0,PV.ptr 5 0,PV.ptr 3 0,PV.ptr 6 0]],ah.row 3 1 [],ah.row 3 1 []]
theorem ap4 (N:Nat) (c:Cf) (k:Int) (x:Px) (v:Rt) (r:T) (o:Int) {β:Type} (K:PV→List ah→aj β):fQ env (aK env N) N 112 [.ptr 0 0,.ptr 1 0,.ptr 2 0,.ptr 3 0] [.box 56 6 (.t c.t),.box 3 1 (.t (i64 k)),.box 25 2 (.t x.t),.box 44 6 (.t v.t),.box 42 4 (.agg [.t (i64 0),.own 8,.t (i64 0),.t (i64 0)]),.box 123 6 (.t r),.box 42 4 (.agg [.t (i64 v.p.o),.own 9,.t (i64 c.d),.t (i64 o)]),.vec 26 1 5 wC,.row 3 1 [],.row 3 1 []] K=iO N 52 [c.t] fun b=>bif b then iO N 113 [c.t,i64 k] fun b=>bif b then iO N 70 [x.t] fun b=>bif b then cl N 114 [v.t] fun x_1=>K (PV.t x_1) (GL c k x v r o) else K (PV.t (T.bool false)) (GL c k x v r o) else K (PV.t (T.bool false)) (GL c k x v r o) else K (PV.t (T.bool false)) (GL c k x v r o):=by kernel_rfl
theorem ap5 (N:Nat) (c:Cf) (k:Int) (x:Px) (v:Rt) (r:T) (o:Int) {β:Type} (K:PV→List ah→aj β):fQ env (aK env N) N 115 [.ptr 3 0,.ptr 1 0,.ptr 0 0] [.box 56 6 (.t c.t),.box 3 1 (.t (i64 k)),.box 25 2 (.t x.t),.box 44 6 (.t v.t),.box 42 4 (.agg [.t (i64 0),.own 8,.t (i64 0),.t (i64 0)]),.box 123 6 (.t r),.box 42 4 (.agg [.t (i64 v.p.o),.own 9,.t (i64 c.d),.t (i64 o)]),.vec 26 1 5 wC,.row 3 1 [],.row 3 1 []] K=bif v.f !=k then K (PV.t (T.bool (decide (v.f < (↑(List.map Sd.t c.s).length:Int))))) (GL c k x v r o) else K (PV.t (T.bool false)) (GL c k x v r o):=by kernel_rfl
theorem ap6 (N:Nat) (c:Cf) (k:Int) (x:Px) (v:Rt) (r:T) (o:Int) {β:Type} (K:PV→List ah→aj β):fQ env (aK env N) N 116 [.ptr 0 0,.ptr 1 0,.ptr 2 0,.ptr 3 0,.ptr 5 0] [.box 56 6 (.t c.t),.box 3 1 (.t (i64 k)),.box 25 2 (.t x.t),.box 44 6 (.t v.t),.box 42 4 (.agg [.t (i64 0),.own 8,.t (i64 0),.t (i64 0)]),.box 123 6 (.t r),.box 42 4 (.agg [.t (i64 v.p.o),.own 9,.t (i64 c.d),.t (i64 o)]),.vec 26 1 5 wC,.row 3 1 [],.row 3 1 []] K=bV (List.map Sd.t c.s) k fun e=>cl N 118 [c.t,i64 v.f] fun x_1=>chk (x_1.cells.length==1&& !x_1.aV) (cl N 117 [e.ay 3 1 false,T.agg [i64 x.a,i64 x.n,T.sl 1 (ints v.p.s),x_1.cell 0]] fun x_2=>aG x_2 0 fun y=>aG x_2 1 fun y_1=>chk (y.cells.length==6&& !y.aV) (bT y_1 fun b=>bif b then iT IntKind.i64 (y.ay 4 1 false) fun a=>K (PV.t (T.bool (a !=0))) [ah.box 56 6 (PV.t c.t),ah.box 3 1 (PV.t (i64 k)),ah.box 25 2 (PV.t x.t),ah.box 44 6 (PV.t v.t),ah.box 42 4 (PV.agg [PV.t (i64 0),PV.own 8,PV.t (i64 0),PV.t (i64 0)]),ah.box 123 6 (PV.t y),ah.box 42 4 (PV.agg [PV.t (i64 v.p.o),PV.own 9,PV.t (i64 c.d),PV.t (i64 o)]),ah.vec 26 1 5 [PV.fn 112 [] [PV.ptr 0 0,PV.ptr 1 0,PV.ptr 2 0,PV.ptr 3 0],PV.fn 115 [] [PV.ptr 3 0,PV.ptr 1 0,PV.ptr 0 0],PV.fn 116 [] [PV.ptr 0 0,PV.ptr 1 0,PV.ptr 2 0,PV.ptr 3 0,PV.ptr 5 0],PV.fn 119 [] [PV.ptr 0 0,PV.ptr 1 0,PV.ptr 3 0,PV.ptr 6 0],PV.fn 121 [] [PV.ptr 0 0,PV.ptr 5 0,PV.ptr 3 0,PV.ptr 6 0]],ah.row 3 1 [],ah.row 3 1 []] else K (PV.t (T.bool false)) [ah.box 56 6 (PV.t c.t),ah.box 3 1 (PV.t (i64 k)),ah.box 25 2 (PV.t x.t),ah.box 44 6 (PV.t v.t),ah.box 42 4 (PV.agg [PV.t (i64 0),PV.own 8,PV.t (i64 0),PV.t (i64 0)]),ah.box 123 6 (PV.t y),ah.box 42 4 (PV.agg [PV.t (i64 v.p.o),PV.own 9,PV.t (i64 c.d),PV.t (i64 o)]),ah.vec 26 1 5 [PV.fn 112 [] [PV.ptr 0 0,PV.ptr 1 0,PV.ptr 2 0,PV.ptr 3 0],PV.fn 115 [] [PV.ptr 3 0,PV.ptr 1 0,PV.ptr 0 0],PV.fn 116 [] [PV.ptr 0 0,PV.ptr 1 0,PV.ptr 2 0,PV.ptr 3 0,PV.ptr 5 0],PV.fn 119 [] [PV.ptr 0 0,PV.ptr 1 0,PV.ptr 3 0,PV.ptr 6 0],PV.fn 121 [] [PV.ptr 0 0,PV.ptr 5 0,PV.ptr 3 0,PV.ptr 6 0]],ah.row 3 1 [],ah.row 3 1 []])):=by kernel_rfl
theorem ap7 (N:Nat) (c:Cf) (k:Int) (x:Px) (v:Rt) (r:T) (o:Int) {β:Type} (K:PV→List ah→aj β):fQ env (aK env N) N 119 [.ptr 0 0,.ptr 1 0,.ptr 3 0,.ptr 6 0] [.box 56 6 (.t c.t),.box 3 1 (.t (i64 k)),.box 25 2 (.t x.t),.box 44 6 (.t v.t),.box 42 4 (.agg [.t (i64 0),.own 8,.t (i64 0),.t (i64 0)]),.box 123 6 (.t r),.box 42 4 (.agg [.t (i64 v.p.o),.own 9,.t (i64 c.d),.t (i64 o)]),.vec 26 1 5 wC,.row 3 1 [],.row 3 1 []] K=bV (List.map Sd.t c.s) k fun e=>cl N 120 [e.ay 1 1 false,i64 c.a,i64 v.p.c] fun x_1=>aG x_1 0 fun y=>aG x_1 1 fun y_1=>chk (y.cells.length==1&& !y.aV) (K (PV.t y_1) [ah.box 56 6 (PV.t c.t),ah.box 3 1 (PV.t (i64 k)),ah.box 25 2 (PV.t x.t),ah.box 44 6 (PV.t v.t),ah.box 42 4 (PV.agg [PV.t (i64 0),PV.own 8,PV.t (i64 0),PV.t (i64 0)]),ah.box 123 6 (PV.t r),ah.box 42 4 (PV.agg [PV.t (i64 v.p.o),PV.own 9,PV.t (i64 c.d),PV.t (y.cell 0)]),ah.vec 26 1 5 [PV.fn 112 [] [PV.ptr 0 0,PV.ptr 1 0,PV.ptr 2 0,PV.ptr 3 0],PV.fn 115 [] [PV.ptr 3 0,PV.ptr 1 0,PV.ptr 0 0],PV.fn 116 [] [PV.ptr 0 0,PV.ptr 1 0,PV.ptr 2 0,PV.ptr 3 0,PV.ptr 5 0],PV.fn 119 [] [PV.ptr 0 0,PV.ptr 1 0,PV.ptr 3 0,PV.ptr 6 0],PV.fn 121 [] [PV.ptr 0 0,PV.ptr 5 0,PV.ptr 3 0,PV.ptr 6 0]],ah.row 3 1 [],ah.row 3 1 []]):=by kernel_rfl
theorem ap8 (N:Nat) (c:Cf) (k:Int) (x:Px) (v:Rt) (r:T) (o:Int) {β:Type} (K:PV→List ah→aj β):fQ env (aK env N) N 121 [.ptr 0 0,.ptr 5 0,.ptr 3 0,.ptr 6 0] [.box 56 6 (.t c.t),.box 3 1 (.t (i64 k)),.box 25 2 (.t x.t),.box 44 6 (.t v.t),.box 42 4 (.agg [.t (i64 0),.own 8,.t (i64 0),.t (i64 0)]),.box 123 6 (.t r),.box 42 4 (.agg [.t (i64 v.p.o),.own 9,.t (i64 c.d),.t (i64 o)]),.vec 26 1 5 wC,.row 3 1 [],.row 3 1 []] K=dB (T.oq 1) [i64 c.a] (iT IntKind.i64 (r.ay 5 1 false) fun b=>cl N 123 [T.sl 1 [i64 c.a],i64 (IntKind.i64.wrap (1+b))] fun x_1=>dB (T.oq 1) [x_1,T.sl 1 (ints v.p.s)] (cl N 122 [T.sl 1 [x_1,T.sl 1 (ints v.p.s)]] fun x_2=>chk (x_2.cells.length==1&& !x_2.aV) (gY ((T.agg [i64 v.p.o,x_2.cell 0,i64 c.d,i64 o]).cell 1) fun n=>K (PV.t (T.bool (decide (n≤32)))) [ah.box 56 6 (PV.t c.t),ah.box 3 1 (PV.t (i64 k)),ah.box 25 2 (PV.t x.t),ah.box 44 6 (PV.t v.t),ah.box 42 4 (PV.agg [PV.t (i64 0),PV.own 8,PV.t (i64 0),PV.t (i64 0)]),ah.box 123 6 (PV.t r),ah.box 42 4 (PV.t (T.agg [i64 v.p.o,x_2.cell 0,i64 c.d,i64 o])),ah.vec 26 1 5 [PV.fn 112 [] [PV.ptr 0 0,PV.ptr 1 0,PV.ptr 2 0,PV.ptr 3 0],PV.fn 115 [] [PV.ptr 3 0,PV.ptr 1 0,PV.ptr 0 0],PV.fn 116 [] [PV.ptr 0 0,PV.ptr 1 0,PV.ptr 2 0,PV.ptr 3 0,PV.ptr 5 0],PV.fn 119 [] [PV.ptr 0 0,PV.ptr 1 0,PV.ptr 3 0,PV.ptr 6 0],PV.fn 121 [] [PV.ptr 0 0,PV.ptr 5 0,PV.ptr 3 0,PV.ptr 6 0]],ah.row 3 1 [],ah.row 3 1 [],ah.jR 31 1 [x_1,T.sl 1 (ints v.p.s)]]))):=by kernel_rfl
def gK (c:Cf) (k:Int) (x:Px) (v:Rt) (b:Bool):Pin:=⟨112,[.ptr 0 0,.ptr 1 0,.ptr 2 0,.ptr 3 0],BK c k x v (T.agg [i64 0,i64 0,i64 0,i64 0,i64 0,i64 0]) 0,.t (.bool b),BK c k x v (T.agg [i64 0,i64 0,i64 0,i64 0,i64 0,i64 0]) 0⟩
def jd (c:Cf) (k:Int) (x:Px) (v:Rt) (b:Bool):Pin:=⟨115,[.ptr 3 0,.ptr 1 0,.ptr 0 0],BK c k x v (T.agg [i64 0,i64 0,i64 0,i64 0,i64 0,i64 0]) 0,.t (.bool b),BK c k x v (T.agg [i64 0,i64 0,i64 0,i64 0,i64 0,i64 0]) 0⟩
def kE (c:Cf) (k:Int) (x:Px) (v:Rt) (b:Bool) (r:T):Pin:=⟨116,[.ptr 0 0,.ptr 1 0,.ptr 2 0,.ptr 3 0,.ptr 5 0],BK c k x v (T.agg [i64 0,i64 0,i64 0,i64 0,i64 0,i64 0]) 0,.t (.bool b),BK c k x v r 0⟩
def nV (c:Cf) (k:Int) (x:Px) (v:Rt) (b:Bool) (r:T) (o:Int):Pin:=⟨119,[.ptr 0 0,.ptr 1 0,.ptr 3 0,.ptr 6 0],BK c k x v r 0,.t (.bool b),BK c k x v r o⟩
def vk (c:Cf) (k:Int) (x:Px) (v:Rt) (b:Bool) (r:T) (o:Int) (s:T) (f:List T):Pin:=⟨121,[.ptr 0 0,.ptr 5 0,.ptr 3 0,.ptr 6 0],BK c k x v r o,.t (.bool b),Yv c k x v r o s f⟩
def Uh (c:Cf) (k:Int) (x:Px) (v:Rt) (b:Bool) (r:T) (o:Int):Pin:=⟨111,[.own 7],aj0 c k x v (T.agg [i64 0,i64 0,i64 0,i64 0,i64 0,i64 0]),.t (.bool b),BK c k x v r o⟩
def Ui (c:Cf) (k:Int) (x:Px) (v:Rt) (b:Bool) (r:T) (o:Int) (s:T) (f:List T):Pin:=⟨111,[.own 7],aj0 c k x v (T.agg [i64 0,i64 0,i64 0,i64 0,i64 0,i64 0]),.t (.bool b),Yv c k x v r o s f⟩
def su (c:Cf) (k:Int) (x:Px) (v:Rt) (r:T) (o:Int):St:=⟨slots 15 [(5,.own 7),(6,.t (i64 5)),(7,.t (i64 0))],[.box 56 6 (.t c.t),.box 3 1 (.t (i64 k)),.box 25 2 (.t x.t),.box 44 6 (.t v.t),.box 42 4 (.agg [.t (i64 0),.own 8,.t (i64 0),.t (i64 0)]),.box 123 6 (.t r),.box 42 4 (.agg [.t (i64 v.p.o),.own 9,.t (i64 c.d),.t (i64 o)]),.vec 26 1 5 wC,.row 3 1 [],.row 3 1 []]⟩
def NI (c:Cf) (k:Int) (x:Px) (v:Rt) (r:T) (o:Int):St:=⟨slots 15 [(5,.own 7),(6,.t (i64 5)),(7,.t (i64 1))],[.box 56 6 (.t c.t),.box 3 1 (.t (i64 k)),.box 25 2 (.t x.t),.box 44 6 (.t v.t),.box 42 4 (.agg [.t (i64 0),.own 8,.t (i64 0),.t (i64 0)]),.box 123 6 (.t r),.box 42 4 (.agg [.t (i64 v.p.o),.own 9,.t (i64 c.d),.t (i64 o)]),.vec 26 1 5 wC,.row 3 1 [],.row 3 1 []]⟩
def Ul (c:Cf) (k:Int) (x:Px) (v:Rt) (r:T) (o:Int):St:=⟨slots 15 [(5,.own 7),(6,.t (i64 5)),(7,.t (i64 2))],[.box 56 6 (.t c.t),.box 3 1 (.t (i64 k)),.box 25 2 (.t x.t),.box 44 6 (.t v.t),.box 42 4 (.agg [.t (i64 0),.own 8,.t (i64 0),.t (i64 0)]),.box 123 6 (.t r),.box 42 4 (.agg [.t (i64 v.p.o),.own 9,.t (i64 c.d),.t (i64 o)]),.vec 26 1 5 wC,.row 3 1 [],.row 3 1 []]⟩
def acI (c:Cf) (k:Int) (x:Px) (v:Rt) (r:T) (o:Int):St:=⟨slots 15 [(5,.own 7),(6,.t (i64 5)),(7,.t (i64 3))],[.box 56 6 (.t c.t),.box 3 1 (.t (i64 k)),.box 25 2 (.t x.t),.box 44 6 (.t v.t),.box 42 4 (.agg [.t (i64 0),.own 8,.t (i64 0),.t (i64 0)]),.box 123 6 (.t r),.box 42 4 (.agg [.t (i64 v.p.o),.own 9,.t (i64 c.d),.t (i64 o)]),.vec 26 1 5 wC,.row 3 1 [],.row 3 1 []]⟩
def akH (c:Cf) (k:Int) (x:Px) (v:Rt) (r:T) (o:Int):St:=⟨slots 15 [(5,.own 7),(6,.t (i64 5)),(7,.t (i64 4))],[.box 56 6 (.t c.t),.box 3 1 (.t (i64 k)),.box 25 2 (.t x.t),.box 44 6 (.t v.t),.box 42 4 (.agg [.t (i64 0),.own 8,.t (i64 0),.t (i64 0)]),.box 123 6 (.t r),.box 42 4 (.agg [.t (i64 v.p.o),.own 9,.t (i64 c.d),.t (i64 o)]),.vec 26 1 5 wC,.row 3 1 [],.row 3 1 []]⟩
def anP (c:Cf) (k:Int) (x:Px) (v:Rt) (r:T) (o:Int) (s:T) (f:List T):St:=⟨slots 15 [(5,.own 7),(6,.t (i64 5)),(7,.t (i64 5))],[.box 56 6 (.t c.t),.box 3 1 (.t (i64 k)),.box 25 2 (.t x.t),.box 44 6 (.t v.t),.box 42 4 (.agg [.t (i64 0),.own 8,.t (i64 0),.t (i64 0)]),.box 123 6 (.t r),.box 42 4 (.t (.agg [i64 v.p.o,s,i64 c.d,i64 o])),.vec 26 1 5 wC,.row 3 1 [],.row 3 1 [],.jR 31 1 f]⟩
theorem ame (N:Nat) (c:Cf) (k:Int) (x:Px) (v:Rt) (b:Bool) {β:Type} (K:PV→List ah→aj β):fQ env (bI env N [gK c k x v b]) N 111 [.own 7] [.box 56 6 (.t c.t),.box 3 1 (.t (i64 k)),.box 25 2 (.t x.t),.box 44 6 (.t v.t),.box 42 4 (.agg [.t (i64 0),.nil 3 1,.t (i64 0),.t (i64 0)]),.box 123 6 (.t (T.agg [i64 0,i64 0,i64 0,i64 0,i64 0,i64 0])),.box 42 4 (.agg [.t (i64 v.p.o),.nil 3 1,.t (i64 c.d),.t (i64 0)]),.vec 26 1 5 wC] K=uD env (bI env N [gK c k x v b]) N 111 8 2 K {tmps:=slots 15 [(5,PV.own 7),(6,PV.t (i64 5)),(7,PV.t (i64 0))],heap:=(ug c k x v)}:=by kernel_rfl
theorem ace (N:Nat) (c:Cf) (k:Int) (x:Px) (v:Rt) (b:Bool):bU env (bI env N [gK c k x v b]) N 111 8 2 (su c k x v (T.agg [i64 0,i64 0,i64 0,i64 0,i64 0,i64 0]) 0)=iQ ([PV.ptr 0 0,PV.ptr 1 0,PV.ptr 2 0,PV.ptr 3 0]= [PV.ptr 0 0,PV.ptr 1 0,PV.ptr 2 0,PV.ptr 3 0]∧(ug c k x v)=(ug c k x v)) (bif !b then aj.ok (Ex.ret,{tmps:=slots 15 [(2,PV.t (T.bool false))],heap:=(ug c k x v)}) else aj.ok (Ex.norm,{tmps:=slots 15 [(5,PV.own 7),(6,PV.t (i64 5)),(7,PV.t (i64 1))],heap:=(ug c k x v)})):=by kernel_rfl
theorem OC (N:Nat) (c:Cf) (k:Int) (x:Px) (v:Rt) (b:Bool) (H:List ah) {β:Type} (K:PV→List ah→aj β):rF env (bI env N [gK c k x v b]) N 111 8 2 K (.ret) (⟨slots 15 [(2,.t (.bool false))],H⟩)=K (PV.t (T.bool false)) H:=by kernel_rfl
theorem afK (N:Nat) (c:Cf) (k:Int) (x:Px) (v:Rt) (b:Bool) {β:Type} (K:PV→List ah→aj β):fQ env (bI env N [gK c k x v true,jd c k x v b]) N 111 [.own 7] [.box 56 6 (.t c.t),.box 3 1 (.t (i64 k)),.box 25 2 (.t x.t),.box 44 6 (.t v.t),.box 42 4 (.agg [.t (i64 0),.nil 3 1,.t (i64 0),.t (i64 0)]),.box 123 6 (.t (T.agg [i64 0,i64 0,i64 0,i64 0,i64 0,i64 0])),.box 42 4 (.agg [.t (i64 v.p.o),.nil 3 1,.t (i64 c.d),.t (i64 0)]),.vec 26 1 5 wC] K=uD env (bI env N [gK c k x v true,jd c k x v b]) N 111 8 2 K {tmps:=slots 15 [(5,PV.own 7),(6,PV.t (i64 5)),(7,PV.t (i64 0))],heap:=(ug c k x v)}:=by kernel_rfl
theorem Wq (N:Nat) (c:Cf) (k:Int) (x:Px) (v:Rt) (b:Bool):bU env (bI env N [gK c k x v true,jd c k x v b]) N 111 8 2 (su c k x v (T.agg [i64 0,i64 0,i64 0,i64 0,i64 0,i64 0]) 0)=iQ ([PV.ptr 0 0,PV.ptr 1 0,PV.ptr 2 0,PV.ptr 3 0]= [PV.ptr 0 0,PV.ptr 1 0,PV.ptr 2 0,PV.ptr 3 0]∧(ug c k x v)=(ug c k x v)) (aj.ok (Ex.norm,{tmps:=slots 15 [(5,PV.own 7),(6,PV.t (i64 5)),(7,PV.t (i64 1))],heap:=(ug c k x v)})):=by kernel_rfl
theorem Ws (N:Nat) (c:Cf) (k:Int) (x:Px) (v:Rt) (b:Bool):bU env (bI env N [gK c k x v true,jd c k x v b]) N 111 8 2 (NI c k x v (T.agg [i64 0,i64 0,i64 0,i64 0,i64 0,i64 0]) 0)=iQ ([PV.ptr 3 0,PV.ptr 1 0,PV.ptr 0 0]= [PV.ptr 3 0,PV.ptr 1 0,PV.ptr 0 0]∧(ug c k x v)=(ug c k x v)) (bif !b then aj.ok (Ex.ret,{tmps:=slots 15 [(2,PV.t (T.bool false))],heap:=(ug c k x v)}) else aj.ok (Ex.norm,{tmps:=slots 15 [(5,PV.own 7),(6,PV.t (i64 5)),(7,PV.t (i64 2))],heap:=(ug c k x v)})):=by kernel_rfl
theorem JH (N:Nat) (c:Cf) (k:Int) (x:Px) (v:Rt) (b:Bool) (H:List ah) {β:Type} (K:PV→List ah→aj β):rF env (bI env N [gK c k x v true,jd c k x v b]) N 111 8 2 K (.ret) (⟨slots 15 [(2,.t (.bool false))],H⟩)=K (PV.t (T.bool false)) H:=by kernel_rfl
theorem afL (N:Nat) (c:Cf) (k:Int) (x:Px) (v:Rt) (b:Bool) (r:T) {β:Type} (K:PV→List ah→aj β):fQ env (bI env N [gK c k x v true,jd c k x v true,kE c k x v b r]) N 111 [.own 7] [.box 56 6 (.t c.t),.box 3 1 (.t (i64 k)),.box 25 2 (.t x.t),.box 44 6 (.t v.t),.box 42 4 (.agg [.t (i64 0),.nil 3 1,.t (i64 0),.t (i64 0)]),.box 123 6 (.t (T.agg [i64 0,i64 0,i64 0,i64 0,i64 0,i64 0])),.box 42 4 (.agg [.t (i64 v.p.o),.nil 3 1,.t (i64 c.d),.t (i64 0)]),.vec 26 1 5 wC] K=uD env (bI env N [gK c k x v true,jd c k x v true,kE c k x v b r]) N 111 8 2 K {tmps:=slots 15 [(5,PV.own 7),(6,PV.t (i64 5)),(7,PV.t (i64 0))],heap:=(ug c k x v)}:=by kernel_rfl
theorem Wu (N:Nat) (c:Cf) (k:Int) (x:Px) (v:Rt) (b:Bool) (r:T):bU env (bI env N [gK c k x v true,jd c k x v true,kE c k x v b r]) N 111 8 2 (su c k x v (T.agg [i64 0,i64 0,i64 0,i64 0,i64 0,i64 0]) 0)=iQ ([PV.ptr 0 0,PV.ptr 1 0,PV.ptr 2 0,PV.ptr 3 0]= [PV.ptr 0 0,PV.ptr 1 0,PV.ptr 2 0,PV.ptr 3 0]∧(ug c k x v)=(ug c k x v)) (aj.ok (Ex.norm,{tmps:=slots 15 [(5,PV.own 7),(6,PV.t (i64 5)),(7,PV.t (i64 1))],heap:=(ug c k x v)})):=by kernel_rfl
theorem Wv (N:Nat) (c:Cf) (k:Int) (x:Px) (v:Rt) (b:Bool) (r:T):bU env (bI env N [gK c k x v true,jd c k x v true,kE c k x v b r]) N 111 8 2 (NI c k x v (T.agg [i64 0,i64 0,i64 0,i64 0,i64 0,i64 0]) 0)=iQ ([PV.ptr 3 0,PV.ptr 1 0,PV.ptr 0 0]= [PV.ptr 3 0,PV.ptr 1 0,PV.ptr 0 0]∧(ug c k x v)=(ug c k x v)) (aj.ok (Ex.norm,{tmps:=slots 15 [(5,PV.own 7),(6,PV.t (i64 5)),(7,PV.t (i64 2))],heap:=(ug c k x v)})):=by kernel_rfl
theorem Wx (N:Nat) (c:Cf) (k:Int) (x:Px) (v:Rt) (b:Bool) (r:T):bU env (bI env N [gK c k x v true,jd c k x v true,kE c k x v b r]) N 111 8 2 (Ul c k x v (T.agg [i64 0,i64 0,i64 0,i64 0,i64 0,i64 0]) 0)=iQ ([PV.ptr 0 0,PV.ptr 1 0,PV.ptr 2 0,PV.ptr 3 0,PV.ptr 5 0]= [PV.ptr 0 0,PV.ptr 1 0,PV.ptr 2 0,PV.ptr 3 0,PV.ptr 5 0]∧(ug c k x v)=(ug c k x v)) (bif !b then aj.ok (Ex.ret,{tmps:=slots 15 [(2,PV.t (T.bool false))],heap:=(ani c k x v r)}) else aj.ok (Ex.norm,{tmps:=slots 15 [(5,PV.own 7),(6,PV.t (i64 5)),(7,PV.t (i64 3))],heap:=(ani c k x v r)})):=by kernel_rfl
theorem JI (N:Nat) (c:Cf) (k:Int) (x:Px) (v:Rt) (b:Bool) (r:T) (H:List ah) {β:Type} (K:PV→List ah→aj β):rF env (bI env N [gK c k x v true,jd c k x v true,kE c k x v b r]) N 111 8 2 K (.ret) (⟨slots 15 [(2,.t (.bool false))],H⟩)=K (PV.t (T.bool false)) H:=by kernel_rfl
theorem afM (N:Nat) (c:Cf) (k:Int) (x:Px) (v:Rt) (b:Bool) (r:T) (o:Int) {β:Type} (K:PV→List ah→aj β):fQ env (bI env N [gK c k x v true,jd c k x v true,kE c k x v true r,nV c k x v b r o]) N 111 [.own 7] [.box 56 6 (.t c.t),.box 3 1 (.t (i64 k)),.box 25 2 (.t x.t),.box 44 6 (.t v.t),.box 42 4 (.agg [.t (i64 0),.nil 3 1,.t (i64 0),.t (i64 0)]),.box 123 6 (.t (T.agg [i64 0,i64 0,i64 0,i64 0,i64 0,i64 0])),.box 42 4 (.agg [.t (i64 v.p.o),.nil 3 1,.t (i64 c.d),.t (i64 0)]),.vec 26 1 5 wC] K=uD env (bI env N [gK c k x v true,jd c k x v true,kE c k x v true r,nV c k x v b r o]) N 111 8 2 K {tmps:=slots 15 [(5,PV.own 7),(6,PV.t (i64 5)),(7,PV.t (i64 0))],heap:=(xH c k x v o)}:=by kernel_rfl
theorem Wy (N:Nat) (c:Cf) (k:Int) (x:Px) (v:Rt) (b:Bool) (r:T) (o:Int):bU env (bI env N [gK c k x v true,jd c k x v true,kE c k x v true r,nV c k x v b r o]) N 111 8 2 (su c k x v (T.agg [i64 0,i64 0,i64 0,i64 0,i64 0,i64 0]) 0)=iQ ([PV.ptr 0 0,PV.ptr 1 0,PV.ptr 2 0,PV.ptr 3 0]= [PV.ptr 0 0,PV.ptr 1 0,PV.ptr 2 0,PV.ptr 3 0]∧(xH c k x v o)=(xH c k x v o)) (aj.ok (Ex.norm,{tmps:=slots 15 [(5,PV.own 7),(6,PV.t (i64 5)),(7,PV.t (i64 1))],heap:=(xH c k x v o)})):=by kernel_rfl
theorem WA (N:Nat) (c:Cf) (k:Int) (x:Px) (v:Rt) (b:Bool) (r:T) (o:Int):bU env (bI env N [gK c k x v true,jd c k x v true,kE c k x v true r,nV c k x v b r o]) N 111 8 2 (NI c k x v (T.agg [i64 0,i64 0,i64 0,i64 0,i64 0,i64 0]) 0)=iQ ([PV.ptr 3 0,PV.ptr 1 0,PV.ptr 0 0]= [PV.ptr 3 0,PV.ptr 1 0,PV.ptr 0 0]∧(xH c k x v o)=(xH c k x v o)) (aj.ok (Ex.norm,{tmps:=slots 15 [(5,PV.own 7),(6,PV.t (i64 5)),(7,PV.t (i64 2))],heap:=(xH c k x v o)})):=by kernel_rfl
theorem WB (N:Nat) (c:Cf) (k:Int) (x:Px) (v:Rt) (b:Bool) (r:T) (o:Int):bU env (bI env N [gK c k x v true,jd c k x v true,kE c k x v true r,nV c k x v b r o]) N 111 8 2 (Ul c k x v (T.agg [i64 0,i64 0,i64 0,i64 0,i64 0,i64 0]) 0)=iQ ([PV.ptr 0 0,PV.ptr 1 0,PV.ptr 2 0,PV.ptr 3 0,PV.ptr 5 0]= [PV.ptr 0 0,PV.ptr 1 0,PV.ptr 2 0,PV.ptr 3 0,PV.ptr 5 0]∧(xH c k x v o)=(xH c k x v o)) (aj.ok (Ex.norm,{tmps:=slots 15 [(5,PV.own 7),(6,PV.t (i64 5)),(7,PV.t (i64 3))],heap:=(Yp c k x v r o)})):=by kernel_rfl
theorem Sl (N:Nat) (c:Cf) (k:Int) (x:Px) (v:Rt) (b:Bool) (r:T) (o:Int):bU env (bI env N [gK c k x v true,jd c k x v true,kE c k x v true r,nV c k x v b r o]) N 111 8 2 (acI c k x v r 0)=iQ ([PV.ptr 0 0,PV.ptr 1 0,PV.ptr 3 0,PV.ptr 6 0]= [PV.ptr 0 0,PV.ptr 1 0,PV.ptr 3 0,PV.ptr 6 0]∧(Yp c k x v r o)=(Yp c k x v r o)) (bif !b then aj.ok (Ex.ret,{tmps:=slots 15 [(2,PV.t (T.bool false))],heap:=(GL c k x v r o)}) else aj.ok (Ex.norm,{tmps:=slots 15 [(5,PV.own 7),(6,PV.t (i64 5)),(7,PV.t (i64 4))],heap:=(GL c k x v r o)})):=by kernel_rfl
theorem JJ (N:Nat) (c:Cf) (k:Int) (x:Px) (v:Rt) (b:Bool) (r:T) (o:Int) (H:List ah) {β:Type} (K:PV→List ah→aj β):rF env (bI env N [gK c k x v true,jd c k x v true,kE c k x v true r,nV c k x v b r o]) N 111 8 2 K (.ret) (⟨slots 15 [(2,.t (.bool false))],H⟩)=K (PV.t (T.bool false)) H:=by kernel_rfl
theorem Vj (N:Nat) (c:Cf) (k:Int) (x:Px) (v:Rt) (b:Bool) (r:T) (o:Int) (s:T) (f:List T) {β:Type} (K:PV→List ah→aj β):fQ env (bI env N [gK c k x v true,jd c k x v true,kE c k x v true r,nV c k x v true r o,vk c k x v b r o s f]) N 111 [.own 7] [.box 56 6 (.t c.t),.box 3 1 (.t (i64 k)),.box 25 2 (.t x.t),.box 44 6 (.t v.t),.box 42 4 (.agg [.t (i64 0),.nil 3 1,.t (i64 0),.t (i64 0)]),.box 123 6 (.t (T.agg [i64 0,i64 0,i64 0,i64 0,i64 0,i64 0])),.box 42 4 (.agg [.t (i64 v.p.o),.nil 3 1,.t (i64 c.d),.t (i64 0)]),.vec 26 1 5 wC] K=uD env (bI env N [gK c k x v true,jd c k x v true,kE c k x v true r,nV c k x v true r o,vk c k x v b r o s f]) N 111 8 2 K {tmps:=slots 15 [(5,PV.own 7),(6,PV.t (i64 5)),(7,PV.t (i64 0))],heap:=(xH c k x v o)}:=by kernel_rfl
theorem FI (N:Nat) (c:Cf) (k:Int) (x:Px) (v:Rt) (b:Bool) (r:T) (o:Int) (s:T) (f:List T):bU env (bI env N [gK c k x v true,jd c k x v true,kE c k x v true r,nV c k x v true r o,vk c k x v b r o s f]) N 111 8 2 (su c k x v (T.agg [i64 0,i64 0,i64 0,i64 0,i64 0,i64 0]) 0)=iQ ([PV.ptr 0 0,PV.ptr 1 0,PV.ptr 2 0,PV.ptr 3 0]= [PV.ptr 0 0,PV.ptr 1 0,PV.ptr 2 0,PV.ptr 3 0]∧(xH c k x v o)=(xH c k x v o)) (aj.ok (Ex.norm,{tmps:=slots 15 [(5,PV.own 7),(6,PV.t (i64 5)),(7,PV.t (i64 1))],heap:=(xH c k x v o)})):=by kernel_rfl
theorem FK (N:Nat) (c:Cf) (k:Int) (x:Px) (v:Rt) (b:Bool) (r:T) (o:Int) (s:T) (f:List T):bU env (bI env N [gK c k x v true,jd c k x v true,kE c k x v true r,nV c k x v true r o,vk c k x v b r o s f]) N 111 8 2 (NI c k x v (T.agg [i64 0,i64 0,i64 0,i64 0,i64 0,i64 0]) 0)=iQ ([PV.ptr 3 0,PV.ptr 1 0,PV.ptr 0 0]= [PV.ptr 3 0,PV.ptr 1 0,PV.ptr 0 0]∧(xH c k x v o)=(xH c k x v o)) (aj.ok (Ex.norm,{tmps:=slots 15 [(5,PV.own 7),(6,PV.t (i64 5)),(7,PV.t (i64 2))],heap:=(xH c k x v o)})):=by kernel_rfl
theorem FM (N:Nat) (c:Cf) (k:Int) (x:Px) (v:Rt) (b:Bool) (r:T) (o:Int) (s:T) (f:List T):bU env (bI env N [gK c k x v true,jd c k x v true,kE c k x v true r,nV c k x v true r o,vk c k x v b r o s f]) N 111 8 2 (Ul c k x v (T.agg [i64 0,i64 0,i64 0,i64 0,i64 0,i64 0]) 0)=iQ ([PV.ptr 0 0,PV.ptr 1 0,PV.ptr 2 0,PV.ptr 3 0,PV.ptr 5 0]= [PV.ptr 0 0,PV.ptr 1 0,PV.ptr 2 0,PV.ptr 3 0,PV.ptr 5 0]∧(xH c k x v o)=(xH c k x v o)) (aj.ok (Ex.norm,{tmps:=slots 15 [(5,PV.own 7),(6,PV.t (i64 5)),(7,PV.t (i64 3))],heap:=(Yp c k x v r o)})):=by kernel_rfl
theorem FN (N:Nat) (c:Cf) (k:Int) (x:Px) (v:Rt) (b:Bool) (r:T) (o:Int) (s:T) (f:List T):bU env (bI env N [gK c k x v true,jd c k x v true,kE c k x v true r,nV c k x v true r o,vk c k x v b r o s f]) N 111 8 2 (acI c k x v r 0)=iQ ([PV.ptr 0 0,PV.ptr 1 0,PV.ptr 3 0,PV.ptr 6 0]= [PV.ptr 0 0,PV.ptr 1 0,PV.ptr 3 0,PV.ptr 6 0]∧(Yp c k x v r o)=(Yp c k x v r o)) (aj.ok (Ex.norm,{tmps:=slots 15 [(5,PV.own 7),(6,PV.t (i64 5)),(7,PV.t (i64 4))],heap:=(GL c k x v r o)})):=by kernel_rfl
theorem FP (N:Nat) (c:Cf) (k:Int) (x:Px) (v:Rt) (b:Bool) (r:T) (o:Int) (s:T) (f:List T):bU env (bI env N [gK c k x v true,jd c k x v true,kE c k x v true r,nV c k x v true r o,vk c k x v b r o s f]) N 111 8 2 (akH c k x v r o)=iQ ([PV.ptr 0 0,PV.ptr 5 0,PV.ptr 3 0,PV.ptr 6 0]= [PV.ptr 0 0,PV.ptr 5 0,PV.ptr 3 0,PV.ptr 6 0]∧(GL c k x v r o)=(GL c k x v r o)) (bif !b then aj.ok (Ex.ret,{tmps:=slots 15 [(2,PV.t (T.bool false))],heap:=(akr c k x v r o s f)}) else aj.ok (Ex.norm,{tmps:=slots 15 [(5,PV.own 7),(6,PV.t (i64 5)),(7,PV.t (i64 5))],heap:=(akr c k x v r o s f)})):=by kernel_rfl
theorem Sm (N:Nat) (c:Cf) (k:Int) (x:Px) (v:Rt) (b:Bool) (r:T) (o:Int) (s:T) (f:List T):bU env (bI env N [gK c k x v true,jd c k x v true,kE c k x v true r,nV c k x v true r o,vk c k x v b r o s f]) N 111 8 2 (anP c k x v r o s f)=aj.ok (Ex.exit 0,{tmps:=slots 15 [],heap:=(akr c k x v r o s f)}):=by kernel_rfl
theorem JK (N:Nat) (c:Cf) (k:Int) (x:Px) (v:Rt) (b:Bool) (r:T) (o:Int) (s:T) (f:List T) (H:List ah) {β:Type} (K:PV→List ah→aj β):rF env (bI env N [gK c k x v true,jd c k x v true,kE c k x v true r,nV c k x v true r o,vk c k x v b r o s f]) N 111 8 2 K (.ret) (⟨slots 15 [(2,.t (.bool false))],H⟩)=K (PV.t (T.bool false)) H:=by kernel_rfl
theorem JG (N:Nat) (c:Cf) (k:Int) (x:Px) (v:Rt) (b:Bool) (r:T) (o:Int) (s:T) (f:List T) (H:List ah) {β:Type} (K:PV→List ah→aj β):rF env (bI env N [gK c k x v true,jd c k x v true,kE c k x v true r,nV c k x v true r o,vk c k x v b r o s f]) N 111 8 2 K (.exit 0) (⟨slots 15 [],H⟩)=K (PV.t (T.bool true)) H:=by kernel_rfl
theorem aqB (N:Nat) (c:Cf) (k:Int) (x:Px) (v:Rt) (b:Bool) (r:T) (o:Int):fQ env (bI env N [Uh c k x v b r o]) N 81 [.t (c.t),.t (i64 k),.t (x.t),.t (v.t)] [] (aY env 81)=dB (fun p=>((match p with|PV.t x=>x.cells.length==1&& !x.aV|PV.agg cs=>cs.length==1|PV.au xs=>false|PV.junk=>false|x=>true)&& !match p with|PV.agg cs=>true|x=>false)&& !match p with|PV.t x=>x.isAgg|x=>false) [PV.fn 112 [] [PV.ptr 0 0,PV.ptr 1 0,PV.ptr 2 0,PV.ptr 3 0],PV.fn 115 [] [PV.ptr 3 0,PV.ptr 1 0,PV.ptr 0 0],PV.fn 116 [] [PV.ptr 0 0,PV.ptr 1 0,PV.ptr 2 0,PV.ptr 3 0,PV.ptr 5 0],PV.fn 119 [] [PV.ptr 0 0,PV.ptr 1 0,PV.ptr 3 0,PV.ptr 6 0],PV.fn 121 [] [PV.ptr 0 0,PV.ptr 5 0,PV.ptr 3 0,PV.ptr 6 0]] (iQ ([PV.own 7]= [PV.own 7]∧ [ah.box 56 6 (PV.t c.t),ah.box 3 1 (PV.t (i64 k)),ah.box 25 2 (PV.t x.t),ah.box 44 6 (PV.t v.t),ah.box 42 4 (PV.agg [PV.t (i64 0),PV.nil 3 1,PV.t (i64 0),PV.t (i64 0)]),ah.box 123 6 (PV.t (T.agg [i64 0,i64 0,i64 0,i64 0,i64 0,i64 0])),ah.box 42 4 (PV.agg [PV.t (i64 v.p.o),PV.nil 3 1,PV.t (i64 c.d),PV.t (i64 0)]),ah.vec 26 1 5 [PV.fn 112 [] [PV.ptr 0 0,PV.ptr 1 0,PV.ptr 2 0,PV.ptr 3 0],PV.fn 115 [] [PV.ptr 3 0,PV.ptr 1 0,PV.ptr 0 0],PV.fn 116 [] [PV.ptr 0 0,PV.ptr 1 0,PV.ptr 2 0,PV.ptr 3 0,PV.ptr 5 0],PV.fn 119 [] [PV.ptr 0 0,PV.ptr 1 0,PV.ptr 3 0,PV.ptr 6 0],PV.fn 121 [] [PV.ptr 0 0,PV.ptr 5 0,PV.ptr 3 0,PV.ptr 6 0]]]= [ah.box 56 6 (PV.t c.t),ah.box 3 1 (PV.t (i64 k)),ah.box 25 2 (PV.t x.t),ah.box 44 6 (PV.t v.t),ah.box 42 4 (PV.agg [PV.t (i64 0),PV.nil 3 1,PV.t (i64 0),PV.t (i64 0)]),ah.box 123 6 (PV.t (T.agg [i64 0,i64 0,i64 0,i64 0,i64 0,i64 0])),ah.box 42 4 (PV.agg [PV.t (i64 v.p.o),PV.nil 3 1,PV.t (i64 c.d),PV.t (i64 0)]),ah.vec 26 1 5 [PV.fn 112 [] [PV.ptr 0 0,PV.ptr 1 0,PV.ptr 2 0,PV.ptr 3 0],PV.fn 115 [] [PV.ptr 3 0,PV.ptr 1 0,PV.ptr 0 0],PV.fn 116 [] [PV.ptr 0 0,PV.ptr 1 0,PV.ptr 2 0,PV.ptr 3 0,PV.ptr 5 0],PV.fn 119 [] [PV.ptr 0 0,PV.ptr 1 0,PV.ptr 3 0,PV.ptr 6 0],PV.fn 121 [] [PV.ptr 0 0,PV.ptr 5 0,PV.ptr 3 0,PV.ptr 6 0]]]) (bif !b then aj.ok (T.au [T.agg [i64 0,T.sl 1 [],i64 0,i64 0],T.bool false]) else aj.ok (T.au [T.agg [i64 v.p.o,T.sl 1 [],i64 c.d,i64 o],T.bool true]))):=by kernel_rfl
theorem aeT (N:Nat) (c:Cf) (k:Int) (x:Px) (v:Rt) (b:Bool) (r:T) (o:Int) (s:T) (f:List T):fQ env (bI env N [Ui c k x v b r o s f]) N 81 [.t (c.t),.t (i64 k),.t (x.t),.t (v.t)] [] (aY env 81)=dB (fun p=>((match p with|PV.t x=>x.cells.length==1&& !x.aV|PV.agg cs=>cs.length==1|PV.au xs=>false|PV.junk=>false|x=>true)&& !match p with|PV.agg cs=>true|x=>false)&& !match p with|PV.t x=>x.isAgg|x=>false) [PV.fn 112 [] [PV.ptr 0 0,PV.ptr 1 0,PV.ptr 2 0,PV.ptr 3 0],PV.fn 115 [] [PV.ptr 3 0,PV.ptr 1 0,PV.ptr 0 0],PV.fn 116 [] [PV.ptr 0 0,PV.ptr 1 0,PV.ptr 2 0,PV.ptr 3 0,PV.ptr 5 0],PV.fn 119 [] [PV.ptr 0 0,PV.ptr 1 0,PV.ptr 3 0,PV.ptr 6 0],PV.fn 121 [] [PV.ptr 0 0,PV.ptr 5 0,PV.ptr 3 0,PV.ptr 6 0]] (iQ ([PV.own 7]= [PV.own 7]∧ [ah.box 56 6 (PV.t c.t),ah.box 3 1 (PV.t (i64 k)),ah.box 25 2 (PV.t x.t),ah.box 44 6 (PV.t v.t),ah.box 42 4 (PV.agg [PV.t (i64 0),PV.nil 3 1,PV.t (i64 0),PV.t (i64 0)]),ah.box 123 6 (PV.t (T.agg [i64 0,i64 0,i64 0,i64 0,i64 0,i64 0])),ah.box 42 4 (PV.agg [PV.t (i64 v.p.o),PV.nil 3 1,PV.t (i64 c.d),PV.t (i64 0)]),ah.vec 26 1 5 [PV.fn 112 [] [PV.ptr 0 0,PV.ptr 1 0,PV.ptr 2 0,PV.ptr 3 0],PV.fn 115 [] [PV.ptr 3 0,PV.ptr 1 0,PV.ptr 0 0],PV.fn 116 [] [PV.ptr 0 0,PV.ptr 1 0,PV.ptr 2 0,PV.ptr 3 0,PV.ptr 5 0],PV.fn 119 [] [PV.ptr 0 0,PV.ptr 1 0,PV.ptr 3 0,PV.ptr 6 0],PV.fn 121 [] [PV.ptr 0 0,PV.ptr 5 0,PV.ptr 3 0,PV.ptr 6 0]]]= [ah.box 56 6 (PV.t c.t),ah.box 3 1 (PV.t (i64 k)),ah.box 25 2 (PV.t x.t),ah.box 44 6 (PV.t v.t),ah.box 42 4 (PV.agg [PV.t (i64 0),PV.nil 3 1,PV.t (i64 0),PV.t (i64 0)]),ah.box 123 6 (PV.t (T.agg [i64 0,i64 0,i64 0,i64 0,i64 0,i64 0])),ah.box 42 4 (PV.agg [PV.t (i64 v.p.o),PV.nil 3 1,PV.t (i64 c.d),PV.t (i64 0)]),ah.vec 26 1 5 [PV.fn 112 [] [PV.ptr 0 0,PV.ptr 1 0,PV.ptr 2 0,PV.ptr 3 0],PV.fn 115 [] [PV.ptr 3 0,PV.ptr 1 0,PV.ptr 0 0],PV.fn 116 [] [PV.ptr 0 0,PV.ptr 1 0,PV.ptr 2 0,PV.ptr 3 0,PV.ptr 5 0],PV.fn 119 [] [PV.ptr 0 0,PV.ptr 1 0,PV.ptr 3 0,PV.ptr 6 0],PV.fn 121 [] [PV.ptr 0 0,PV.ptr 5 0,PV.ptr 3 0,PV.ptr 6 0]]]) (bif !b then aj.ok (T.au [T.agg [i64 0,T.sl 1 [],i64 0,i64 0],T.bool false]) else aj.ok (T.au [T.agg [i64 v.p.o,s,i64 c.d,i64 o],T.bool true]))):=by kernel_rfl
end
section
open Go.RowKit Go.Proofs
def rl (x:T) (n j:Nat):List T:=List.replicate j x++List.replicate (n - j) (i64 0)
theorem aeU (x:T) {n j:Nat} (h:j≤n):(rl x n j).length=n:=by simp[rl]; omega
theorem aa7 (x:T) {n j:Nat}:(rl x n j).take j=List.replicate j x:=by
 unfold rl; rw[List.take_append_of_le_length (by simp)]; simp
theorem ai7 (x:T) {n j:Nat} (h:j≤n):fP (rl x n j) j ((List.replicate j x).take (n - j))=rl x n (j+min j (n - j)):=by
 unfold fP
 rw[aa7,List.take_replicate,List.length_replicate]
 unfold rl
 rw[List.drop_append,List.length_replicate,List.drop_eq_nil_of_le (by simp),List.nil_append,List.drop_replicate,List.replicate_append_replicate,Nat.min_comm]
 congr 2
 omega
variable [Lv]
theorem aoK {M n j:Nat} {x:T} (h1:1≤j) (h:j < n) (hn:n≤big):aH env M 123 0 8 (sRp (rl x n j) j)= .ok (.norm,sRp (rl x n (j+min j (n - j))) ((j+min j (n - j):Nat):Int)):=by
 have hl:=aeU x (Nat.le_of_lt h)
 rw[ad8,hl,Int.toNat_natCast,Nat.zero_add,Nat.zero_add,decide_eq_true (show(j:Int) < (n:Int) by omega),decide_eq_true (show(0:Int)≤(j:Int) by omega),decide_eq_true (show(j:Int)≤(n:Int) by omega),decide_eq_true (show j≤n by omega),decide_eq_true (Nat.le_refl n),
  List.drop_zero,aa7,List.length_replicate]
 simp only[Bool.and_self,cond_true,aI]
 rw[ai7 x (Nat.le_of_lt h),show((j:Int)+((min j (n - j):Nat):Int))=((j+min j (n - j):Nat):Int) by omega,EX (by omega)]
theorem Vp {M n:Nat} {x:T} (hn:n≤big):∀ (d j k:Nat),n - j≤d→1≤j→j≤n→d < k→bH (aH env M 123 0 8) k (sRp (rl x n j) j)= .ok (.exit 0,⟨slots 48 [(7,.own 0)],[.row 3 1 (List.replicate n x)]⟩)
 |d,j,0,_,_,_,h=>by omega
 |d,j,k+1,h1,h2,h3,h4=>by
  rcases Nat.eq_or_lt_of_le h3 with rfl|h5
  · have hb:aH env M 123 0 8 (sRp (rl x j j) j)= .ok (.exit 0,⟨slots 48 [(7,.own 0)],[.row 3 1 (List.replicate j x)]⟩):=by
     rw[ad8,aeU x (Nat.le_refl j),decide_eq_false (by omega)]
     simp only[cond_false]
     rw[show rl x j j=List.replicate j x by simp[rl]]
    exact eH hb
  · rw[aW (aoK h2 h5 hn)]
    exact Vp hn (d - 1) _ k (by omega) (by omega) (by omega) (by omega)
theorem afB {M n:Nat} (h1:1≤n) (h2:n≤9):ak env (M+1) 195 [.int .u64 (IntKind.u64.wrap 1),.int .u64 (IntKind.u64.wrap (n:Int))]= .ok (.au [.int .u64 0,.int .u64 n]):=by
 have hc:n=1∨n=2∨n=3∨n=4∨n=5∨n=6∨n=7∨n=8∨n=9:=by omega
 clear h1 h2
 rcases hc with rfl|rfl|rfl|rfl|rfl|rfl|rfl|rfl|rfl
 all_goals rw[arI,aZ rfl]; rfl
theorem al8 {M n:Nat} (h1:1≤n) (h2:n≤9):ak env (M+2) 156 [.int .u64 (IntKind.u64.wrap 1),.int .u64 (IntKind.u64.wrap (n:Int))]= .ok (.au [.int .u64 0,.int .u64 n]):=by
 have hm:=afB (M:=M) h1 h2
 have hc:n=1∨n=2∨n=3∨n=4∨n=5∨n=6∨n=7∨n=8∨n=9:=by omega
 clear h1 h2
 rcases hc with rfl|rfl|rfl|rfl|rfl|rfl|rfl|rfl|rfl
 all_goals
  rw[arj,aZ rfl,aF hm]
  rfl
theorem ahD {M n:Nat} {a:Int} (hM:12≤M) (h1:1≤n) (h2:n≤9) (ha:aT a=true):ak env (M+1) 123 [.sl 1 [i64 a],i64 n]= .ok (.sl 1 (ints (List.replicate n a))):=by
 obtain⟨m,rfl⟩:=dL (show 1≤M by omega)
 obtain⟨m,rfl⟩:=dL (show 1≤m by omega)
 have hbg:=aQ
 have hn:aT (n:Int)=true:=iE.2 (by omega)
 have hw:(T.sl 1 [i64 a]).wf=true:=qO (l:=[a]) ⟨show 1≤big by omega,fun x hx=>by rw[List.mem_singleton.1 hx]; exact ha⟩
 rw[aqS,aZ (dN hw (bg hn)),decide_eq_false (show ¬ (n:Int) < 0 by omega)]
 simp only[cond_false]
 rw[aF (al8 h1 h2)]
 have iu:∀ {β:Type} {n:Int} {K:Int→aj β},iT .u64 (.int .u64 n) K=K n:=fun {β n K}=>rfl
 simp only[aG,List.getElem?_cons_zero,List.getElem?_cons_succ,iu]
 rw[decide_eq_false (show ¬ (0:Int) > 0 by omega),decide_eq_false (show ¬ (n:Int) > 9223372036854775807 by omega),EX (by omega),Int.toNat_natCast,decide_eq_true (show(0:Int)≤(n:Int) by omega),decide_eq_true (show(n:Int)≤(n:Int) by omega),decide_eq_true (show n*8≤140737488355328 by omega),
  decide_eq_true (Nat.le_refl _),List.length_replicate]
 simp only[cond_false,Bool.and_self,aI]
 have e:sRp (fP (List.replicate n (i64 0)) 0 (List.take n [i64 a])) ((min 1 n:Nat):Int)=sRp (rl (i64 a) n 1) ((1:Nat):Int):=by
  obtain⟨n,rfl⟩:=dL h1
  have e1:min 1 (n+1)=1:=by omega
  have e2:List.take (n+1) [i64 a]= [i64 a]:=by cases n<;>rfl
  have e3:fP (List.replicate (n+1) (i64 0)) 0 [i64 a]=rl (i64 a) (n+1) 1:=rfl
  rw[e1,e2,e3]
 rw[e]
 refine(aU (Vp (n:=n) (by omega) (n - 1) 1 (m+1+1) (by omega) (by omega) (by omega) (by omega))).trans ?_
 refine(Tf (m+1+1) (List.replicate n (i64 a)) 0).trans ?_
 rw[aX,List.map_replicate]
theorem aoz {M:Nat} {c:Cf} {k:Int} {x:Px} {v:Rt} (hM:big+15≤M) (h:c.ok) (hk:aT k=true) (hx:x.ok) (hv:v.ok):iY env (M+1) (gK c k x v (dF c&&(hasB c k&&(dA x&&nK v)))):=fun β K=>by
 obtain⟨m,rfl⟩:=dL (show 1≤M by omega)
 refine(ap4 (m+1) c k x v _ 0 K).trans ?_
 rw[bD (Cb (by omega) h)]
 unfold gK
 cases dF c with
 |false=>rfl
 |true=>
 rw[cond_true,bD (QS h hk)]
 cases hasB c k with
 |false=>rfl
 |true=>
 rw[cond_true,bD (yD hx (by omega))]
 cases dA x with
 |false=>rfl
 |true=>
 rw[cond_true,aF (ahz (by omega) hv)]
 rfl
theorem aoA {M:Nat} {c:Cf} {k:Int} {x:Px} {v:Rt}:iY env (M+1) (jd c k x v (decide (v.f≠k)&&decide (v.f < (c.s.length:Int)))):=fun β K=>by
 refine(ap5 M c k x v _ 0 K).trans ?_
 unfold jd
 rw[List.length_map]
 by_cases h:v.f=k
 · rw[h,bne_self_eq_false,decide_eq_false (show ¬ k≠k from fun e=>e rfl)]; rfl
 · rw[bne_iff_ne.2 h,decide_eq_true (show v.f≠k from h)]; rfl
theorem aoB {M:Nat} {c:Cf} {k:Nat} {x:Px} {v:Rt} {s:Sd} (hM:big+10≤M) (hs:c.s[k]? =some s) (h:c.ok) (hx:x.ok) (hv:v.ok):
 iY env (M+1) (kE c k x v (match kM s.o (BO x v.p (eX c v.f)) with|some r=>r.a !=0|none=>false) (match kM s.o (BO x v.p (eX c v.f)) with|some r=>r.t|none=>T.agg [i64 0,i64 0,i64 0,i64 0,i64 0,i64 0])):=fun β K=>by
 obtain⟨m,rfl⟩:=dL (show 1≤M by omega)
 have ho:=h.s.2 _ (List.mem_of_getElem? hs)
 refine(ap6 (m+1) c k x v _ 0 K).trans ?_
 rw[aA (aC hs),aF (ahA (by omega) h hv.f)]
 have hc:aT (eX c v.f)=true:=by
  unfold eX
  split
  · split
    · rename_i t ht; exact(h.s.2 _ (List.mem_of_getElem? ht)).r
    · rfl
  · rfl
 have hvw:(BO x v.p (eX c v.f)).ok:=⟨hx,rQ hv.p,hc⟩
 have hc:=aav (M:=m) (by omega) ho.o hvw
 refine Eq.trans (show _=cl (m+1) 117 [.sl 6 (s.o.map Ru.t),(BO x v.p (eX c v.f)).t] _ from rfl) ?_
 refine(aF hc).trans ?_
 cases kM s.o (BO x v.p (eX c v.f))<;>rfl
theorem aoC {M:Nat} {c:Cf} {k:Nat} {x:Px} {v:Rt} {s:Sd} {r:T} (hM:2≤M) (hs:c.s[k]? =some s) (h:c.ok) (hv:v.ok):iY env (M+1) (nV c k x v (kL s.r c.a v.p.c).isSome r ((kL s.r c.a v.p.c).getD 0)):=fun β K=>by
 obtain⟨m,rfl⟩:=dL (show 1≤M by omega)
 have ho:=h.s.2 _ (List.mem_of_getElem? hs)
 refine(ap7 (m+1) c k x v r 0 K).trans ?_
 rw[aA (aC hs)]
 refine(aF (ahB (M:=m) (by omega) ho.r h.a hv.p.c)).trans ?_
 rfl
def anA (c:Cf) (u:Ru) (v:Rt):List T:=[.sl 1 (ints (List.replicate (1+u.n).toNat c.a)),.sl 1 (ints v.p.s)]
theorem aoD {M:Nat} {c:Cf} {k:Int} {x:Px} {v:Rt} {u:Ru} {o:Int} (hM:14≤M) (h:c.ok) (hv:v.ok) (h0:0≤u.n) (h8:u.n≤8) (h32:v.p.s.length≤32):
 iY env (M+1) (vk c k x v (decide ((jS c u v).length≤32)) u.t o (.sl 1 (ints (jS c u v))) (anA c u v)):=fun β K=>by
 obtain⟨m,rfl⟩:=dL (show 1≤M by omega)
 have hbg:=aQ
 refine(ap8 (m+1) c k x v u.t o K).trans ?_
 obtain⟨n,hn⟩:∃ n:Nat,u.n=n:=⟨u.n.toNat,by omega⟩
 have hr:=ahD (M:=m) (n:=n+1) (a:=c.a) (by omega) (by omega) (by omega) h.a
 have hlen:([List.replicate (n+1) c.a,v.p.s]:List (List Int)).flatten=jS c u v:=by
  unfold jS; rw[hn,show(1+(n:Int)).toNat=n+1 by omega]; simp
 have hpl:(jS c u v).length=n+1+v.p.s.length:=by rw[←hlen]; simp
 have ok2:bZ (bZ okI) [List.replicate (n+1) c.a,v.p.s]:=⟨show 2≤big by omega,fun y hy=>by
  simp only[List.mem_cons,List.not_mem_nil,or_false] at hy
  rcases hy with rfl|rfl
  · exact⟨by rw[List.length_replicate]; omega,fun z hz=>by rw[(List.mem_replicate.1 hz).2]; exact h.a⟩
  · exact rQ hv.p⟩
 have hc:=ahC (M:=m) (l:=[List.replicate (n+1) c.a,v.p.s]) (by simp; omega) ok2 (by rw[hlen,hpl]; omega)
 have e1:u.t.ay 5 1 false=i64 u.n:=rfl
 have e0:dB (T.oq 1) [i64 c.a]=fun(K:aj β)=>K:=rfl
 rw[e0,e1]
 simp only[bW]
 rw[hn,show(1:Int)+(n:Int)=((n+1:Nat):Int) by omega,EX (by omega),aF hr]
 refine Eq.trans (show _=cl (m+1) 122 [.sl 1 (List.map (fun a=>T.sl 1 (ints a)) [List.replicate (n+1) c.a,v.p.s])] _ from rfl) ?_
 refine(aF hc).trans ?_
 rw[hlen]
 unfold vk anA
 rw[hn,show(1+(n:Int)).toNat=n+1 by omega]
 have e2:decide ((((ints (jS c u v)).length:Nat):Int)≤32)=decide ((jS c u v).length≤32):=by rw[aX,List.length_map]; exact decide_eq_decide.2 (by omega)
 rw[←e2]
 rfl
end
section
open Go.RowKit Go.Proofs
variable [Lv]
theorem aiS {M:Nat} {c:Cf} {k:Int} {x:Px} {v:Rt} (hM:6≤M) (h:oZ env M [gK c k x v false]):iY env (M+1) (Uh c k x v false (T.agg [i64 0,i64 0,i64 0,i64 0,i64 0,i64 0]) 0):=by
 refine jZ h ?_
 refine(ame M c k x v false _).trans ?_
 have it:∀ n,bH (bU env (bI env M [gK c k x v false]) M 111 8 2) (n+1) (su c k x v (T.agg [i64 0,i64 0,i64 0,i64 0,i64 0,i64 0]) 0)= .ok (.ret,⟨slots 15 [(2,.t (.bool false))],BK c k x v (T.agg [i64 0,i64 0,i64 0,i64 0,i64 0,i64 0]) 0⟩):=fun n=>by
  exact eF (n:=n) ((ace M c k x v false).trans bG)
 obtain⟨n,hn⟩:∃ n,M=n+1:=⟨M - 1,by omega⟩
 have it':bH (bU env (bI env M [gK c k x v false]) M 111 8 2) M (su c k x v (T.agg [i64 0,i64 0,i64 0,i64 0,i64 0,i64 0]) 0)=_:=(congrArg (fun z=>bH (bU env (bI env M [gK c k x v false]) M 111 8 2) z (su c k x v (T.agg [i64 0,i64 0,i64 0,i64 0,i64 0,i64 0]) 0)) hn).trans (it n)
 exact(jA it').trans (OC M c k x v false _ _)
theorem aiT {M:Nat} {c:Cf} {k:Int} {x:Px} {v:Rt} (hM:6≤M) (h:oZ env M [gK c k x v true,jd c k x v false]):iY env (M+1) (Uh c k x v false (T.agg [i64 0,i64 0,i64 0,i64 0,i64 0,i64 0]) 0):=by
 refine jZ h ?_
 refine(afK M c k x v false _).trans ?_
 have it:∀ n,bH (bU env (bI env M [gK c k x v true,jd c k x v false]) M 111 8 2) (n+2) (su c k x v (T.agg [i64 0,i64 0,i64 0,i64 0,i64 0,i64 0]) 0)= .ok (.ret,⟨slots 15 [(2,.t (.bool false))],BK c k x v (T.agg [i64 0,i64 0,i64 0,i64 0,i64 0,i64 0]) 0⟩):=fun n=>by
  refine(aW (n:=n+1) (s':=NI c k x v (T.agg [i64 0,i64 0,i64 0,i64 0,i64 0,i64 0]) 0) ((Wq M c k x v false).trans bG)).trans ?_
  exact eF (n:=n) ((Ws M c k x v false).trans bG)
 obtain⟨n,hn⟩:∃ n,M=n+2:=⟨M - 2,by omega⟩
 have it':bH (bU env (bI env M [gK c k x v true,jd c k x v false]) M 111 8 2) M (su c k x v (T.agg [i64 0,i64 0,i64 0,i64 0,i64 0,i64 0]) 0)=_:=(congrArg (fun z=>bH (bU env (bI env M [gK c k x v true,jd c k x v false]) M 111 8 2) z (su c k x v (T.agg [i64 0,i64 0,i64 0,i64 0,i64 0,i64 0]) 0)) hn).trans (it n)
 exact(jA it').trans (JH M c k x v false _ _)
theorem aaZ {M:Nat} {c:Cf} {k:Int} {x:Px} {v:Rt} {r:T} (hM:6≤M) (h:oZ env M [gK c k x v true,jd c k x v true,kE c k x v false r]):iY env (M+1) (Uh c k x v false r 0):=by
 refine jZ h ?_
 refine(afL M c k x v false r _).trans ?_
 have it:∀ n,bH (bU env (bI env M [gK c k x v true,jd c k x v true,kE c k x v false r]) M 111 8 2) (n+3) (su c k x v (T.agg [i64 0,i64 0,i64 0,i64 0,i64 0,i64 0]) 0)= .ok (.ret,⟨slots 15 [(2,.t (.bool false))],BK c k x v r 0⟩):=fun n=>by
  refine(aW (n:=n+2) (s':=NI c k x v (T.agg [i64 0,i64 0,i64 0,i64 0,i64 0,i64 0]) 0) ((Wu M c k x v false r).trans bG)).trans ?_
  refine(aW (n:=n+1) (s':=Ul c k x v (T.agg [i64 0,i64 0,i64 0,i64 0,i64 0,i64 0]) 0) ((Wv M c k x v false r).trans bG)).trans ?_
  exact eF (n:=n) ((Wx M c k x v false r).trans bG)
 obtain⟨n,hn⟩:∃ n,M=n+3:=⟨M - 3,by omega⟩
 have it':bH (bU env (bI env M [gK c k x v true,jd c k x v true,kE c k x v false r]) M 111 8 2) M (su c k x v (T.agg [i64 0,i64 0,i64 0,i64 0,i64 0,i64 0]) 0)=_:=(congrArg (fun z=>bH (bU env (bI env M [gK c k x v true,jd c k x v true,kE c k x v false r]) M 111 8 2) z (su c k x v (T.agg [i64 0,i64 0,i64 0,i64 0,i64 0,i64 0]) 0)) hn).trans (it n)
 exact(jA it').trans (JI M c k x v false r _ _)
theorem aiU {M:Nat} {c:Cf} {k:Int} {x:Px} {v:Rt} {r:T} {o:Int} (hM:6≤M) (h:oZ env M [gK c k x v true,jd c k x v true,kE c k x v true r,nV c k x v false r o]):iY env (M+1) (Uh c k x v false r o):=by
 refine jZ h ?_
 refine(afM M c k x v false r o _).trans ?_
 have it:∀ n,bH (bU env (bI env M [gK c k x v true,jd c k x v true,kE c k x v true r,nV c k x v false r o]) M 111 8 2) (n+4) (su c k x v (T.agg [i64 0,i64 0,i64 0,i64 0,i64 0,i64 0]) 0)= .ok (.ret,⟨slots 15 [(2,.t (.bool false))],BK c k x v r o⟩):=fun n=>by
  refine(aW (n:=n+3) (s':=NI c k x v (T.agg [i64 0,i64 0,i64 0,i64 0,i64 0,i64 0]) 0) ((Wy M c k x v false r o).trans bG)).trans ?_
  refine(aW (n:=n+2) (s':=Ul c k x v (T.agg [i64 0,i64 0,i64 0,i64 0,i64 0,i64 0]) 0) ((WA M c k x v false r o).trans bG)).trans ?_
  refine(aW (n:=n+1) (s':=acI c k x v r 0) ((WB M c k x v false r o).trans bG)).trans ?_
  exact eF (n:=n) ((Sl M c k x v false r o).trans bG)
 obtain⟨n,hn⟩:∃ n,M=n+4:=⟨M - 4,by omega⟩
 have it':bH (bU env (bI env M [gK c k x v true,jd c k x v true,kE c k x v true r,nV c k x v false r o]) M 111 8 2) M (su c k x v (T.agg [i64 0,i64 0,i64 0,i64 0,i64 0,i64 0]) 0)=_:=(congrArg (fun z=>bH (bU env (bI env M [gK c k x v true,jd c k x v true,kE c k x v true r,nV c k x v false r o]) M 111 8 2) z (su c k x v (T.agg [i64 0,i64 0,i64 0,i64 0,i64 0,i64 0]) 0)) hn).trans (it n)
 exact(jA it').trans (JJ M c k x v false r o _ _)
theorem aiV {M:Nat} {c:Cf} {k:Int} {x:Px} {v:Rt} {r:T} {o:Int} {s:T} {f:List T} (hM:6≤M) (h:oZ env M [gK c k x v true,jd c k x v true,kE c k x v true r,nV c k x v true r o,vk c k x v false r o s f]):iY env (M+1) (Ui c k x v false r o s f):=by
 refine jZ h ?_
 refine(Vj M c k x v false r o s f _).trans ?_
 have it:∀ n,bH (bU env (bI env M [gK c k x v true,jd c k x v true,kE c k x v true r,nV c k x v true r o,vk c k x v false r o s f]) M 111 8 2) (n+5) (su c k x v (T.agg [i64 0,i64 0,i64 0,i64 0,i64 0,i64 0]) 0)= .ok (.ret,⟨slots 15 [(2,.t (.bool false))],Yv c k x v r o s f⟩):=fun n=>by
  refine(aW (n:=n+4) (s':=NI c k x v (T.agg [i64 0,i64 0,i64 0,i64 0,i64 0,i64 0]) 0) ((FI M c k x v false r o s f).trans bG)).trans ?_
  refine(aW (n:=n+3) (s':=Ul c k x v (T.agg [i64 0,i64 0,i64 0,i64 0,i64 0,i64 0]) 0) ((FK M c k x v false r o s f).trans bG)).trans ?_
  refine(aW (n:=n+2) (s':=acI c k x v r 0) ((FM M c k x v false r o s f).trans bG)).trans ?_
  refine(aW (n:=n+1) (s':=akH c k x v r o) ((FN M c k x v false r o s f).trans bG)).trans ?_
  exact eF (n:=n) ((FP M c k x v false r o s f).trans bG)
 obtain⟨n,hn⟩:∃ n,M=n+5:=⟨M - 5,by omega⟩
 have it':bH (bU env (bI env M [gK c k x v true,jd c k x v true,kE c k x v true r,nV c k x v true r o,vk c k x v false r o s f]) M 111 8 2) M (su c k x v (T.agg [i64 0,i64 0,i64 0,i64 0,i64 0,i64 0]) 0)=_:=(congrArg (fun z=>bH (bU env (bI env M [gK c k x v true,jd c k x v true,kE c k x v true r,nV c k x v true r o,vk c k x v false r o s f]) M 111 8 2) z (su c k x v (T.agg [i64 0,i64 0,i64 0,i64 0,i64 0,i64 0]) 0)) hn).trans (it n)
 exact(jA it').trans (JK M c k x v false r o s f _ _)
theorem aiW {M:Nat} {c:Cf} {k:Int} {x:Px} {v:Rt} {r:T} {o:Int} {s:T} {f:List T} (hM:6≤M) (h:oZ env M [gK c k x v true,jd c k x v true,kE c k x v true r,nV c k x v true r o,vk c k x v true r o s f]):iY env (M+1) (Ui c k x v true r o s f):=by
 refine jZ h ?_
 refine(Vj M c k x v true r o s f _).trans ?_
 have it:∀ n,bH (bU env (bI env M [gK c k x v true,jd c k x v true,kE c k x v true r,nV c k x v true r o,vk c k x v true r o s f]) M 111 8 2) (n+6) (su c k x v (T.agg [i64 0,i64 0,i64 0,i64 0,i64 0,i64 0]) 0)= .ok (.exit 0,⟨slots 15 [],Yv c k x v r o s f⟩):=fun n=>by
  refine(aW (n:=n+5) (s':=NI c k x v (T.agg [i64 0,i64 0,i64 0,i64 0,i64 0,i64 0]) 0) ((FI M c k x v true r o s f).trans bG)).trans ?_
  refine(aW (n:=n+4) (s':=Ul c k x v (T.agg [i64 0,i64 0,i64 0,i64 0,i64 0,i64 0]) 0) ((FK M c k x v true r o s f).trans bG)).trans ?_
  refine(aW (n:=n+3) (s':=acI c k x v r 0) ((FM M c k x v true r o s f).trans bG)).trans ?_
  refine(aW (n:=n+2) (s':=akH c k x v r o) ((FN M c k x v true r o s f).trans bG)).trans ?_
  refine(aW (n:=n+1) (s':=anP c k x v r o s f) ((FP M c k x v true r o s f).trans bG)).trans ?_
  exact eH (n:=n) (Sm M c k x v true r o s f)
 obtain⟨n,hn⟩:∃ n,M=n+6:=⟨M - 6,by omega⟩
 have it':bH (bU env (bI env M [gK c k x v true,jd c k x v true,kE c k x v true r,nV c k x v true r o,vk c k x v true r o s f]) M 111 8 2) M (su c k x v (T.agg [i64 0,i64 0,i64 0,i64 0,i64 0,i64 0]) 0)=_:=(congrArg (fun z=>bH (bU env (bI env M [gK c k x v true,jd c k x v true,kE c k x v true r,nV c k x v true r o,vk c k x v true r o s f]) M 111 8 2) z (su c k x v (T.agg [i64 0,i64 0,i64 0,i64 0,i64 0,i64 0]) 0)) hn).trans (it n)
 exact(jA it').trans (JG M c k x v true r o s f _ _)
end
section
open Go.RowKit Go.Proofs
def zP:T:=T.agg [i64 0,T.sl 1 [],i64 0,i64 0]
def G7:Option Pa→T
 |some p=> .au [p.t,.bool true]
 |none=> .au [zP,.bool false]
variable [Lv]
theorem Sv {M:Nat} {c:Cf} {k:Int} {x:Px} {v:Rt} {o:Int} {r:T} (hw:T.wfs [c.t,i64 k,x.t,v.t]=true) (h:iY env M (Uh c k x v false r o)):ak env (M+1) 81 [c.t,i64 k,x.t,v.t]= .ok (.au [zP,.bool false]):=
 lT (ps:=[Uh c k x v false r o]) ⟨h,trivial⟩ hw rfl ((aqB M c k x v false r o).trans (mD ⟨rfl,rfl⟩))
theorem aox {M:Nat} {c:Cf} {k:Int} {x:Px} {v:Rt} {o:Int} {r s:T} {f:List T} (hw:T.wfs [c.t,i64 k,x.t,v.t]=true) (h:iY env M (Ui c k x v false r o s f)):ak env (M+1) 81 [c.t,i64 k,x.t,v.t]= .ok (.au [zP,.bool false]):=
 lT (ps:=[Ui c k x v false r o s f]) ⟨h,trivial⟩ hw rfl ((aeT M c k x v false r o s f).trans (mD ⟨rfl,rfl⟩))
theorem aoy {M:Nat} {c:Cf} {k:Int} {x:Px} {v:Rt} {o:Int} {r:T} {l:List Int} {f:List T} (hw:T.wfs [c.t,i64 k,x.t,v.t]=true) (h:iY env M (Ui c k x v true r o (.sl 1 (ints l)) f)):ak env (M+1) 81 [c.t,i64 k,x.t,v.t]= .ok (.au [(Pa.mk v.p.o l c.d o).t,.bool true]):=
 lT (ps:=[Ui c k x v true r o (.sl 1 (ints l)) f]) ⟨h,trivial⟩ hw rfl ((aeT M c k x v true r o (.sl 1 (ints l)) f).trans (mD ⟨rfl,rfl⟩))
theorem alE {M:Nat} {c:Cf} {k:Int} {x:Px} {v:Rt} (hM:big+18≤M) (h:c.ok) (hk:aT k=true) (hx:x.ok) (hv:v.ok):ak env (M+1) 81 [c.t,i64 k,x.t,v.t]= .ok (G7 (mM c k x v)):=by
 obtain⟨m,rfl⟩:=dL (show 1≤M by omega)
 obtain⟨m,rfl⟩:=dL (show 1≤m by omega)
 have hw:T.wfs [c.t,i64 k,x.t,v.t]=true:=by
  have h1:=h.wf; have h2:=bg hk; have h3:=hx.wf; have h4:=hv.wf
  simp only[T.wfs,h1,h2,h3,h4,Bool.and_self]
 have g1:=aoz (M:=m) (c:=c) (k:=k) (x:=x) (v:=v) (by omega) h hk hx hv
 unfold mM
 cases e1:dF c&&(hasB c k&&(dA x&&nK v)) with
 |false=>
  rw[e1] at g1
  exact Sv hw (aiS (M:=m+1) (by omega) ⟨g1,trivial⟩)
 |true=>
 rw[e1] at g1
 have g2:=aoA (M:=m) (c:=c) (k:=k) (x:=x) (v:=v)
 simp only[Bool.true_and]
 cases e2:decide (v.f≠k)&&decide (v.f < (c.s.length:Int)) with
 |false=>
  rw[e2] at g2
  exact Sv hw (aiT (M:=m+1) (by omega) ⟨g1,g2,trivial⟩)
 |true=>
 rw[e2] at g2
 simp only[if_true]
 simp only[Bool.and_eq_true] at e1
 obtain⟨i,s,rfl,hi,hs⟩:=wO e1.2.1
 rw[Int.toNat_natCast,hs]
 simp only[]
 have g3:=aoB (M:=m) (c:=c) (x:=x) (v:=v) (by omega) hs h hx hv
 cases e3:kM s.o (BO x v.p (eX c v.f)) with
 |none=>
  rw[e3] at g3
  exact Sv hw (aaZ (M:=m+1) (by omega) ⟨g1,g2,g3,trivial⟩)
 |some u=>
 rw[e3] at g3
 simp only[] at g3
 show _=aj.ok (G7 (if u.a=0 then none else match kL s.r c.a v.p.c with|some m=>if (jS c u v).length≤32 then some ⟨v.p.o,jS c u v,c.d,m⟩ else none|none=>none))
 by_cases e4:u.a=0
 · rw[e4,bne_self_eq_false] at g3
   rw[if_pos e4]
   exact Sv hw (aaZ (M:=m+1) (by omega) ⟨g1,g2,g3,trivial⟩)
 rw[bne_iff_ne.2 e4] at g3
 rw[if_neg e4]
 have g4:=aoC (M:=m) (c:=c) (x:=x) (v:=v) (r:=u.t) (by omega) hs h hv
 cases e5:kL s.r c.a v.p.c with
 |none=>
  rw[e5] at g4
  exact Sv hw (aiU (M:=m+1) (by omega) ⟨g1,g2,g3,g4,trivial⟩)
 |some o=>
 rw[e5] at g4
 obtain⟨s1,s2,s3,s4,s5,s6⟩:=mX e1.1 hs
 obtain⟨u1,u2⟩:=Kw (s6 u (tJ e3).1) e4
 have h32:v.p.s.length≤32:=by
  have:=e1.2.2.2
  unfold nK at this
  simp only[Bool.and_eq_true,decide_eq_true_eq] at this
  exact this.2.1
 have g5:=aoD (M:=m) (c:=c) (k:=(i:Int)) (x:=x) (v:=v) (u:=u) (o:=o) (by omega) h hv u1 u2 h32
 simp only[]
 by_cases e6:(jS c u v).length≤32
 · rw[decide_eq_true e6] at g5
   rw[if_pos e6]
   exact aoy hw (aiW (M:=m+1) (by omega) ⟨g1,g2,g3,g4,g5,trivial⟩)
 · rw[decide_eq_false e6] at g5
   rw[if_neg e6]
   exact aox hw (aiV (M:=m+1) (by omega) ⟨g1,g2,g3,g4,g5,trivial⟩)
end
section
open Go.RowKit Go.Proofs
variable [Lv]
theorem XW {c:Cf} {k:Int} {x:Px} {p:Pa} {r:Rt} (h:wQ c k x p=some r) (hc:c.ok) (hk:aT k=true) (hp:p.ok):r.ok:=by
 obtain⟨h1,h2,h3,i,s,m,u,rfl,hi,hs,h4,h5,h6,h7,h8,h9,rfl⟩:=mY h
 have ho:=hc.s.2 _ (List.mem_of_getElem? hs)
 obtain⟨s1,s2,s3,s4,s5,s6⟩:=mX h1 hs
 obtain⟨p1,p2,p3,p4,p5,p6,p7,p8⟩:=uh h3
 have hm:aT m=true:=by
  have:=Ej p7 s1
  have:=X4 p8 s2
  refine iE.2 ?_
  unfold ou at h7
  repeat' split at h7
  all_goals first|(injection h7 with h7; omega)|cases h7
 exact⟨(ho.i.2 u (tJ h8).1).n,⟨hp.o,hp.l,hp.s,hp.h,hm⟩,hk⟩
def zRt:Rt:=⟨0,⟨0,[],0,0⟩,0⟩
def zPa:Pa:=⟨0,[],0,0⟩
theorem Jl (o:Option Rt):BJ o= .au [(o.getD zRt).t,.bool o.isSome]:=by cases o<;>rfl
theorem oz {r:Rt}:(r.t.cells.length==6&& !r.t.aV)=true:=rfl
theorem X5 {p:Pa}:(p.t.cells.length==4&& !p.t.aV)=true:=rfl
end
section
open Go.RowKit Go.Proofs
variable [Lv]
theorem Rn {c:Cf} {k:Int} {x:Px} {r:Rt} {q:Pa} (h:mM c k x r=some q) (hc:c.ok) (hr:r.ok):q.ok:=by
 have hq:=(vF h).2.2.1
 have hl:=(vF h).2.2.2.2.2.2.1
 obtain⟨p1,p2,p3,p4,p5,p6,p7,p8⟩:=uh hq
 have hb:=aQ
 refine⟨iE.2 (by omega),by omega,fun n hn=>iE.2 (by have:=p1 n hn; omega),iE.2 (by omega),iE.2 (by omega)⟩
end
section
open Go.RowKit Go.Proofs
variable [Lv]
theorem XY {α:Type} (f:α→α) (s:Nat) (a:α):yY f (s+1) a=yY f s (f a):=by
 have:=aaN f 1 a s
 rw[Nat.add_comm] at this
 exact this
def lV (t:List Cf) (L:List (List Ch)):Bool:=decide (t.length≤8)&&decide (nextR t L=L)
def lM (t:List Cf):Nat→List (List Ch)→List (List Ch)×Bool
 |0,L=>(L,lV t L)
 |n+1,L=>if lV t L=true then(L,true) else lM t n (nextR t L)
def jD (n:Nat):Nat:=2*min n 8*min n 8+4*min n 8+10
def iL (t:List Cf):List (List Ch)×Bool:=lM t (jD t.length) (oh t)
theorem J8 (t:List Cf):∀ (n:Nat) (L:List (List Ch)),(lM t n L).2=lV t (lM t n L).1
 |0,L=>rfl
 |n+1,L=>by
  unfold lM
  by_cases h:lV t L=true
  · rw[if_pos h]; exact h.symm
  · rw[if_neg h]; exact J8 t n _
theorem aaG (t:List Cf):∀ (n:Nat) (L:List (List Ch)),∃ s,s≤n∧(lM t n L).1=yY (nextR t) s L
 |0,L=>⟨0,Nat.le_refl _,rfl⟩
 |n+1,L=>by
  unfold lM
  by_cases h:lV t L=true
  · rw[if_pos h]; exact⟨0,Nat.zero_le _,rfl⟩
  · rw[if_neg h]
    obtain⟨s,h1,h2⟩:=aaG t n (nextR t L)
    exact⟨s+1,by omega,by rw[h2,XY]⟩
theorem U0 (t:List Cf):∀ (n:Nat) (L:List (List Ch)) (s:Nat),s≤n→lV t (yY (nextR t) s L)=true→(lM t n L).2=true
 |0,L,s,hs,h=>by
  obtain rfl:s=0:=by omega
  exact h
 |n+1,L,s,hs,h=>by
  unfold lM
  by_cases h0:lV t L=true
  · rw[if_pos h0]
  · rw[if_neg h0]
    cases s with
    |zero=>exact absurd h h0
    |succ s=>exact U0 t n _ s (by omega) (by rw[←XY]; exact h)
theorem Ai {t:List Cf} {L:List (List Ch)} (h:lV t L=true):nextR t L=L:=by
 unfold lV at h
 simp only[Bool.and_eq_true,decide_eq_true_eq] at h
 exact h.2
theorem XT {t:List Cf} {L:List (List Ch)} (h:lV t L=true):∀ s,yY (nextR t) s L=L
 |0=>rfl
 |s+1=>by show nextR t (yY (nextR t) s L)=L; rw[XT h s,Ai h]
theorem ae7 {t:List Cf} (hg:nP t) (L:List (List Ch)):lV t (yY (nextR t) (t.length*(t.length+1)+1) L)=true:=by
 unfold lV
 rw[decide_eq_true hg.most,Bool.true_and,decide_eq_true_eq]
 have e:nextR t (yY (nextR t) (t.length*(t.length+1)+1) L)=yY (nextR t) (t.length*(t.length+1)+1+1) L:=rfl
 rw[e,XY]
 exact conv hg _ _ (Nat.le_refl _)
theorem RI {n:Nat} (h:n≤8):n*(n+1)+1≤jD n:=by
 unfold jD
 rw[Nat.min_eq_left h]
 have:2*n*n=2*(n*n):=Nat.mul_assoc _ _ _
 rw[Nat.mul_add,this]
 omega
theorem air {t:List Cf} (hg:nP t) {L L':List (List Ch)} (h:lV t L=true) (h':lV t L'=true):L=L':=by
 have:=conv hg L L' (Nat.le_refl _)
 rw[XT h,XT h'] at this
 exact this
theorem qm {t:List Cf} (hg:nP t) (L:List (List Ch)):lV t (lM t (jD t.length) L).1=true∧(lM t (jD t.length) L).1=(iL t).1∧(iL t).2=true:=by
 have h1:∀ L,(lM t (jD t.length) L).2=true:=fun L=>U0 t _ L _ (RI hg.most) (ae7 hg L)
 have h2:∀ L,lV t (lM t (jD t.length) L).1=true:=fun L=>by rw[←J8]; exact h1 L
 exact⟨h2 L,air hg (h2 L) (h2 (oh t)),h1 _⟩
theorem VI (t:List Cf) (i k:Nat):pO t [] i k= []:=by
 unfold pO
 cases iI t i k with
 |none=>rfl
 |some p=>
  obtain⟨j,m⟩:=p
  simp only
  cases t[j]? <;>rfl
theorem EH (t:List Cf):nextR t []=oh t:=by
 unfold nextR oh
 split
 · refine List.ext_getElem? fun i=>?_
   rw[List.getElem?_map,List.getElem?_zipIdx,List.getElem?_map]
   cases t[i]? with
   |none=>rfl
   |some c=>
    simp only[Option.map_some]
    have:jU t [] (0+i) c=c.s.map fun _=>([]:List En):=by
     unfold jU
     refine List.ext_getElem? fun k=>?_
     rw[List.getElem?_map,List.getElem?_map]
     by_cases hk:k < c.s.length
     · rw[List.getElem?_range hk,List.getElem?_eq_getElem hk]
       simp only[Option.map_some,VI]
     · rw[List.getElem?_eq_none (by rw[List.length_range]; omega),List.getElem?_eq_none (by omega)]; rfl
    rw[this]
 · rfl
theorem KL {t:List Cf} (hg:nP t):(iL t).1.length=t.length:=by
 have h:=(qm hg []).1
 rw[(qm hg []).2.1] at h
 rw[←Ai h,pz hg.most]
def OJ (t:List Cf) (L:List (List Ch)):List Px:=t.flatMap Cf.w++L.flatMap fun l=>l.map Ch.x
structure BQ (U:List Px) (L:List (List Ch)):Prop where
 ok:∀ l∈L,∀ e∈l,e.ok
 mem:∀ l∈L,∀ e∈l,e.x∈U
 len:∀ l∈L,l.length≤U.length
theorem fits_all (t:List Cf) {L:List (List Ch)} (h:∀ l∈L,∀ e∈l,e.ok):BQ (OJ t L) L where
 ok:=h
 mem l hl e he:=List.mem_append_right _ (List.mem_flatMap.2 ⟨l,hl,List.mem_map.2 ⟨e,he,rfl⟩⟩)
 len l hl:=by
  unfold OJ
  rw[List.length_append]
  have:l.length≤(L.flatMap fun l=>l.map Ch.x).length:=by
   clear h
   induction L with
   |nil=>cases hl
   |cons a L ih=>
    rw[List.flatMap_cons,List.length_append]
    rcases List.mem_cons.1 hl with rfl|hl
    · rw[List.length_map]; omega
    · have:=ih hl; omega
  omega
theorem afc {U:List Px} {L:List (List Ch)} (h:BQ U L) (j:Nat):(∀ e∈L.getD j [],e.ok)∧(∀ e∈L.getD j [],e.x∈U)∧(L.getD j []).length≤U.length:=by
 rw[List.getD_eq_getElem?_getD]
 cases hl:L[j]? with
 |none=>exact⟨by simp,by simp,Nat.zero_le _⟩
 |some l=>have hm:=List.mem_of_getElem? hl; exact⟨h.ok l hm,h.mem l hm,h.len l hm⟩
theorem adx {c:Cf} {k:Int} {l:List Ch} {U:List Px} (hc:c.ok) (h1:∀ e∈l,e.ok) (h2:∀ e∈l,e.x∈U):(∀ e∈xC c k l,e.ok)∧∀ e∈xC c k l,e.x∈U:=by
 refine⟨fun e he=>?_,fun e he=>?_⟩
 · obtain⟨_,r,hr,hp⟩:=Aj.1 he
   exact⟨(h1 _ hr).x,Rn hp hc (h1 _ hr).r⟩
 · obtain⟨_,r,hr,hp⟩:=Aj.1 he
   exact h2 _ hr
theorem Hl {t:List Cf} {L:List (List Ch)} {U:List Px} (ht:∀ c∈t,c.ok) (h:BQ U L) (i k:Nat):(∀ e∈pO t L i k,e.ok)∧(∀ e∈pO t L i k,e.x∈U)∧(pO t L i k).length≤U.length:=by
 unfold pO
 cases iI t i k with
 |none=>exact⟨by simp,by simp,Nat.zero_le _⟩
 |some p=>
  obtain⟨j,m⟩:=p
  simp only
  cases hd:t[j]? with
  |none=>exact⟨by simp,by simp,Nat.zero_le _⟩
  |some d=>
   obtain⟨g1,g2,g3⟩:=afc h j
   obtain⟨w1,w2⟩:=adx (k:=m) (ht d (List.mem_of_getElem? hd)) g1 g2
   exact⟨w1,w2,Nat.le_trans (VO _ _ _) g3⟩
theorem ads {t:List Cf} {L:List (List Ch)} {U:List Px} {i:Nat} {c:Cf} (ht:∀ c∈t,c.ok) (hc:t[i]? =some c) (h:BQ U L) (hw:∀ x∈c.w,x∈U):(∀ x∈iZ c (jU t L i c),x∈U)∧(iZ c (jU t L i c)).length≤c.w.length+c.s.length*U.length:=by
 have hin:∀ l∈jU t L i c,∃ k,l=pO t L i k:=fun l hl=>by
  unfold jU at hl
  obtain⟨k,_,rfl⟩:=List.mem_map.1 hl
  exact⟨k,rfl⟩
 unfold iZ
 refine⟨fun x hx=>?_,?_⟩
 · rcases List.mem_append.1 hx with hx|hx
   · exact hw x hx
   · obtain⟨l,hl,h2⟩:=List.mem_flatMap.1 hx
     obtain⟨e,he,rfl⟩:=List.mem_map.1 h2
     obtain⟨k,rfl⟩:=hin l (List.mem_of_mem_take hl)
     exact(Hl ht h i k).2.1 e he
 · rw[List.length_append]
   have main:∀ m:List (List En),(∀ l∈m,l.length≤U.length)→(m.flatMap fun l=>l.map En.x).length≤m.length*U.length:=by
    intro m
    induction m with
    |nil=>intro _; simp
    |cons a m ih=>
     intro hm
     rw[List.flatMap_cons,List.length_append,List.length_map,List.length_cons,Nat.succ_mul]
     have:=ih fun l hl=>hm l (List.mem_cons_of_mem _ hl)
     have:=hm a List.mem_cons_self
     omega
   have h1:=main ((jU t L i c).take c.s.length) fun l hl=>by
    obtain⟨k,rfl⟩:=hin l (List.mem_of_mem_take hl)
    exact(Hl ht h i k).2.2
   have h2:((jU t L i c).take c.s.length).length≤c.s.length:=by rw[List.length_take]; omega
   have:=Nat.mul_le_mul_right U.length h2
   omega
theorem LV {α:Type} [DecidableEq α]:∀ (l m:List α),l.Nodup→(∀ x∈l,x∈m)→l.length≤m.length
 | [],m,_,_=>Nat.zero_le _
 |x::l,m,hn,h=>by
  obtain⟨h1,h2⟩:=List.nodup_cons.1 hn
  have hm:=h x List.mem_cons_self
  have:=LV l (m.erase x) h2 fun y hy=>(List.mem_erase_of_ne (by rintro rfl; exact h1 hy)).2 (h y (List.mem_cons_of_mem _ hy))
  rw[List.length_erase_of_mem hm] at this
  have hp:0 < m.length:=List.length_pos_of_mem hm
  rw[List.length_cons]; omega
theorem abV (c:Cf) (t:List (List En)):((kH c t).map Ch.x).Nodup:=by
 rw[List.nodup_iff_pairwise_ne,List.pairwise_map]
 exact List.Pairwise.imp (fun h e=>by rw[e] at h; exact fZ _ h) (sN c t)
theorem afz {c:Cf} {t:List (List En)} {e:Ch} (h:e∈kH c t):e.x∈iZ c t:=by
 unfold kH at h
 obtain⟨x,hx,h2⟩:=List.mem_filterMap.1 h
 rw[(jY.1 h2).1]
 exact mem_keys.1 hx
theorem aac {c:Cf} {t:List (List En)} {x:Px} (h:c.ok) (hb:c.s.length≤big) (ht:∀ l∈t,∀ e∈l,e.ok):∀ r∈gq c t x,r.ok:=fun r hr=>by
 rcases(nH.1 hr).2 with ⟨_,rfl⟩|⟨k,l,p,h1,h2,h3,h4⟩
 · exact Em h.d
 · have:=aQ
   exact XW h4 h (iE.2 (by omega)) (ht l (List.mem_of_getElem? h2) _ (lX (pq.1 h3))).p
theorem ab7 {t:List Cf} {L:List (List Ch)} {U:List Px} (ht:∀ c∈t,c.ok) (hU:∀ x∈U,x.ok) (hw:∀ c∈t,∀ x∈c.w,x∈U) (h:BQ U L):BQ U (nextR t L):=by
 have hin:∀ l∈nextR t L,∃ i c,t[i]? =some c∧l=kH c (jU t L i c):=fun l hl=>by
  unfold nextR at hl
  split at hl
  · obtain⟨p,hp,rfl⟩:=List.mem_map.1 hl
    obtain⟨i,hi⟩:=List.mem_iff_getElem?.1 hp
    rw[List.getElem?_zipIdx] at hi
    obtain⟨c,hc,rfl⟩:=Option.map_eq_some_iff.1 hi
    exact⟨i,c,hc,by simp⟩
  · cases hl
 have mem:∀ l∈nextR t L,∀ e∈l,e.x∈U:=fun l hl e he=>by
  obtain⟨i,c,hc,rfl⟩:=hin l hl
  exact(ads ht hc h (hw c (List.mem_of_getElem? hc))).1 _ (afz he)
 refine⟨fun l hl e he=>?_,mem,fun l hl=>?_⟩
 · have hx:=hU _ (mem l hl e he)
   obtain⟨i,c,hc,rfl⟩:=hin l hl
   have hco:=ht c (List.mem_of_getElem? hc)
   refine⟨hx,aac (t:=jU t L i c) hco hco.s.1 (fun l hl e he=>?_) _ (kR (yV.1 he)).1⟩
   unfold jU at hl
   obtain⟨k,_,rfl⟩:=List.mem_map.1 hl
   exact(Hl ht h i k).1 e he
 · have h2:=mem l hl
   obtain⟨i,c,hc,rfl⟩:=hin l hl
   have:=LV _ U (abV c (jU t L i c)) fun x hx=>by
    obtain⟨e,he,rfl⟩:=List.mem_map.1 hx
    exact h2 e he
   rw[List.length_map] at this
   exact this
end
section
abbrev dH (L:List (List Ch)):List T:=L.map fun l=> .sl 8 (l.map Ch.t)
theorem jL {L:List (List Ch)} {i:Nat} {l:List Ch} (h:L[i]? =some l):(dH L)[i]? =some (.sl 8 (l.map Ch.t)):=by simp[dH,h]
theorem xW (L:List (List Ch)):(dH L).length=L.length:=by simp[dH]
def cu3 (a:Int):Sd:=⟨a,1,[⟨0,⟨0,0⟩,0,2,300⟩],[⟨0,⟨0,0⟩,0,1,0⟩]⟩
def pr3 (a:Int):Sd:=⟨a,3,[⟨0,⟨0,0⟩,0,2,100⟩],[⟨4,⟨0,0⟩,0,1,0⟩,⟨4,⟨0,0⟩,1,1,0⟩]⟩
def x3:Px:=⟨167772160,8⟩
def Fz:List Lk:=[⟨0,1,3⟩,⟨2,1,3⟩]
def uf:List Cf:=[⟨65001,167772161,90,1000,[x3],[pr3 65002]⟩,⟨65002,167772162,90,1000,[],[cu3 65001,cu3 65003]⟩,⟨65003,167772163,90,1000,[],[pr3 65002]⟩]
def F8:List (List Ch):=[[⟨x3,⟨400,⟨0,[],167772161,0⟩,-1⟩⟩],[⟨x3,⟨300,⟨0,[65001],167772161,0⟩,0⟩⟩],[⟨x3,⟨100,⟨0,[65002,65001],167772162,65002⟩,0⟩⟩]]
end
end Go.aP
