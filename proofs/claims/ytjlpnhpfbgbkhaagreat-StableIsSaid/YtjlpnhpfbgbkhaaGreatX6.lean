/- The texts of a proof, one behind the other: an interpreter and its soundness, what the functions of the program answer, and plain laws on that. -/
import Derived.Test.YtjlpnhpfbgbkhaaGreatX1
import Derived.Test.YtjlpnhpfbgbkhaaGreatK9
import Derived.Test.YtjlpnhpfbgbkhaaGreatX4
import Derived.Test.YtjlpnhpfbgbkhaaGreatX3
import Derived.Test.YtjlpnhpfbgbkhaaGreatX2
import Derived.Test.YtjlpnhpfbgbkhaaGreatX5
set_option linter.unusedVariables false
set_option linter.unusedSimpArgs false
set_option linter.unnecessarySimpa false
set_option linter.unusedSectionVars false
set_option maxRecDepth 100000
namespace Go.aT
section
open Go.RowKit Go.Proofs
variable [Lv]
def wo:List PV:=[.fn 112 [] [.ptr 0 0,.ptr 1 0,.ptr 2 0,.ptr 3 0],.fn 115 [] [.ptr 3 0,.ptr 1 0,.ptr 0 0],.fn 116 [] [.ptr 0 0,.ptr 1 0,.ptr 2 0,.ptr 3 0,.ptr 5 0],.fn 119 [] [.ptr 0 0,.ptr 1 0,.ptr 3 0,.ptr 6 0],.fn 121 [] [.ptr 0 0,.ptr 5 0,.ptr 3 0,.ptr 6 0]]
def ako (c:Cf) (k:Int) (x:Px) (v:Rt) (r:T):List aj:=[.box 56 6 (.t c.t),.box 3 1 (.t (i64 k)),.box 25 2 (.t x.t),.box 44 6 (.t v.t),.box 42 4 (.agg [.t (i64 0),.nil 3 1,.t (i64 0),.t (i64 0)]),.box 123 6 (.t r),.box 42 4 (.agg [.t (i64 v.p.o),.nil 3 1,.t (i64 c.d),.t (i64 0)]),.vec 26 1 5 wo]
def Bo (c:Cf) (k:Int) (x:Px) (v:Rt) (r:T) (o:Int):List aj:=[.box 56 6 (.t c.t),.box 3 1 (.t (i64 k)),.box 25 2 (.t x.t),.box 44 6 (.t v.t),.box 42 4 (.agg [.t (i64 0),.own 8,.t (i64 0),.t (i64 0)]),.box 123 6 (.t r),.box 42 4 (.agg [.t (i64 v.p.o),.own 9,.t (i64 c.d),.t (i64 o)]),.vec 26 1 5 wo,.row 3 1 [],.row 3 1 []]
def Yi (c:Cf) (k:Int) (x:Px) (v:Rt) (r:T) (o:Int) (s:T) (f:List T):List aj:=[.box 56 6 (.t c.t),.box 3 1 (.t (i64 k)),.box 25 2 (.t x.t),.box 44 6 (.t v.t),.box 42 4 (.agg [.t (i64 0),.own 8,.t (i64 0),.t (i64 0)]),.box 123 6 (.t r),.box 42 4 (.t (.agg [i64 v.p.o,s,i64 c.d,i64 o])),.vec 26 1 5 wo,.row 3 1 [],.row 3 1 [],.jT 31 1 f]
def tV (c:Cf) (k:Int) (x:Px) (v:Rt):List aj:=[aj.box 56 6 (PV.t c.t),aj.box 3 1 (PV.t (i64 k)),aj.box 25 2 (PV.t x.t),aj.box 44 6 (PV.t v.t),aj.box 42 4 (PV.agg [PV.t (i64 0),PV.own 8,PV.t (i64 0),PV.t (i64 0)]),aj.box 123 6 (PV.t (T.agg [i64 0,i64 0,i64 0,i64 0,i64 0,i64 0])),aj.box 42 4 (PV.agg [PV.t (i64 v.p.o),PV.own 9,PV.t (i64 c.d),PV.t (i64 0)]),aj.vec 26 1 5 [PV.fn 112 [] [PV.ptr 0 0,PV.ptr 1 0,PV.ptr 2 0,PV.ptr 3 0],PV.fn 115 [] [PV.ptr 3 0,PV.ptr 1 0,PV.ptr 0 0],PV.fn 116 [] [PV.ptr 0 0,PV.ptr 1 0,PV.ptr 2 0,PV.ptr 3 0,PV.ptr 5 0],PV.fn 119 [] [PV.ptr 0 0,PV.ptr 1 0,PV.ptr 3 0,PV.ptr 6 0],PV.fn 121 [] [PV.ptr 0 0,PV.ptr 5 0,PV.ptr 3 0,PV.ptr 6 0]],aj.row 3 1 [],aj.row 3 1 []]
def xw (c:Cf) (k:Int) (x:Px) (v:Rt) (o:Int):List aj:=[aj.box 56 6 (PV.t c.t),aj.box 3 1 (PV.t (i64 k)),aj.box 25 2 (PV.t x.t),aj.box 44 6 (PV.t v.t),aj.box 42 4 (PV.agg [PV.t (i64 0),PV.own 8,PV.t (i64 0),PV.t (i64 0)]),aj.box 123 6 (PV.t (T.agg [i64 0,i64 0,i64 0,i64 0,i64 0,i64 0])),aj.box 42 4 (PV.agg [PV.t (i64 v.p.o),PV.own 9,PV.t (i64 c.d),PV.t (i64 0)]),aj.vec 26 1 5 [PV.fn 112 [] [PV.ptr 0 0,PV.ptr 1 0,PV.ptr 2 0,PV.ptr 3 0],PV.fn 115 [] [PV.ptr 3 0,PV.ptr 1 0,PV.ptr 0 0],PV.fn 116 [] [PV.ptr 0 0,PV.ptr 1 0,PV.ptr 2 0,PV.ptr 3 0,PV.ptr 5 0],PV.fn 119 [] [PV.ptr 0 0,PV.ptr 1 0,PV.ptr 3 0,PV.ptr 6 0],PV.fn 121 [] [PV.ptr 0 0,PV.ptr 5 0,PV.ptr 3 0,PV.ptr 6 0]],aj.row 3 1 [],aj.row 3 1 []]
def Gf (c:Cf) (k:Int) (x:Px) (v:Rt) (r:T) (o:Int):List aj:=[aj.box 56 6 (PV.t c.t),aj.box 3 1 (PV.t (i64 k)),aj.box 25 2 (PV.t x.t),aj.box 44 6 (PV.t v.t),aj.box 42 4 (PV.agg [PV.t (i64 0),PV.own 8,PV.t (i64 0),PV.t (i64 0)]),aj.box 123 6 (PV.t r),aj.box 42 4 (PV.agg [PV.t (i64 v.p.o),PV.own 9,PV.t (i64 c.d),PV.t (i64 o)]),aj.vec 26 1 5 [PV.fn 112 [] [PV.ptr 0 0,PV.ptr 1 0,PV.ptr 2 0,PV.ptr 3 0],PV.fn 115 [] [PV.ptr 3 0,PV.ptr 1 0,PV.ptr 0 0],PV.fn 116 [] [PV.ptr 0 0,PV.ptr 1 0,PV.ptr 2 0,PV.ptr 3 0,PV.ptr 5 0],PV.fn 119 [] [PV.ptr 0 0,PV.ptr 1 0,PV.ptr 3 0,PV.ptr 6 0],PV.fn 121 [] [PV.ptr 0 0,PV.ptr 5 0,PV.ptr 3 0,PV.ptr 6 0]],aj.row 3 1 [],aj.row 3 1 []]
def Yb (c:Cf) (k:Int) (x:Px) (v:Rt) (r:T) (o:Int):List aj:=[aj.box 56 6 (PV.t c.t),aj.box 3 1 (PV.t (i64 k)),aj.box 25 2 (PV.t x.t),aj.box 44 6 (PV.t v.t),aj.box 42 4 (PV.agg [PV.t (i64 0),PV.own 8,PV.t (i64 0),PV.t (i64 0)]),aj.box 123 6 (PV.t r),aj.box 42 4 (PV.agg [PV.t (i64 v.p.o),PV.own 9,PV.t (i64 c.d),PV.t (i64 0)]),aj.vec 26 1 5 [PV.fn 112 [] [PV.ptr 0 0,PV.ptr 1 0,PV.ptr 2 0,PV.ptr 3 0],PV.fn 115 [] [PV.ptr 3 0,PV.ptr 1 0,PV.ptr 0 0],PV.fn 116 [] [PV.ptr 0 0,PV.ptr 1 0,PV.ptr 2 0,PV.ptr 3 0,PV.ptr 5 0],PV.fn 119 [] [PV.ptr 0 0,PV.ptr 1 0,PV.ptr 3 0,PV.ptr 6 0],PV.fn 121 [] [PV.ptr 0 0,PV.ptr 5 0,PV.ptr 3 0,PV.ptr 6 0]],aj.row 3 1 [],aj.row 3 1 []]
def akQ (c:Cf) (k:Int) (x:Px) (v:Rt) (r:T) (o:Int) (s:T) (f:List T):List aj:=[aj.box 56 6 (PV.t c.t),aj.box 3 1 (PV.t (i64 k)),aj.box 25 2 (PV.t x.t),aj.box 44 6 (PV.t v.t),aj.box 42 4 (PV.agg [PV.t (i64 0),PV.own 8,PV.t (i64 0),PV.t (i64 0)]),aj.box 123 6 (PV.t r),aj.box 42 4 (PV.t (T.agg [i64 v.p.o,s,i64 c.d,i64 o])),aj.vec 26 1 5 [PV.fn 112 [] [PV.ptr 0 0,PV.ptr 1 0,PV.ptr 2 0,PV.ptr 3 0],PV.fn 115 [] [PV.ptr 3 0,PV.ptr 1 0,PV.ptr 0 0],PV.fn 116 [] [PV.ptr 0 0,PV.ptr 1 0,PV.ptr 2 0,PV.ptr 3 0,PV.ptr 5 0],PV.fn 119 [] [PV.ptr 0 0,PV.ptr 1 0,PV.ptr 3 0,PV.ptr 6 0],PV.fn 121 [] [PV.ptr 0 0,PV.ptr 5 0,PV.ptr 3 0,PV.ptr 6 0]],aj.row 3 1 [],aj.row 3 1 [],aj.jT 31 1 f]
def an0 (c:Cf) (k:Int) (x:Px) (v:Rt) (r:T):List aj:=[aj.box 56 6 (PV.t c.t),aj.box 3 1 (PV.t (i64 k)),aj.box 25 2 (PV.t x.t),aj.box 44 6 (PV.t v.t),aj.box 42 4 (PV.agg [PV.t (i64 0),PV.own 8,PV.t (i64 0),PV.t (i64 0)]),aj.box 123 6 (PV.t r),aj.box 42 4 (PV.agg [PV.t (i64 v.p.o),PV.own 9,PV.t (i64 c.d),PV.t (i64 0)]),aj.vec 26 1 5 [PV.fn 112 [] [PV.ptr 0 0,PV.ptr 1 0,PV.ptr 2 0,PV.ptr 3 0],PV.fn 115 [] [PV.ptr 3 0,PV.ptr 1 0,PV.ptr 0 0],PV.fn 116 [] [PV.ptr 0 0,PV.ptr 1 0,PV.ptr 2 0,PV.ptr 3 0,PV.ptr 5 0],PV.fn 119 [] [PV.ptr 0 0,PV.ptr 1 0,PV.ptr 3 0,PV.ptr 6 0],PV.fn 121 [] [PV.ptr 0 0,PV.ptr 5 0,PV.ptr 3 0,PV.ptr 6 0]],aj.row 3 1 [],aj.row 3 1 []]
theorem aqP (N:Nat) (c:Cf) (k:Int) (x:Px) (v:Rt) (r:T) (o:Int) {β:Type} (K:PV→List aj→ah β):fU env (aJ env N) N 112 [.ptr 0 0,.ptr 1 0,.ptr 2 0,.ptr 3 0] [.box 56 6 (.t c.t),.box 3 1 (.t (i64 k)),.box 25 2 (.t x.t),.box 44 6 (.t v.t),.box 42 4 (.agg [.t (i64 0),.own 8,.t (i64 0),.t (i64 0)]),.box 123 6 (.t r),.box 42 4 (.agg [.t (i64 v.p.o),.own 9,.t (i64 c.d),.t (i64 o)]),.vec 26 1 5 wo,.row 3 1 [],.row 3 1 []] K=iw N 52 [c.t] fun b=>bif b then iw N 113 [c.t,i64 k] fun b=>bif b then iw N 70 [x.t] fun b=>bif b then cl N 114 [v.t] fun x_1=>K (PV.t x_1) (Gf c k x v r o) else K (PV.t (.bool false)) (Gf c k x v r o) else K (PV.t (.bool false)) (Gf c k x v r o) else K (PV.t (.bool false)) (Gf c k x v r o):=by kernel_rfl
theorem aqQ (N:Nat) (c:Cf) (k:Int) (x:Px) (v:Rt) (r:T) (o:Int) {β:Type} (K:PV→List aj→ah β):fU env (aJ env N) N 115 [.ptr 3 0,.ptr 1 0,.ptr 0 0] [.box 56 6 (.t c.t),.box 3 1 (.t (i64 k)),.box 25 2 (.t x.t),.box 44 6 (.t v.t),.box 42 4 (.agg [.t (i64 0),.own 8,.t (i64 0),.t (i64 0)]),.box 123 6 (.t r),.box 42 4 (.agg [.t (i64 v.p.o),.own 9,.t (i64 c.d),.t (i64 o)]),.vec 26 1 5 wo,.row 3 1 [],.row 3 1 []] K=bif v.f !=k then K (PV.t (.bool (decide (v.f < (↑(List.map Sd.t c.s).length:Int))))) (Gf c k x v r o) else K (PV.t (.bool false)) (Gf c k x v r o):=by kernel_rfl
theorem aqR (N:Nat) (c:Cf) (k:Int) (x:Px) (v:Rt) (r:T) (o:Int) {β:Type} (K:PV→List aj→ah β):fU env (aJ env N) N 116 [.ptr 0 0,.ptr 1 0,.ptr 2 0,.ptr 3 0,.ptr 5 0] [.box 56 6 (.t c.t),.box 3 1 (.t (i64 k)),.box 25 2 (.t x.t),.box 44 6 (.t v.t),.box 42 4 (.agg [.t (i64 0),.own 8,.t (i64 0),.t (i64 0)]),.box 123 6 (.t r),.box 42 4 (.agg [.t (i64 v.p.o),.own 9,.t (i64 c.d),.t (i64 o)]),.vec 26 1 5 wo,.row 3 1 [],.row 3 1 []] K=bK (List.map Sd.t c.s) k fun e=>cl N 118 [c.t,i64 v.f] fun x_1=>chk (x_1.cells.length==1&& !x_1.aY) (cl N 117 [e.ay 3 1 false,T.agg [i64 x.a,i64 x.n,T.sl 1 (ints v.p.s),x_1.cell 0]] fun x_2=>aG x_2 0 fun y=>aG x_2 1 fun y_1=>chk (y.cells.length==6&& !y.aY) (bT y_1 fun b=>bif b then iT IntKind.i64 (y.ay 4 1 false) fun a=>K (PV.t (.bool (a !=0))) [aj.box 56 6 (.t c.t),.box 3 1 (.t (i64 k)),.box 25 2 (.t x.t),.box 44 6 (.t v.t),.box 42 4 (.agg [PV.t (i64 0),.own 8,.t (i64 0),.t (i64 0)]),.box 123 6 (.t y),.box 42 4 (.agg [PV.t (i64 v.p.o),.own 9,.t (i64 c.d),.t (i64 o)]),.vec 26 1 5 [PV.fn 112 [] [PV.ptr 0 0,.ptr 1 0,.ptr 2 0,.ptr 3 0],.fn 115 [] [PV.ptr 3 0,.ptr 1 0,.ptr 0 0],.fn 116 [] [PV.ptr 0 0,.ptr 1 0,.ptr 2 0,.ptr 3 0,.ptr 5 0],.fn 119 [] [PV.ptr 0 0,.ptr 1 0,.ptr 3 0,.ptr 6 0],.fn 121 [] [PV.ptr 0 0,.ptr 5 0,.ptr 3 0,.ptr 6 0]],.row 3 1 [],.row 3 1 []] else K (PV.t (.bool false)) [aj.box 56 6 (.t c.t),.box 3 1 (.t (i64 k)),.box 25 2 (.t x.t),.box 44 6 (.t v.t),.box 42 4 (.agg [PV.t (i64 0),.own 8,.t (i64 0),.t (i64 0)]),.box 123 6 (.t y),.box 42 4 (.agg [PV.t (i64 v.p.o),.own 9,.t (i64 c.d),.t (i64 o)]),.vec 26 1 5 [PV.fn 112 [] [PV.ptr 0 0,.ptr 1 0,.ptr 2 0,.ptr 3 0],.fn 115 [] [PV.ptr 3 0,.ptr 1 0,.ptr 0 0],.fn 116 [] [PV.ptr 0 0,.ptr 1 0,.ptr 2 0,.ptr 3 0,.ptr 5 0],.fn 119 [] [PV.ptr 0 0,.ptr 1 0,.ptr 3 0,.ptr 6 0],.fn 121 [] [PV.ptr 0 0,.ptr 5 0,.ptr 3 0,.ptr 6 0]],.row 3 1 [],.row 3 1 []])):=by kernel_rfl
theorem aqS (N:Nat) (c:Cf) (k:Int) (x:Px) (v:Rt) (r:T) (o:Int) {β:Type} (K:PV→List aj→ah β):fU env (aJ env N) N 119 [.ptr 0 0,.ptr 1 0,.ptr 3 0,.ptr 6 0] [.box 56 6 (.t c.t),.box 3 1 (.t (i64 k)),.box 25 2 (.t x.t),.box 44 6 (.t v.t),.box 42 4 (.agg [.t (i64 0),.own 8,.t (i64 0),.t (i64 0)]),.box 123 6 (.t r),.box 42 4 (.agg [.t (i64 v.p.o),.own 9,.t (i64 c.d),.t (i64 o)]),.vec 26 1 5 wo,.row 3 1 [],.row 3 1 []] K=bK (List.map Sd.t c.s) k fun e=>cl N 120 [e.ay 1 1 false,i64 c.a,i64 v.p.c] fun x_1=>aG x_1 0 fun y=>aG x_1 1 fun y_1=>chk (y.cells.length==1&& !y.aY) (K (PV.t y_1) [aj.box 56 6 (.t c.t),.box 3 1 (.t (i64 k)),.box 25 2 (.t x.t),.box 44 6 (.t v.t),.box 42 4 (.agg [PV.t (i64 0),.own 8,.t (i64 0),.t (i64 0)]),.box 123 6 (.t r),.box 42 4 (.agg [PV.t (i64 v.p.o),.own 9,.t (i64 c.d),.t (y.cell 0)]),.vec 26 1 5 [PV.fn 112 [] [PV.ptr 0 0,.ptr 1 0,.ptr 2 0,.ptr 3 0],.fn 115 [] [PV.ptr 3 0,.ptr 1 0,.ptr 0 0],.fn 116 [] [PV.ptr 0 0,.ptr 1 0,.ptr 2 0,.ptr 3 0,.ptr 5 0],.fn 119 [] [PV.ptr 0 0,.ptr 1 0,.ptr 3 0,.ptr 6 0],.fn 121 [] [PV.ptr 0 0,.ptr 5 0,.ptr 3 0,.ptr 6 0]],.row 3 1 [],.row 3 1 []]):=by kernel_rfl
theorem aqT (N:Nat) (c:Cf) (k:Int) (x:Px) (v:Rt) (r:T) (o:Int) {β:Type} (K:PV→List aj→ah β):fU env (aJ env N) N 121 [.ptr 0 0,.ptr 5 0,.ptr 3 0,.ptr 6 0] [.box 56 6 (.t c.t),.box 3 1 (.t (i64 k)),.box 25 2 (.t x.t),.box 44 6 (.t v.t),.box 42 4 (.agg [.t (i64 0),.own 8,.t (i64 0),.t (i64 0)]),.box 123 6 (.t r),.box 42 4 (.agg [.t (i64 v.p.o),.own 9,.t (i64 c.d),.t (i64 o)]),.vec 26 1 5 wo,.row 3 1 [],.row 3 1 []] K=bW (T.mF 1) [i64 c.a] (iT IntKind.i64 (r.ay 5 1 false) fun b=>cl N 123 [T.sl 1 [i64 c.a],i64 (IntKind.i64.wrap (1+b))] fun x_1=>bW (T.mF 1) [x_1,T.sl 1 (ints v.p.s)] (cl N 122 [T.sl 1 [x_1,T.sl 1 (ints v.p.s)]] fun x_2=>chk (x_2.cells.length==1&& !x_2.aY) (iO ((T.agg [i64 v.p.o,x_2.cell 0,i64 c.d,i64 o]).cell 1) fun n=>K (PV.t (.bool (decide (n≤32)))) [aj.box 56 6 (.t c.t),.box 3 1 (.t (i64 k)),.box 25 2 (.t x.t),.box 44 6 (.t v.t),.box 42 4 (.agg [PV.t (i64 0),.own 8,.t (i64 0),.t (i64 0)]),.box 123 6 (.t r),.box 42 4 (.t (.agg [i64 v.p.o,x_2.cell 0,i64 c.d,i64 o])),.vec 26 1 5 [PV.fn 112 [] [PV.ptr 0 0,.ptr 1 0,.ptr 2 0,.ptr 3 0],.fn 115 [] [PV.ptr 3 0,.ptr 1 0,.ptr 0 0],.fn 116 [] [PV.ptr 0 0,.ptr 1 0,.ptr 2 0,.ptr 3 0,.ptr 5 0],.fn 119 [] [PV.ptr 0 0,.ptr 1 0,.ptr 3 0,.ptr 6 0],.fn 121 [] [PV.ptr 0 0,.ptr 5 0,.ptr 3 0,.ptr 6 0]],.row 3 1 [],.row 3 1 [],.jT 31 1 [x_1,T.sl 1 (ints v.p.s)]]))):=by kernel_rfl
def gX (c:Cf) (k:Int) (x:Px) (v:Rt) (b:Bool):Pin:=⟨112,[.ptr 0 0,.ptr 1 0,.ptr 2 0,.ptr 3 0],Bo c k x v (T.agg [i64 0,i64 0,i64 0,i64 0,i64 0,i64 0]) 0,.t (.bool b),Bo c k x v (T.agg [i64 0,i64 0,i64 0,i64 0,i64 0,i64 0]) 0⟩
def je (c:Cf) (k:Int) (x:Px) (v:Rt) (b:Bool):Pin:=⟨115,[.ptr 3 0,.ptr 1 0,.ptr 0 0],Bo c k x v (T.agg [i64 0,i64 0,i64 0,i64 0,i64 0,i64 0]) 0,.t (.bool b),Bo c k x v (T.agg [i64 0,i64 0,i64 0,i64 0,i64 0,i64 0]) 0⟩
def kG (c:Cf) (k:Int) (x:Px) (v:Rt) (b:Bool) (r:T):Pin:=⟨116,[.ptr 0 0,.ptr 1 0,.ptr 2 0,.ptr 3 0,.ptr 5 0],Bo c k x v (T.agg [i64 0,i64 0,i64 0,i64 0,i64 0,i64 0]) 0,.t (.bool b),Bo c k x v r 0⟩
def nT (c:Cf) (k:Int) (x:Px) (v:Rt) (b:Bool) (r:T) (o:Int):Pin:=⟨119,[.ptr 0 0,.ptr 1 0,.ptr 3 0,.ptr 6 0],Bo c k x v r 0,.t (.bool b),Bo c k x v r o⟩
def uV (c:Cf) (k:Int) (x:Px) (v:Rt) (b:Bool) (r:T) (o:Int) (s:T) (f:List T):Pin:=⟨121,[.ptr 0 0,.ptr 5 0,.ptr 3 0,.ptr 6 0],Bo c k x v r o,.t (.bool b),Yi c k x v r o s f⟩
def TL (c:Cf) (k:Int) (x:Px) (v:Rt) (b:Bool) (r:T) (o:Int):Pin:=⟨111,[.own 7],ako c k x v (T.agg [i64 0,i64 0,i64 0,i64 0,i64 0,i64 0]),.t (.bool b),Bo c k x v r o⟩
def TM (c:Cf) (k:Int) (x:Px) (v:Rt) (b:Bool) (r:T) (o:Int) (s:T) (f:List T):Pin:=⟨111,[.own 7],ako c k x v (T.agg [i64 0,i64 0,i64 0,i64 0,i64 0,i64 0]),.t (.bool b),Yi c k x v r o s f⟩
def rU (c:Cf) (k:Int) (x:Px) (v:Rt) (r:T) (o:Int):St:=⟨slots 15 [(5,.own 7),(6,.t (i64 5)),(7,.t (i64 0))],[.box 56 6 (.t c.t),.box 3 1 (.t (i64 k)),.box 25 2 (.t x.t),.box 44 6 (.t v.t),.box 42 4 (.agg [.t (i64 0),.own 8,.t (i64 0),.t (i64 0)]),.box 123 6 (.t r),.box 42 4 (.agg [.t (i64 v.p.o),.own 9,.t (i64 c.d),.t (i64 o)]),.vec 26 1 5 wo,.row 3 1 [],.row 3 1 []]⟩
def Nh (c:Cf) (k:Int) (x:Px) (v:Rt) (r:T) (o:Int):St:=⟨slots 15 [(5,.own 7),(6,.t (i64 5)),(7,.t (i64 1))],[.box 56 6 (.t c.t),.box 3 1 (.t (i64 k)),.box 25 2 (.t x.t),.box 44 6 (.t v.t),.box 42 4 (.agg [.t (i64 0),.own 8,.t (i64 0),.t (i64 0)]),.box 123 6 (.t r),.box 42 4 (.agg [.t (i64 v.p.o),.own 9,.t (i64 c.d),.t (i64 o)]),.vec 26 1 5 wo,.row 3 1 [],.row 3 1 []]⟩
def TS (c:Cf) (k:Int) (x:Px) (v:Rt) (r:T) (o:Int):St:=⟨slots 15 [(5,.own 7),(6,.t (i64 5)),(7,.t (i64 2))],[.box 56 6 (.t c.t),.box 3 1 (.t (i64 k)),.box 25 2 (.t x.t),.box 44 6 (.t v.t),.box 42 4 (.agg [.t (i64 0),.own 8,.t (i64 0),.t (i64 0)]),.box 123 6 (.t r),.box 42 4 (.agg [.t (i64 v.p.o),.own 9,.t (i64 c.d),.t (i64 o)]),.vec 26 1 5 wo,.row 3 1 [],.row 3 1 []]⟩
def acA (c:Cf) (k:Int) (x:Px) (v:Rt) (r:T) (o:Int):St:=⟨slots 15 [(5,.own 7),(6,.t (i64 5)),(7,.t (i64 3))],[.box 56 6 (.t c.t),.box 3 1 (.t (i64 k)),.box 25 2 (.t x.t),.box 44 6 (.t v.t),.box 42 4 (.agg [.t (i64 0),.own 8,.t (i64 0),.t (i64 0)]),.box 123 6 (.t r),.box 42 4 (.agg [.t (i64 v.p.o),.own 9,.t (i64 c.d),.t (i64 o)]),.vec 26 1 5 wo,.row 3 1 [],.row 3 1 []]⟩
def ak6 (c:Cf) (k:Int) (x:Px) (v:Rt) (r:T) (o:Int):St:=⟨slots 15 [(5,.own 7),(6,.t (i64 5)),(7,.t (i64 4))],[.box 56 6 (.t c.t),.box 3 1 (.t (i64 k)),.box 25 2 (.t x.t),.box 44 6 (.t v.t),.box 42 4 (.agg [.t (i64 0),.own 8,.t (i64 0),.t (i64 0)]),.box 123 6 (.t r),.box 42 4 (.agg [.t (i64 v.p.o),.own 9,.t (i64 c.d),.t (i64 o)]),.vec 26 1 5 wo,.row 3 1 [],.row 3 1 []]⟩
def aot (c:Cf) (k:Int) (x:Px) (v:Rt) (r:T) (o:Int) (s:T) (f:List T):St:=⟨slots 15 [(5,.own 7),(6,.t (i64 5)),(7,.t (i64 5))],[.box 56 6 (.t c.t),.box 3 1 (.t (i64 k)),.box 25 2 (.t x.t),.box 44 6 (.t v.t),.box 42 4 (.agg [.t (i64 0),.own 8,.t (i64 0),.t (i64 0)]),.box 123 6 (.t r),.box 42 4 (.t (.agg [i64 v.p.o,s,i64 c.d,i64 o])),.vec 26 1 5 wo,.row 3 1 [],.row 3 1 [],.jT 31 1 f]⟩
theorem amQ (N:Nat) (c:Cf) (k:Int) (x:Px) (v:Rt) (b:Bool) {β:Type} (K:PV→List aj→ah β):fU env (bI env N [gX c k x v b]) N 111 [.own 7] [.box 56 6 (.t c.t),.box 3 1 (.t (i64 k)),.box 25 2 (.t x.t),.box 44 6 (.t v.t),.box 42 4 (.agg [.t (i64 0),.nil 3 1,.t (i64 0),.t (i64 0)]),.box 123 6 (.t (.agg [i64 0,i64 0,i64 0,i64 0,i64 0,i64 0])),.box 42 4 (.agg [.t (i64 v.p.o),.nil 3 1,.t (i64 c.d),.t (i64 0)]),.vec 26 1 5 wo] K=um env (bI env N [gX c k x v b]) N 111 8 2 K {tmps:=slots 15 [(5,.own 7),(6,.t (i64 5)),(7,.t (i64 0))],heap:=(tV c k x v)}:=by kernel_rfl
theorem ab2 (N:Nat) (c:Cf) (k:Int) (x:Px) (v:Rt) (b:Bool):cu env (bI env N [gX c k x v b]) N 111 8 2 (rU c k x v (T.agg [i64 0,i64 0,i64 0,i64 0,i64 0,i64 0]) 0)=iU ([PV.ptr 0 0,.ptr 1 0,.ptr 2 0,.ptr 3 0]= [PV.ptr 0 0,.ptr 1 0,.ptr 2 0,.ptr 3 0]∧(tV c k x v)=(tV c k x v)) (bif !b then ah.ok (Ex.ret,{tmps:=slots 15 [(2,.t (.bool false))],heap:=(tV c k x v)}) else ah.ok (Ex.norm,{tmps:=slots 15 [(5,.own 7),(6,.t (i64 5)),(7,.t (i64 1))],heap:=(tV c k x v)})):=by kernel_rfl
theorem Oa (N:Nat) (c:Cf) (k:Int) (x:Px) (v:Rt) (b:Bool) (H:List aj) {β:Type} (K:PV→List aj→ah β):qX env (bI env N [gX c k x v b]) N 111 8 2 K (.ret) (⟨slots 15 [(2,.t (.bool false))],H⟩)=K (PV.t (.bool false)) H:=by kernel_rfl
theorem afW (N:Nat) (c:Cf) (k:Int) (x:Px) (v:Rt) (b:Bool) {β:Type} (K:PV→List aj→ah β):fU env (bI env N [gX c k x v true,je c k x v b]) N 111 [.own 7] [.box 56 6 (.t c.t),.box 3 1 (.t (i64 k)),.box 25 2 (.t x.t),.box 44 6 (.t v.t),.box 42 4 (.agg [.t (i64 0),.nil 3 1,.t (i64 0),.t (i64 0)]),.box 123 6 (.t (.agg [i64 0,i64 0,i64 0,i64 0,i64 0,i64 0])),.box 42 4 (.agg [.t (i64 v.p.o),.nil 3 1,.t (i64 c.d),.t (i64 0)]),.vec 26 1 5 wo] K=um env (bI env N [gX c k x v true,je c k x v b]) N 111 8 2 K {tmps:=slots 15 [(5,.own 7),(6,.t (i64 5)),(7,.t (i64 0))],heap:=(tV c k x v)}:=by kernel_rfl
theorem VY (N:Nat) (c:Cf) (k:Int) (x:Px) (v:Rt) (b:Bool):cu env (bI env N [gX c k x v true,je c k x v b]) N 111 8 2 (rU c k x v (T.agg [i64 0,i64 0,i64 0,i64 0,i64 0,i64 0]) 0)=iU ([PV.ptr 0 0,.ptr 1 0,.ptr 2 0,.ptr 3 0]= [PV.ptr 0 0,.ptr 1 0,.ptr 2 0,.ptr 3 0]∧(tV c k x v)=(tV c k x v)) (ah.ok (Ex.norm,{tmps:=slots 15 [(5,.own 7),(6,.t (i64 5)),(7,.t (i64 1))],heap:=(tV c k x v)})):=by kernel_rfl
theorem VZ (N:Nat) (c:Cf) (k:Int) (x:Px) (v:Rt) (b:Bool):cu env (bI env N [gX c k x v true,je c k x v b]) N 111 8 2 (Nh c k x v (T.agg [i64 0,i64 0,i64 0,i64 0,i64 0,i64 0]) 0)=iU ([PV.ptr 3 0,.ptr 1 0,.ptr 0 0]= [PV.ptr 3 0,.ptr 1 0,.ptr 0 0]∧(tV c k x v)=(tV c k x v)) (bif !b then ah.ok (Ex.ret,{tmps:=slots 15 [(2,.t (.bool false))],heap:=(tV c k x v)}) else ah.ok (Ex.norm,{tmps:=slots 15 [(5,.own 7),(6,.t (i64 5)),(7,.t (i64 2))],heap:=(tV c k x v)})):=by kernel_rfl
theorem Js (N:Nat) (c:Cf) (k:Int) (x:Px) (v:Rt) (b:Bool) (H:List aj) {β:Type} (K:PV→List aj→ah β):qX env (bI env N [gX c k x v true,je c k x v b]) N 111 8 2 K (.ret) (⟨slots 15 [(2,.t (.bool false))],H⟩)=K (PV.t (.bool false)) H:=by kernel_rfl
theorem afX (N:Nat) (c:Cf) (k:Int) (x:Px) (v:Rt) (b:Bool) (r:T) {β:Type} (K:PV→List aj→ah β):fU env (bI env N [gX c k x v true,je c k x v true,kG c k x v b r]) N 111 [.own 7] [.box 56 6 (.t c.t),.box 3 1 (.t (i64 k)),.box 25 2 (.t x.t),.box 44 6 (.t v.t),.box 42 4 (.agg [.t (i64 0),.nil 3 1,.t (i64 0),.t (i64 0)]),.box 123 6 (.t (.agg [i64 0,i64 0,i64 0,i64 0,i64 0,i64 0])),.box 42 4 (.agg [.t (i64 v.p.o),.nil 3 1,.t (i64 c.d),.t (i64 0)]),.vec 26 1 5 wo] K=um env (bI env N [gX c k x v true,je c k x v true,kG c k x v b r]) N 111 8 2 K {tmps:=slots 15 [(5,.own 7),(6,.t (i64 5)),(7,.t (i64 0))],heap:=(tV c k x v)}:=by kernel_rfl
theorem V3 (N:Nat) (c:Cf) (k:Int) (x:Px) (v:Rt) (b:Bool) (r:T):cu env (bI env N [gX c k x v true,je c k x v true,kG c k x v b r]) N 111 8 2 (rU c k x v (T.agg [i64 0,i64 0,i64 0,i64 0,i64 0,i64 0]) 0)=iU ([PV.ptr 0 0,.ptr 1 0,.ptr 2 0,.ptr 3 0]= [PV.ptr 0 0,.ptr 1 0,.ptr 2 0,.ptr 3 0]∧(tV c k x v)=(tV c k x v)) (ah.ok (Ex.norm,{tmps:=slots 15 [(5,.own 7),(6,.t (i64 5)),(7,.t (i64 1))],heap:=(tV c k x v)})):=by kernel_rfl
theorem V4 (N:Nat) (c:Cf) (k:Int) (x:Px) (v:Rt) (b:Bool) (r:T):cu env (bI env N [gX c k x v true,je c k x v true,kG c k x v b r]) N 111 8 2 (Nh c k x v (T.agg [i64 0,i64 0,i64 0,i64 0,i64 0,i64 0]) 0)=iU ([PV.ptr 3 0,.ptr 1 0,.ptr 0 0]= [PV.ptr 3 0,.ptr 1 0,.ptr 0 0]∧(tV c k x v)=(tV c k x v)) (ah.ok (Ex.norm,{tmps:=slots 15 [(5,.own 7),(6,.t (i64 5)),(7,.t (i64 2))],heap:=(tV c k x v)})):=by kernel_rfl
theorem V5 (N:Nat) (c:Cf) (k:Int) (x:Px) (v:Rt) (b:Bool) (r:T):cu env (bI env N [gX c k x v true,je c k x v true,kG c k x v b r]) N 111 8 2 (TS c k x v (T.agg [i64 0,i64 0,i64 0,i64 0,i64 0,i64 0]) 0)=iU ([PV.ptr 0 0,.ptr 1 0,.ptr 2 0,.ptr 3 0,.ptr 5 0]= [PV.ptr 0 0,.ptr 1 0,.ptr 2 0,.ptr 3 0,.ptr 5 0]∧(tV c k x v)=(tV c k x v)) (bif !b then ah.ok (Ex.ret,{tmps:=slots 15 [(2,.t (.bool false))],heap:=(an0 c k x v r)}) else ah.ok (Ex.norm,{tmps:=slots 15 [(5,.own 7),(6,.t (i64 5)),(7,.t (i64 3))],heap:=(an0 c k x v r)})):=by kernel_rfl
theorem Jt (N:Nat) (c:Cf) (k:Int) (x:Px) (v:Rt) (b:Bool) (r:T) (H:List aj) {β:Type} (K:PV→List aj→ah β):qX env (bI env N [gX c k x v true,je c k x v true,kG c k x v b r]) N 111 8 2 K (.ret) (⟨slots 15 [(2,.t (.bool false))],H⟩)=K (PV.t (.bool false)) H:=by kernel_rfl
theorem afY (N:Nat) (c:Cf) (k:Int) (x:Px) (v:Rt) (b:Bool) (r:T) (o:Int) {β:Type} (K:PV→List aj→ah β):fU env (bI env N [gX c k x v true,je c k x v true,kG c k x v true r,nT c k x v b r o]) N 111 [.own 7] [.box 56 6 (.t c.t),.box 3 1 (.t (i64 k)),.box 25 2 (.t x.t),.box 44 6 (.t v.t),.box 42 4 (.agg [.t (i64 0),.nil 3 1,.t (i64 0),.t (i64 0)]),.box 123 6 (.t (.agg [i64 0,i64 0,i64 0,i64 0,i64 0,i64 0])),.box 42 4 (.agg [.t (i64 v.p.o),.nil 3 1,.t (i64 c.d),.t (i64 0)]),.vec 26 1 5 wo] K=um env (bI env N [gX c k x v true,je c k x v true,kG c k x v true r,nT c k x v b r o]) N 111 8 2 K {tmps:=slots 15 [(5,.own 7),(6,.t (i64 5)),(7,.t (i64 0))],heap:=(xw c k x v o)}:=by kernel_rfl
theorem V6 (N:Nat) (c:Cf) (k:Int) (x:Px) (v:Rt) (b:Bool) (r:T) (o:Int):cu env (bI env N [gX c k x v true,je c k x v true,kG c k x v true r,nT c k x v b r o]) N 111 8 2 (rU c k x v (T.agg [i64 0,i64 0,i64 0,i64 0,i64 0,i64 0]) 0)=iU ([PV.ptr 0 0,.ptr 1 0,.ptr 2 0,.ptr 3 0]= [PV.ptr 0 0,.ptr 1 0,.ptr 2 0,.ptr 3 0]∧(xw c k x v o)=(xw c k x v o)) (ah.ok (Ex.norm,{tmps:=slots 15 [(5,.own 7),(6,.t (i64 5)),(7,.t (i64 1))],heap:=(xw c k x v o)})):=by kernel_rfl
theorem V7 (N:Nat) (c:Cf) (k:Int) (x:Px) (v:Rt) (b:Bool) (r:T) (o:Int):cu env (bI env N [gX c k x v true,je c k x v true,kG c k x v true r,nT c k x v b r o]) N 111 8 2 (Nh c k x v (T.agg [i64 0,i64 0,i64 0,i64 0,i64 0,i64 0]) 0)=iU ([PV.ptr 3 0,.ptr 1 0,.ptr 0 0]= [PV.ptr 3 0,.ptr 1 0,.ptr 0 0]∧(xw c k x v o)=(xw c k x v o)) (ah.ok (Ex.norm,{tmps:=slots 15 [(5,.own 7),(6,.t (i64 5)),(7,.t (i64 2))],heap:=(xw c k x v o)})):=by kernel_rfl
theorem V8 (N:Nat) (c:Cf) (k:Int) (x:Px) (v:Rt) (b:Bool) (r:T) (o:Int):cu env (bI env N [gX c k x v true,je c k x v true,kG c k x v true r,nT c k x v b r o]) N 111 8 2 (TS c k x v (T.agg [i64 0,i64 0,i64 0,i64 0,i64 0,i64 0]) 0)=iU ([PV.ptr 0 0,.ptr 1 0,.ptr 2 0,.ptr 3 0,.ptr 5 0]= [PV.ptr 0 0,.ptr 1 0,.ptr 2 0,.ptr 3 0,.ptr 5 0]∧(xw c k x v o)=(xw c k x v o)) (ah.ok (Ex.norm,{tmps:=slots 15 [(5,.own 7),(6,.t (i64 5)),(7,.t (i64 3))],heap:=(Yb c k x v r o)})):=by kernel_rfl
theorem Rn (N:Nat) (c:Cf) (k:Int) (x:Px) (v:Rt) (b:Bool) (r:T) (o:Int):cu env (bI env N [gX c k x v true,je c k x v true,kG c k x v true r,nT c k x v b r o]) N 111 8 2 (acA c k x v r 0)=iU ([PV.ptr 0 0,.ptr 1 0,.ptr 3 0,.ptr 6 0]= [PV.ptr 0 0,.ptr 1 0,.ptr 3 0,.ptr 6 0]∧(Yb c k x v r o)=(Yb c k x v r o)) (bif !b then ah.ok (Ex.ret,{tmps:=slots 15 [(2,.t (.bool false))],heap:=(Gf c k x v r o)}) else ah.ok (Ex.norm,{tmps:=slots 15 [(5,.own 7),(6,.t (i64 5)),(7,.t (i64 4))],heap:=(Gf c k x v r o)})):=by kernel_rfl
theorem Ju (N:Nat) (c:Cf) (k:Int) (x:Px) (v:Rt) (b:Bool) (r:T) (o:Int) (H:List aj) {β:Type} (K:PV→List aj→ah β):qX env (bI env N [gX c k x v true,je c k x v true,kG c k x v true r,nT c k x v b r o]) N 111 8 2 K (.ret) (⟨slots 15 [(2,.t (.bool false))],H⟩)=K (PV.t (.bool false)) H:=by kernel_rfl
theorem U1 (N:Nat) (c:Cf) (k:Int) (x:Px) (v:Rt) (b:Bool) (r:T) (o:Int) (s:T) (f:List T) {β:Type} (K:PV→List aj→ah β):fU env (bI env N [gX c k x v true,je c k x v true,kG c k x v true r,nT c k x v true r o,uV c k x v b r o s f]) N 111 [.own 7] [.box 56 6 (.t c.t),.box 3 1 (.t (i64 k)),.box 25 2 (.t x.t),.box 44 6 (.t v.t),.box 42 4 (.agg [.t (i64 0),.nil 3 1,.t (i64 0),.t (i64 0)]),.box 123 6 (.t (.agg [i64 0,i64 0,i64 0,i64 0,i64 0,i64 0])),.box 42 4 (.agg [.t (i64 v.p.o),.nil 3 1,.t (i64 c.d),.t (i64 0)]),.vec 26 1 5 wo] K=um env (bI env N [gX c k x v true,je c k x v true,kG c k x v true r,nT c k x v true r o,uV c k x v b r o s f]) N 111 8 2 K {tmps:=slots 15 [(5,.own 7),(6,.t (i64 5)),(7,.t (i64 0))],heap:=(xw c k x v o)}:=by kernel_rfl
theorem ES (N:Nat) (c:Cf) (k:Int) (x:Px) (v:Rt) (b:Bool) (r:T) (o:Int) (s:T) (f:List T):cu env (bI env N [gX c k x v true,je c k x v true,kG c k x v true r,nT c k x v true r o,uV c k x v b r o s f]) N 111 8 2 (rU c k x v (T.agg [i64 0,i64 0,i64 0,i64 0,i64 0,i64 0]) 0)=iU ([PV.ptr 0 0,.ptr 1 0,.ptr 2 0,.ptr 3 0]= [PV.ptr 0 0,.ptr 1 0,.ptr 2 0,.ptr 3 0]∧(xw c k x v o)=(xw c k x v o)) (ah.ok (Ex.norm,{tmps:=slots 15 [(5,.own 7),(6,.t (i64 5)),(7,.t (i64 1))],heap:=(xw c k x v o)})):=by kernel_rfl
theorem ET (N:Nat) (c:Cf) (k:Int) (x:Px) (v:Rt) (b:Bool) (r:T) (o:Int) (s:T) (f:List T):cu env (bI env N [gX c k x v true,je c k x v true,kG c k x v true r,nT c k x v true r o,uV c k x v b r o s f]) N 111 8 2 (Nh c k x v (T.agg [i64 0,i64 0,i64 0,i64 0,i64 0,i64 0]) 0)=iU ([PV.ptr 3 0,.ptr 1 0,.ptr 0 0]= [PV.ptr 3 0,.ptr 1 0,.ptr 0 0]∧(xw c k x v o)=(xw c k x v o)) (ah.ok (Ex.norm,{tmps:=slots 15 [(5,.own 7),(6,.t (i64 5)),(7,.t (i64 2))],heap:=(xw c k x v o)})):=by kernel_rfl
theorem EU (N:Nat) (c:Cf) (k:Int) (x:Px) (v:Rt) (b:Bool) (r:T) (o:Int) (s:T) (f:List T):cu env (bI env N [gX c k x v true,je c k x v true,kG c k x v true r,nT c k x v true r o,uV c k x v b r o s f]) N 111 8 2 (TS c k x v (T.agg [i64 0,i64 0,i64 0,i64 0,i64 0,i64 0]) 0)=iU ([PV.ptr 0 0,.ptr 1 0,.ptr 2 0,.ptr 3 0,.ptr 5 0]= [PV.ptr 0 0,.ptr 1 0,.ptr 2 0,.ptr 3 0,.ptr 5 0]∧(xw c k x v o)=(xw c k x v o)) (ah.ok (Ex.norm,{tmps:=slots 15 [(5,.own 7),(6,.t (i64 5)),(7,.t (i64 3))],heap:=(Yb c k x v r o)})):=by kernel_rfl
theorem EW (N:Nat) (c:Cf) (k:Int) (x:Px) (v:Rt) (b:Bool) (r:T) (o:Int) (s:T) (f:List T):cu env (bI env N [gX c k x v true,je c k x v true,kG c k x v true r,nT c k x v true r o,uV c k x v b r o s f]) N 111 8 2 (acA c k x v r 0)=iU ([PV.ptr 0 0,.ptr 1 0,.ptr 3 0,.ptr 6 0]= [PV.ptr 0 0,.ptr 1 0,.ptr 3 0,.ptr 6 0]∧(Yb c k x v r o)=(Yb c k x v r o)) (ah.ok (Ex.norm,{tmps:=slots 15 [(5,.own 7),(6,.t (i64 5)),(7,.t (i64 4))],heap:=(Gf c k x v r o)})):=by kernel_rfl
theorem EX (N:Nat) (c:Cf) (k:Int) (x:Px) (v:Rt) (b:Bool) (r:T) (o:Int) (s:T) (f:List T):cu env (bI env N [gX c k x v true,je c k x v true,kG c k x v true r,nT c k x v true r o,uV c k x v b r o s f]) N 111 8 2 (ak6 c k x v r o)=iU ([PV.ptr 0 0,.ptr 5 0,.ptr 3 0,.ptr 6 0]= [PV.ptr 0 0,.ptr 5 0,.ptr 3 0,.ptr 6 0]∧(Gf c k x v r o)=(Gf c k x v r o)) (bif !b then ah.ok (Ex.ret,{tmps:=slots 15 [(2,.t (.bool false))],heap:=(akQ c k x v r o s f)}) else ah.ok (Ex.norm,{tmps:=slots 15 [(5,.own 7),(6,.t (i64 5)),(7,.t (i64 5))],heap:=(akQ c k x v r o s f)})):=by kernel_rfl
theorem Ro (N:Nat) (c:Cf) (k:Int) (x:Px) (v:Rt) (b:Bool) (r:T) (o:Int) (s:T) (f:List T):cu env (bI env N [gX c k x v true,je c k x v true,kG c k x v true r,nT c k x v true r o,uV c k x v b r o s f]) N 111 8 2 (aot c k x v r o s f)=ah.ok (Ex.exit 0,{tmps:=slots 15 [],heap:=(akQ c k x v r o s f)}):=by kernel_rfl
theorem Jv (N:Nat) (c:Cf) (k:Int) (x:Px) (v:Rt) (b:Bool) (r:T) (o:Int) (s:T) (f:List T) (H:List aj) {β:Type} (K:PV→List aj→ah β):qX env (bI env N [gX c k x v true,je c k x v true,kG c k x v true r,nT c k x v true r o,uV c k x v b r o s f]) N 111 8 2 K (.ret) (⟨slots 15 [(2,.t (.bool false))],H⟩)=K (PV.t (.bool false)) H:=by kernel_rfl
theorem Jr (N:Nat) (c:Cf) (k:Int) (x:Px) (v:Rt) (b:Bool) (r:T) (o:Int) (s:T) (f:List T) (H:List aj) {β:Type} (K:PV→List aj→ah β):qX env (bI env N [gX c k x v true,je c k x v true,kG c k x v true r,nT c k x v true r o,uV c k x v b r o s f]) N 111 8 2 K (.exit 0) (⟨slots 15 [],H⟩)=K (PV.t (.bool true)) H:=by kernel_rfl
theorem aro (N:Nat) (c:Cf) (k:Int) (x:Px) (v:Rt) (b:Bool) (r:T) (o:Int):fU env (bI env N [TL c k x v b r o]) N 81 [.t (c.t),.t (i64 k),.t (x.t),.t (v.t)] [] (aW env 81)=bW (fun p=>((match p with|PV.t x=>x.cells.length==1&& !x.aY|PV.agg cs=>cs.length==1|PV.au xs=>false|PV.junk=>false|x=>true)&& !match p with|PV.agg cs=>true|x=>false)&& !match p with|PV.t x=>x.isAgg|x=>false) [PV.fn 112 [] [PV.ptr 0 0,.ptr 1 0,.ptr 2 0,.ptr 3 0],.fn 115 [] [PV.ptr 3 0,.ptr 1 0,.ptr 0 0],.fn 116 [] [PV.ptr 0 0,.ptr 1 0,.ptr 2 0,.ptr 3 0,.ptr 5 0],.fn 119 [] [PV.ptr 0 0,.ptr 1 0,.ptr 3 0,.ptr 6 0],.fn 121 [] [PV.ptr 0 0,.ptr 5 0,.ptr 3 0,.ptr 6 0]] (iU ([PV.own 7]= [PV.own 7]∧ [aj.box 56 6 (.t c.t),.box 3 1 (.t (i64 k)),.box 25 2 (.t x.t),.box 44 6 (.t v.t),.box 42 4 (.agg [PV.t (i64 0),PV.nil 3 1,.t (i64 0),.t (i64 0)]),.box 123 6 (.t (.agg [i64 0,i64 0,i64 0,i64 0,i64 0,i64 0])),.box 42 4 (.agg [PV.t (i64 v.p.o),PV.nil 3 1,.t (i64 c.d),.t (i64 0)]),.vec 26 1 5 [PV.fn 112 [] [PV.ptr 0 0,.ptr 1 0,.ptr 2 0,.ptr 3 0],.fn 115 [] [PV.ptr 3 0,.ptr 1 0,.ptr 0 0],.fn 116 [] [PV.ptr 0 0,.ptr 1 0,.ptr 2 0,.ptr 3 0,.ptr 5 0],.fn 119 [] [PV.ptr 0 0,.ptr 1 0,.ptr 3 0,.ptr 6 0],.fn 121 [] [PV.ptr 0 0,.ptr 5 0,.ptr 3 0,.ptr 6 0]]]= [aj.box 56 6 (.t c.t),.box 3 1 (.t (i64 k)),.box 25 2 (.t x.t),.box 44 6 (.t v.t),.box 42 4 (.agg [PV.t (i64 0),PV.nil 3 1,.t (i64 0),.t (i64 0)]),.box 123 6 (.t (.agg [i64 0,i64 0,i64 0,i64 0,i64 0,i64 0])),.box 42 4 (.agg [PV.t (i64 v.p.o),PV.nil 3 1,.t (i64 c.d),.t (i64 0)]),.vec 26 1 5 [PV.fn 112 [] [PV.ptr 0 0,.ptr 1 0,.ptr 2 0,.ptr 3 0],.fn 115 [] [PV.ptr 3 0,.ptr 1 0,.ptr 0 0],.fn 116 [] [PV.ptr 0 0,.ptr 1 0,.ptr 2 0,.ptr 3 0,.ptr 5 0],.fn 119 [] [PV.ptr 0 0,.ptr 1 0,.ptr 3 0,.ptr 6 0],.fn 121 [] [PV.ptr 0 0,.ptr 5 0,.ptr 3 0,.ptr 6 0]]]) (bif !b then ah.ok (T.au [T.agg [i64 0,T.sl 1 [],i64 0,i64 0],T.bool false]) else ah.ok (T.au [T.agg [i64 v.p.o,T.sl 1 [],i64 c.d,i64 o],T.bool true]))):=by kernel_rfl
theorem ae4 (N:Nat) (c:Cf) (k:Int) (x:Px) (v:Rt) (b:Bool) (r:T) (o:Int) (s:T) (f:List T):fU env (bI env N [TM c k x v b r o s f]) N 81 [.t (c.t),.t (i64 k),.t (x.t),.t (v.t)] [] (aW env 81)=bW (fun p=>((match p with|PV.t x=>x.cells.length==1&& !x.aY|PV.agg cs=>cs.length==1|PV.au xs=>false|PV.junk=>false|x=>true)&& !match p with|PV.agg cs=>true|x=>false)&& !match p with|PV.t x=>x.isAgg|x=>false) [PV.fn 112 [] [PV.ptr 0 0,.ptr 1 0,.ptr 2 0,.ptr 3 0],.fn 115 [] [PV.ptr 3 0,.ptr 1 0,.ptr 0 0],.fn 116 [] [PV.ptr 0 0,.ptr 1 0,.ptr 2 0,.ptr 3 0,.ptr 5 0],.fn 119 [] [PV.ptr 0 0,.ptr 1 0,.ptr 3 0,.ptr 6 0],.fn 121 [] [PV.ptr 0 0,.ptr 5 0,.ptr 3 0,.ptr 6 0]] (iU ([PV.own 7]= [PV.own 7]∧ [aj.box 56 6 (.t c.t),.box 3 1 (.t (i64 k)),.box 25 2 (.t x.t),.box 44 6 (.t v.t),.box 42 4 (.agg [PV.t (i64 0),PV.nil 3 1,.t (i64 0),.t (i64 0)]),.box 123 6 (.t (.agg [i64 0,i64 0,i64 0,i64 0,i64 0,i64 0])),.box 42 4 (.agg [PV.t (i64 v.p.o),PV.nil 3 1,.t (i64 c.d),.t (i64 0)]),.vec 26 1 5 [PV.fn 112 [] [PV.ptr 0 0,.ptr 1 0,.ptr 2 0,.ptr 3 0],.fn 115 [] [PV.ptr 3 0,.ptr 1 0,.ptr 0 0],.fn 116 [] [PV.ptr 0 0,.ptr 1 0,.ptr 2 0,.ptr 3 0,.ptr 5 0],.fn 119 [] [PV.ptr 0 0,.ptr 1 0,.ptr 3 0,.ptr 6 0],.fn 121 [] [PV.ptr 0 0,.ptr 5 0,.ptr 3 0,.ptr 6 0]]]= [aj.box 56 6 (.t c.t),.box 3 1 (.t (i64 k)),.box 25 2 (.t x.t),.box 44 6 (.t v.t),.box 42 4 (.agg [PV.t (i64 0),PV.nil 3 1,.t (i64 0),.t (i64 0)]),.box 123 6 (.t (.agg [i64 0,i64 0,i64 0,i64 0,i64 0,i64 0])),.box 42 4 (.agg [PV.t (i64 v.p.o),PV.nil 3 1,.t (i64 c.d),.t (i64 0)]),.vec 26 1 5 [PV.fn 112 [] [PV.ptr 0 0,.ptr 1 0,.ptr 2 0,.ptr 3 0],.fn 115 [] [PV.ptr 3 0,.ptr 1 0,.ptr 0 0],.fn 116 [] [PV.ptr 0 0,.ptr 1 0,.ptr 2 0,.ptr 3 0,.ptr 5 0],.fn 119 [] [PV.ptr 0 0,.ptr 1 0,.ptr 3 0,.ptr 6 0],.fn 121 [] [PV.ptr 0 0,.ptr 5 0,.ptr 3 0,.ptr 6 0]]]) (bif !b then ah.ok (T.au [T.agg [i64 0,T.sl 1 [],i64 0,i64 0],T.bool false]) else ah.ok (T.au [T.agg [i64 v.p.o,s,i64 c.d,i64 o],T.bool true]))):=by kernel_rfl
end
section
open Go.RowKit Go.Proofs
def rl (x:T) (n j:Nat):List T:=List.replicate j x++List.replicate (n - j) (i64 0)
theorem ae5 (x:T) {n j:Nat} (h:j≤n):(rl x n j).length=n:=by simp[rl]; omega
theorem aaX (x:T) {n j:Nat}:(rl x n j).take j=List.replicate j x:=by
 unfold rl; rw[List.take_append_of_le_length (by simp)]; simp
theorem ajp (x:T) {n j:Nat} (h:j≤n):fQ (rl x n j) j ((List.replicate j x).take (n - j))=rl x n (j+min j (n - j)):=by
 unfold fQ
 rw[aaX,List.take_replicate,List.length_replicate]
 unfold rl
 rw[List.drop_append,List.length_replicate,List.drop_eq_nil_of_le (by simp),List.nil_append,List.drop_replicate,List.replicate_append_replicate,Nat.min_comm]
 congr 2
 omega
variable [Lv]
theorem apo {M n j:Nat} {x:T} (h1:1≤j) (h:j < n) (hn:n≤big):aF env M 123 0 8 (sRp (rl x n j) j)= .ok (.norm,sRp (rl x n (j+min j (n - j))) ((j+min j (n - j):Nat):Int)):=by
 have hl:=ae5 x (Nat.le_of_lt h)
 rw[ad9,hl,Int.toNat_natCast,Nat.zero_add,Nat.zero_add,decide_eq_true (show(j:Int) < (n:Int) by omega),decide_eq_true (show(0:Int)≤(j:Int) by omega),decide_eq_true (show(j:Int)≤(n:Int) by omega),decide_eq_true (show j≤n by omega),decide_eq_true (Nat.le_refl n),
  List.drop_zero,aaX,List.length_replicate]
 simp only[Bool.and_self,cond_true,aN]
 rw[ajp x (Nat.le_of_lt h),show((j:Int)+((min j (n - j):Nat):Int))=((j+min j (n - j):Nat):Int) by omega,EC (by omega)]
theorem U6 {M n:Nat} {x:T} (hn:n≤big):∀ (d j k:Nat),n - j≤d→1≤j→j≤n→d < k→bF (aF env M 123 0 8) k (sRp (rl x n j) j)= .ok (.exit 0,⟨slots 48 [(7,.own 0)],[.row 3 1 (List.replicate n x)]⟩)
 |d,j,0,_,_,_,h=>by omega
 |d,j,k+1,h1,h2,h3,h4=>by
  rcases Nat.eq_or_lt_of_le h3 with rfl|h5
  · have hb:aF env M 123 0 8 (sRp (rl x j j) j)= .ok (.exit 0,⟨slots 48 [(7,.own 0)],[.row 3 1 (List.replicate j x)]⟩):=by
     rw[ad9,ae5 x (Nat.le_refl j),decide_eq_false (by omega)]
     simp only[cond_false]
     rw[show rl x j j=List.replicate j x by simp[rl]]
    exact dV hb
  · rw[bf (apo h2 h5 hn)]
    exact U6 hn (d - 1) _ k (by omega) (by omega) (by omega) (by omega)
theorem afN {M n:Nat} (h1:1≤n) (h2:n≤9):ak env (M+1) 195 [.int .u64 (IntKind.u64.wrap 1),.int .u64 (IntKind.u64.wrap (n:Int))]= .ok (.au [.int .u64 0,.int .u64 n]):=by
 have hc:n=1∨n=2∨n=3∨n=4∨n=5∨n=6∨n=7∨n=8∨n=9:=by omega
 clear h1 h2
 rcases hc with rfl|rfl|rfl|rfl|rfl|rfl|rfl|rfl|rfl
 all_goals rw[asz,aX rfl]; rfl
theorem amK {M n:Nat} (h1:1≤n) (h2:n≤9):ak env (M+2) 156 [.int .u64 (IntKind.u64.wrap 1),.int .u64 (IntKind.u64.wrap (n:Int))]= .ok (.au [.int .u64 0,.int .u64 n]):=by
 have hm:=afN (M:=M) h1 h2
 have hc:n=1∨n=2∨n=3∨n=4∨n=5∨n=6∨n=7∨n=8∨n=9:=by omega
 clear h1 h2
 rcases hc with rfl|rfl|rfl|rfl|rfl|rfl|rfl|rfl|rfl
 all_goals
  rw[ar8,aX rfl,aH hm]
  rfl
theorem ahS {M n:Nat} {a:Int} (hM:12≤M) (h1:1≤n) (h2:n≤9) (ha:aV a=true):ak env (M+1) 123 [.sl 1 [i64 a],i64 n]= .ok (.sl 1 (ints (List.replicate n a))):=by
 obtain⟨m,rfl⟩:=dJ (show 1≤M by omega)
 obtain⟨m,rfl⟩:=dJ (show 1≤m by omega)
 have hbg:=aU
 have hn:aV (n:Int)=true:=iH.2 (by omega)
 have hw:(T.sl 1 [i64 a]).wf=true:=qK (l:=[a]) ⟨show 1≤big by omega,fun x hx=>by rw[List.mem_singleton.1 hx]; exact ha⟩
 rw[arI,aX (dM hw (aZ hn)),decide_eq_false (show ¬ (n:Int) < 0 by omega)]
 simp only[cond_false]
 rw[aH (amK h1 h2)]
 have iu:∀ {β:Type} {n:Int} {K:Int→ah β},iT .u64 (.int .u64 n) K=K n:=fun {β n K}=>rfl
 simp only[aG,List.getElem?_cons_zero,List.getElem?_cons_succ,iu]
 rw[decide_eq_false (show ¬ (0:Int) > 0 by omega),decide_eq_false (show ¬ (n:Int) > 9223372036854775807 by omega),EC (by omega),Int.toNat_natCast,decide_eq_true (show(0:Int)≤(n:Int) by omega),decide_eq_true (show(n:Int)≤(n:Int) by omega),decide_eq_true (show n*8≤140737488355328 by omega),
  decide_eq_true (Nat.le_refl _),List.length_replicate]
 simp only[cond_false,Bool.and_self,aN]
 have e:sRp (fQ (List.replicate n (i64 0)) 0 (List.take n [i64 a])) ((min 1 n:Nat):Int)=sRp (rl (i64 a) n 1) ((1:Nat):Int):=by
  obtain⟨n,rfl⟩:=dJ h1
  have e1:min 1 (n+1)=1:=by omega
  have e2:List.take (n+1) [i64 a]= [i64 a]:=by cases n<;>rfl
  have e3:fQ (List.replicate (n+1) (i64 0)) 0 [i64 a]=rl (i64 a) (n+1) 1:=rfl
  rw[e1,e2,e3]
 rw[e]
 refine(aQ (U6 (n:=n) (by omega) (n - 1) 1 (m+1+1) (by omega) (by omega) (by omega) (by omega))).trans ?_
 refine(Sv (m+1+1) (List.replicate n (i64 a)) 0).trans ?_
 rw[bg,List.map_replicate]
theorem apc {M:Nat} {c:Cf} {k:Int} {x:Px} {v:Rt} (hM:big+15≤M) (h:c.ok) (hk:aV k=true) (hx:x.ok) (hv:v.ok):jc env (M+1) (gX c k x v (dH c&&(hasB c k&&(dB x&&oh v)))):=fun β K=>by
 obtain⟨m,rfl⟩:=dJ (show 1≤M by omega)
 refine(aqP (m+1) c k x v _ 0 K).trans ?_
 rw[bJ (BK (by omega) h)]
 unfold gX
 cases dH c with
 |false=>rfl
 |true=>
 rw[cond_true,bJ (Qs h hk)]
 cases hasB c k with
 |false=>rfl
 |true=>
 rw[cond_true,bJ (x9 hx (by omega))]
 cases dB x with
 |false=>rfl
 |true=>
 rw[cond_true,aH (ahO (by omega) hv)]
 rfl
theorem apd {M:Nat} {c:Cf} {k:Int} {x:Px} {v:Rt}:jc env (M+1) (je c k x v (decide (v.f≠k)&&decide (v.f < (c.s.length:Int)))):=fun β K=>by
 refine(aqQ M c k x v _ 0 K).trans ?_
 unfold je
 rw[List.length_map]
 by_cases h:v.f=k
 · rw[h,bne_self_eq_false,decide_eq_false (show ¬ k≠k from fun e=>e rfl)]; rfl
 · rw[bne_iff_ne.2 h,decide_eq_true (show v.f≠k from h)]; rfl
theorem ape {M:Nat} {c:Cf} {k:Nat} {x:Px} {v:Rt} {s:Sd} (hM:big+10≤M) (hs:c.s[k]? =some s) (h:c.ok) (hx:x.ok) (hv:v.ok):
 jc env (M+1) (kG c k x v (match kM s.o (BD x v.p (eY c v.f)) with|some r=>r.a !=0|none=>false) (match kM s.o (BD x v.p (eY c v.f)) with|some r=>r.t|none=>T.agg [i64 0,i64 0,i64 0,i64 0,i64 0,i64 0])):=fun β K=>by
 obtain⟨m,rfl⟩:=dJ (show 1≤M by omega)
 have ho:=h.s.2 _ (List.mem_of_getElem? hs)
 refine(aqR (m+1) c k x v _ 0 K).trans ?_
 rw[aA (aC hs),aH (ahP (by omega) h hv.f)]
 have hc:aV (eY c v.f)=true:=by
  unfold eY
  split
  · split
    · rename_i t ht; exact(h.s.2 _ (List.mem_of_getElem? ht)).r
    · rfl
  · rfl
 have hvw:(BD x v.p (eY c v.f)).ok:=⟨hx,rF hv.p,hc⟩
 have hc:=aak (M:=m) (by omega) ho.o hvw
 refine Eq.trans (show _=cl (m+1) 117 [.sl 6 (s.o.map Ru.t),(BD x v.p (eY c v.f)).t] _ from rfl) ?_
 refine(aH hc).trans ?_
 cases kM s.o (BD x v.p (eY c v.f))<;>rfl
theorem apf {M:Nat} {c:Cf} {k:Nat} {x:Px} {v:Rt} {s:Sd} {r:T} (hM:2≤M) (hs:c.s[k]? =some s) (h:c.ok) (hv:v.ok):jc env (M+1) (nT c k x v (kL s.r c.a v.p.c).isSome r ((kL s.r c.a v.p.c).getD 0)):=fun β K=>by
 obtain⟨m,rfl⟩:=dJ (show 1≤M by omega)
 have ho:=h.s.2 _ (List.mem_of_getElem? hs)
 refine(aqS (m+1) c k x v r 0 K).trans ?_
 rw[aA (aC hs)]
 refine(aH (ahQ (M:=m) (by omega) ho.r h.a hv.p.c)).trans ?_
 rfl
def aoe (c:Cf) (u:Ru) (v:Rt):List T:=[.sl 1 (ints (List.replicate (1+u.n).toNat c.a)),.sl 1 (ints v.p.s)]
theorem apg {M:Nat} {c:Cf} {k:Int} {x:Px} {v:Rt} {u:Ru} {o:Int} (hM:14≤M) (h:c.ok) (hv:v.ok) (h0:0≤u.n) (h8:u.n≤8) (h32:v.p.s.length≤32):
 jc env (M+1) (uV c k x v (decide ((jV c u v).length≤32)) u.t o (.sl 1 (ints (jV c u v))) (aoe c u v)):=fun β K=>by
 obtain⟨m,rfl⟩:=dJ (show 1≤M by omega)
 have hbg:=aU
 refine(aqT (m+1) c k x v u.t o K).trans ?_
 obtain⟨n,hn⟩:∃ n:Nat,u.n=n:=⟨u.n.toNat,by omega⟩
 have hr:=ahS (M:=m) (n:=n+1) (a:=c.a) (by omega) (by omega) (by omega) h.a
 have hlen:([List.replicate (n+1) c.a,v.p.s]:List (List Int)).flatten=jV c u v:=by
  unfold jV; rw[hn,show(1+(n:Int)).toNat=n+1 by omega]; simp
 have hpl:(jV c u v).length=n+1+v.p.s.length:=by rw[←hlen]; simp
 have ok2:cO (cO okI) [List.replicate (n+1) c.a,v.p.s]:=⟨show 2≤big by omega,fun y hy=>by
  simp only[List.mem_cons,List.not_mem_nil,or_false] at hy
  rcases hy with rfl|rfl
  · exact⟨by rw[List.length_replicate]; omega,fun z hz=>by rw[(List.mem_replicate.1 hz).2]; exact h.a⟩
  · exact rF hv.p⟩
 have hc:=ahR (M:=m) (l:=[List.replicate (n+1) c.a,v.p.s]) (by simp; omega) ok2 (by rw[hlen,hpl]; omega)
 have e1:u.t.ay 5 1 false=i64 u.n:=rfl
 have e0:bW (T.mF 1) [i64 c.a]=fun(K:ah β)=>K:=rfl
 rw[e0,e1]
 simp only[dI]
 rw[hn,show(1:Int)+(n:Int)=((n+1:Nat):Int) by omega,EC (by omega),aH hr]
 refine Eq.trans (show _=cl (m+1) 122 [.sl 1 (List.map (fun a=>T.sl 1 (ints a)) [List.replicate (n+1) c.a,v.p.s])] _ from rfl) ?_
 refine(aH hc).trans ?_
 rw[hlen]
 unfold uV aoe
 rw[hn,show(1+(n:Int)).toNat=n+1 by omega]
 have e2:decide ((((ints (jV c u v)).length:Nat):Int)≤32)=decide ((jV c u v).length≤32):=by rw[bg,List.length_map]; exact decide_eq_decide.2 (by omega)
 rw[←e2]
 rfl
end
section
open Go.RowKit Go.Proofs
variable [Lv]
theorem aja {M:Nat} {c:Cf} {k:Int} {x:Px} {v:Rt} (hM:6≤M) (h:oO env M [gX c k x v false]):jc env (M+1) (TL c k x v false (T.agg [i64 0,i64 0,i64 0,i64 0,i64 0,i64 0]) 0):=by
 refine kC h ?_
 refine(amQ M c k x v false _).trans ?_
 have it:∀ n,bF (cu env (bI env M [gX c k x v false]) M 111 8 2) (n+1) (rU c k x v (T.agg [i64 0,i64 0,i64 0,i64 0,i64 0,i64 0]) 0)= .ok (.ret,⟨slots 15 [(2,.t (.bool false))],Bo c k x v (T.agg [i64 0,i64 0,i64 0,i64 0,i64 0,i64 0]) 0⟩):=fun n=>by
  exact dR (n:=n) ((ab2 M c k x v false).trans bH)
 obtain⟨n,hn⟩:∃ n,M=n+1:=⟨M - 1,by omega⟩
 have it':bF (cu env (bI env M [gX c k x v false]) M 111 8 2) M (rU c k x v (T.agg [i64 0,i64 0,i64 0,i64 0,i64 0,i64 0]) 0)=_:=(congrArg (fun z=>bF (cu env (bI env M [gX c k x v false]) M 111 8 2) z (rU c k x v (T.agg [i64 0,i64 0,i64 0,i64 0,i64 0,i64 0]) 0)) hn).trans (it n)
 exact(jD it').trans (Oa M c k x v false _ _)
theorem ajb {M:Nat} {c:Cf} {k:Int} {x:Px} {v:Rt} (hM:6≤M) (h:oO env M [gX c k x v true,je c k x v false]):jc env (M+1) (TL c k x v false (T.agg [i64 0,i64 0,i64 0,i64 0,i64 0,i64 0]) 0):=by
 refine kC h ?_
 refine(afW M c k x v false _).trans ?_
 have it:∀ n,bF (cu env (bI env M [gX c k x v true,je c k x v false]) M 111 8 2) (n+2) (rU c k x v (T.agg [i64 0,i64 0,i64 0,i64 0,i64 0,i64 0]) 0)= .ok (.ret,⟨slots 15 [(2,.t (.bool false))],Bo c k x v (T.agg [i64 0,i64 0,i64 0,i64 0,i64 0,i64 0]) 0⟩):=fun n=>by
  refine(bf (n:=n+1) (s':=Nh c k x v (T.agg [i64 0,i64 0,i64 0,i64 0,i64 0,i64 0]) 0) ((VY M c k x v false).trans bH)).trans ?_
  exact dR (n:=n) ((VZ M c k x v false).trans bH)
 obtain⟨n,hn⟩:∃ n,M=n+2:=⟨M - 2,by omega⟩
 have it':bF (cu env (bI env M [gX c k x v true,je c k x v false]) M 111 8 2) M (rU c k x v (T.agg [i64 0,i64 0,i64 0,i64 0,i64 0,i64 0]) 0)=_:=(congrArg (fun z=>bF (cu env (bI env M [gX c k x v true,je c k x v false]) M 111 8 2) z (rU c k x v (T.agg [i64 0,i64 0,i64 0,i64 0,i64 0,i64 0]) 0)) hn).trans (it n)
 exact(jD it').trans (Js M c k x v false _ _)
theorem aaP {M:Nat} {c:Cf} {k:Int} {x:Px} {v:Rt} {r:T} (hM:6≤M) (h:oO env M [gX c k x v true,je c k x v true,kG c k x v false r]):jc env (M+1) (TL c k x v false r 0):=by
 refine kC h ?_
 refine(afX M c k x v false r _).trans ?_
 have it:∀ n,bF (cu env (bI env M [gX c k x v true,je c k x v true,kG c k x v false r]) M 111 8 2) (n+3) (rU c k x v (T.agg [i64 0,i64 0,i64 0,i64 0,i64 0,i64 0]) 0)= .ok (.ret,⟨slots 15 [(2,.t (.bool false))],Bo c k x v r 0⟩):=fun n=>by
  refine(bf (n:=n+2) (s':=Nh c k x v (T.agg [i64 0,i64 0,i64 0,i64 0,i64 0,i64 0]) 0) ((V3 M c k x v false r).trans bH)).trans ?_
  refine(bf (n:=n+1) (s':=TS c k x v (T.agg [i64 0,i64 0,i64 0,i64 0,i64 0,i64 0]) 0) ((V4 M c k x v false r).trans bH)).trans ?_
  exact dR (n:=n) ((V5 M c k x v false r).trans bH)
 obtain⟨n,hn⟩:∃ n,M=n+3:=⟨M - 3,by omega⟩
 have it':bF (cu env (bI env M [gX c k x v true,je c k x v true,kG c k x v false r]) M 111 8 2) M (rU c k x v (T.agg [i64 0,i64 0,i64 0,i64 0,i64 0,i64 0]) 0)=_:=(congrArg (fun z=>bF (cu env (bI env M [gX c k x v true,je c k x v true,kG c k x v false r]) M 111 8 2) z (rU c k x v (T.agg [i64 0,i64 0,i64 0,i64 0,i64 0,i64 0]) 0)) hn).trans (it n)
 exact(jD it').trans (Jt M c k x v false r _ _)
theorem ajc {M:Nat} {c:Cf} {k:Int} {x:Px} {v:Rt} {r:T} {o:Int} (hM:6≤M) (h:oO env M [gX c k x v true,je c k x v true,kG c k x v true r,nT c k x v false r o]):jc env (M+1) (TL c k x v false r o):=by
 refine kC h ?_
 refine(afY M c k x v false r o _).trans ?_
 have it:∀ n,bF (cu env (bI env M [gX c k x v true,je c k x v true,kG c k x v true r,nT c k x v false r o]) M 111 8 2) (n+4) (rU c k x v (T.agg [i64 0,i64 0,i64 0,i64 0,i64 0,i64 0]) 0)= .ok (.ret,⟨slots 15 [(2,.t (.bool false))],Bo c k x v r o⟩):=fun n=>by
  refine(bf (n:=n+3) (s':=Nh c k x v (T.agg [i64 0,i64 0,i64 0,i64 0,i64 0,i64 0]) 0) ((V6 M c k x v false r o).trans bH)).trans ?_
  refine(bf (n:=n+2) (s':=TS c k x v (T.agg [i64 0,i64 0,i64 0,i64 0,i64 0,i64 0]) 0) ((V7 M c k x v false r o).trans bH)).trans ?_
  refine(bf (n:=n+1) (s':=acA c k x v r 0) ((V8 M c k x v false r o).trans bH)).trans ?_
  exact dR (n:=n) ((Rn M c k x v false r o).trans bH)
 obtain⟨n,hn⟩:∃ n,M=n+4:=⟨M - 4,by omega⟩
 have it':bF (cu env (bI env M [gX c k x v true,je c k x v true,kG c k x v true r,nT c k x v false r o]) M 111 8 2) M (rU c k x v (T.agg [i64 0,i64 0,i64 0,i64 0,i64 0,i64 0]) 0)=_:=(congrArg (fun z=>bF (cu env (bI env M [gX c k x v true,je c k x v true,kG c k x v true r,nT c k x v false r o]) M 111 8 2) z (rU c k x v (T.agg [i64 0,i64 0,i64 0,i64 0,i64 0,i64 0]) 0)) hn).trans (it n)
 exact(jD it').trans (Ju M c k x v false r o _ _)
theorem ajd {M:Nat} {c:Cf} {k:Int} {x:Px} {v:Rt} {r:T} {o:Int} {s:T} {f:List T} (hM:6≤M) (h:oO env M [gX c k x v true,je c k x v true,kG c k x v true r,nT c k x v true r o,uV c k x v false r o s f]):jc env (M+1) (TM c k x v false r o s f):=by
 refine kC h ?_
 refine(U1 M c k x v false r o s f _).trans ?_
 have it:∀ n,bF (cu env (bI env M [gX c k x v true,je c k x v true,kG c k x v true r,nT c k x v true r o,uV c k x v false r o s f]) M 111 8 2) (n+5) (rU c k x v (T.agg [i64 0,i64 0,i64 0,i64 0,i64 0,i64 0]) 0)= .ok (.ret,⟨slots 15 [(2,.t (.bool false))],Yi c k x v r o s f⟩):=fun n=>by
  refine(bf (n:=n+4) (s':=Nh c k x v (T.agg [i64 0,i64 0,i64 0,i64 0,i64 0,i64 0]) 0) ((ES M c k x v false r o s f).trans bH)).trans ?_
  refine(bf (n:=n+3) (s':=TS c k x v (T.agg [i64 0,i64 0,i64 0,i64 0,i64 0,i64 0]) 0) ((ET M c k x v false r o s f).trans bH)).trans ?_
  refine(bf (n:=n+2) (s':=acA c k x v r 0) ((EU M c k x v false r o s f).trans bH)).trans ?_
  refine(bf (n:=n+1) (s':=ak6 c k x v r o) ((EW M c k x v false r o s f).trans bH)).trans ?_
  exact dR (n:=n) ((EX M c k x v false r o s f).trans bH)
 obtain⟨n,hn⟩:∃ n,M=n+5:=⟨M - 5,by omega⟩
 have it':bF (cu env (bI env M [gX c k x v true,je c k x v true,kG c k x v true r,nT c k x v true r o,uV c k x v false r o s f]) M 111 8 2) M (rU c k x v (T.agg [i64 0,i64 0,i64 0,i64 0,i64 0,i64 0]) 0)=_:=(congrArg (fun z=>bF (cu env (bI env M [gX c k x v true,je c k x v true,kG c k x v true r,nT c k x v true r o,uV c k x v false r o s f]) M 111 8 2) z (rU c k x v (T.agg [i64 0,i64 0,i64 0,i64 0,i64 0,i64 0]) 0)) hn).trans (it n)
 exact(jD it').trans (Jv M c k x v false r o s f _ _)
theorem aje {M:Nat} {c:Cf} {k:Int} {x:Px} {v:Rt} {r:T} {o:Int} {s:T} {f:List T} (hM:6≤M) (h:oO env M [gX c k x v true,je c k x v true,kG c k x v true r,nT c k x v true r o,uV c k x v true r o s f]):jc env (M+1) (TM c k x v true r o s f):=by
 refine kC h ?_
 refine(U1 M c k x v true r o s f _).trans ?_
 have it:∀ n,bF (cu env (bI env M [gX c k x v true,je c k x v true,kG c k x v true r,nT c k x v true r o,uV c k x v true r o s f]) M 111 8 2) (n+6) (rU c k x v (T.agg [i64 0,i64 0,i64 0,i64 0,i64 0,i64 0]) 0)= .ok (.exit 0,⟨slots 15 [],Yi c k x v r o s f⟩):=fun n=>by
  refine(bf (n:=n+5) (s':=Nh c k x v (T.agg [i64 0,i64 0,i64 0,i64 0,i64 0,i64 0]) 0) ((ES M c k x v true r o s f).trans bH)).trans ?_
  refine(bf (n:=n+4) (s':=TS c k x v (T.agg [i64 0,i64 0,i64 0,i64 0,i64 0,i64 0]) 0) ((ET M c k x v true r o s f).trans bH)).trans ?_
  refine(bf (n:=n+3) (s':=acA c k x v r 0) ((EU M c k x v true r o s f).trans bH)).trans ?_
  refine(bf (n:=n+2) (s':=ak6 c k x v r o) ((EW M c k x v true r o s f).trans bH)).trans ?_
  refine(bf (n:=n+1) (s':=aot c k x v r o s f) ((EX M c k x v true r o s f).trans bH)).trans ?_
  exact dV (n:=n) (Ro M c k x v true r o s f)
 obtain⟨n,hn⟩:∃ n,M=n+6:=⟨M - 6,by omega⟩
 have it':bF (cu env (bI env M [gX c k x v true,je c k x v true,kG c k x v true r,nT c k x v true r o,uV c k x v true r o s f]) M 111 8 2) M (rU c k x v (T.agg [i64 0,i64 0,i64 0,i64 0,i64 0,i64 0]) 0)=_:=(congrArg (fun z=>bF (cu env (bI env M [gX c k x v true,je c k x v true,kG c k x v true r,nT c k x v true r o,uV c k x v true r o s f]) M 111 8 2) z (rU c k x v (T.agg [i64 0,i64 0,i64 0,i64 0,i64 0,i64 0]) 0)) hn).trans (it n)
 exact(jD it').trans (Jr M c k x v true r o s f _ _)
end
section
open Go.RowKit Go.Proofs
def zP:T:=T.agg [i64 0,T.sl 1 [],i64 0,i64 0]
def Gs:Option Pa→T
 |some p=> .au [p.t,.bool true]
 |none=> .au [zP,.bool false]
variable [Lv]
theorem Rw {M:Nat} {c:Cf} {k:Int} {x:Px} {v:Rt} {o:Int} {r:T} (hw:T.wfs [c.t,i64 k,x.t,v.t]=true) (h:jc env M (TL c k x v false r o)):ak env (M+1) 81 [c.t,i64 k,x.t,v.t]= .ok (.au [zP,.bool false]):=
 lQ (ps:=[TL c k x v false r o]) ⟨h,trivial⟩ hw rfl ((aro M c k x v false r o).trans (l7 ⟨rfl,rfl⟩))
theorem apa {M:Nat} {c:Cf} {k:Int} {x:Px} {v:Rt} {o:Int} {r s:T} {f:List T} (hw:T.wfs [c.t,i64 k,x.t,v.t]=true) (h:jc env M (TM c k x v false r o s f)):ak env (M+1) 81 [c.t,i64 k,x.t,v.t]= .ok (.au [zP,.bool false]):=
 lQ (ps:=[TM c k x v false r o s f]) ⟨h,trivial⟩ hw rfl ((ae4 M c k x v false r o s f).trans (l7 ⟨rfl,rfl⟩))
theorem apb {M:Nat} {c:Cf} {k:Int} {x:Px} {v:Rt} {o:Int} {r:T} {l:List Int} {f:List T} (hw:T.wfs [c.t,i64 k,x.t,v.t]=true) (h:jc env M (TM c k x v true r o (.sl 1 (ints l)) f)):ak env (M+1) 81 [c.t,i64 k,x.t,v.t]= .ok (.au [(Pa.mk v.p.o l c.d o).t,.bool true]):=
 lQ (ps:=[TM c k x v true r o (.sl 1 (ints l)) f]) ⟨h,trivial⟩ hw rfl ((ae4 M c k x v true r o (.sl 1 (ints l)) f).trans (l7 ⟨rfl,rfl⟩))
theorem ame {M:Nat} {c:Cf} {k:Int} {x:Px} {v:Rt} (hM:big+18≤M) (h:c.ok) (hk:aV k=true) (hx:x.ok) (hv:v.ok):ak env (M+1) 81 [c.t,i64 k,x.t,v.t]= .ok (Gs (jU c k x v)):=by
 obtain⟨m,rfl⟩:=dJ (show 1≤M by omega)
 obtain⟨m,rfl⟩:=dJ (show 1≤m by omega)
 have hw:T.wfs [c.t,i64 k,x.t,v.t]=true:=by
  have h1:=h.wf; have h2:=aZ hk; have h3:=hx.wf; have h4:=hv.wf
  simp only[T.wfs,h1,h2,h3,h4,Bool.and_self]
 have g1:=apc (M:=m) (c:=c) (k:=k) (x:=x) (v:=v) (by omega) h hk hx hv
 unfold jU
 cases e1:dH c&&(hasB c k&&(dB x&&oh v)) with
 |false=>
  rw[e1] at g1
  exact Rw hw (aja (M:=m+1) (by omega) ⟨g1,trivial⟩)
 |true=>
 rw[e1] at g1
 have g2:=apd (M:=m) (c:=c) (k:=k) (x:=x) (v:=v)
 simp only[Bool.true_and]
 cases e2:decide (v.f≠k)&&decide (v.f < (c.s.length:Int)) with
 |false=>
  rw[e2] at g2
  exact Rw hw (ajb (M:=m+1) (by omega) ⟨g1,g2,trivial⟩)
 |true=>
 rw[e2] at g2
 simp only[if_true]
 simp only[Bool.and_eq_true] at e1
 obtain⟨i,s,rfl,hi,hs⟩:=wI e1.2.1
 rw[Int.toNat_natCast,hs]
 simp only[]
 have g3:=ape (M:=m) (c:=c) (x:=x) (v:=v) (by omega) hs h hx hv
 cases e3:kM s.o (BD x v.p (eY c v.f)) with
 |none=>
  rw[e3] at g3
  exact Rw hw (aaP (M:=m+1) (by omega) ⟨g1,g2,g3,trivial⟩)
 |some u=>
 rw[e3] at g3
 simp only[] at g3
 show _=ah.ok (Gs (if u.a=0 then none else match kL s.r c.a v.p.c with|some m=>if (jV c u v).length≤32 then some ⟨v.p.o,jV c u v,c.d,m⟩ else none|none=>none))
 by_cases e4:u.a=0
 · rw[e4,bne_self_eq_false] at g3
   rw[if_pos e4]
   exact Rw hw (aaP (M:=m+1) (by omega) ⟨g1,g2,g3,trivial⟩)
 rw[bne_iff_ne.2 e4] at g3
 rw[if_neg e4]
 have g4:=apf (M:=m) (c:=c) (x:=x) (v:=v) (r:=u.t) (by omega) hs h hv
 cases e5:kL s.r c.a v.p.c with
 |none=>
  rw[e5] at g4
  exact Rw hw (ajc (M:=m+1) (by omega) ⟨g1,g2,g3,g4,trivial⟩)
 |some o=>
 rw[e5] at g4
 obtain⟨s1,s2,s3,s4,s5,s6⟩:=mP e1.1 hs
 obtain⟨u1,u2⟩:=JV (s6 u (sW e3).1) e4
 have h32:v.p.s.length≤32:=by
  have:=e1.2.2.2
  unfold oh at this
  simp only[Bool.and_eq_true,decide_eq_true_eq] at this
  exact this.2.1
 have g5:=apg (M:=m) (c:=c) (k:=(i:Int)) (x:=x) (v:=v) (u:=u) (o:=o) (by omega) h hv u1 u2 h32
 simp only[]
 by_cases e6:(jV c u v).length≤32
 · rw[decide_eq_true e6] at g5
   rw[if_pos e6]
   exact apb hw (aje (M:=m+1) (by omega) ⟨g1,g2,g3,g4,g5,trivial⟩)
 · rw[decide_eq_false e6] at g5
   rw[if_neg e6]
   exact apa hw (ajd (M:=m+1) (by omega) ⟨g1,g2,g3,g4,g5,trivial⟩)
end
section
open Go.RowKit Go.Proofs
variable [Lv]
theorem XI {c:Cf} {k:Int} {x:Px} {p:Pa} {r:Rt} (h:wK c k x p=some r) (hc:c.ok) (hk:aV k=true) (hp:p.ok):r.ok:=by
 obtain⟨h1,h2,h3,i,s,m,u,rfl,hi,hs,h4,h5,h6,h7,h8,h9,rfl⟩:=mQ h
 have ho:=hc.s.2 _ (List.mem_of_getElem? hs)
 obtain⟨s1,s2,s3,s4,s5,s6⟩:=mP h1 hs
 obtain⟨p1,p2,p3,p4,p5,p6,p7,p8⟩:=tX h3
 have hm:aV m=true:=by
  have:=DZ p7 s1
  have:=XO p8 s2
  refine iH.2 ?_
  unfold og at h7
  repeat' split at h7
  all_goals first|(injection h7 with h7; omega)|cases h7
 exact⟨(ho.i.2 u (sW h8).1).n,⟨hp.o,hp.l,hp.s,hp.h,hm⟩,hk⟩
def zRt:Rt:=⟨0,⟨0,[],0,0⟩,0⟩
def zPa:Pa:=⟨0,[],0,0⟩
theorem I7 (o:Option Rt):I5 o= .au [(o.getD zRt).t,.bool o.isSome]:=by cases o<;>rfl
theorem afg {c:Cf} {k:Int} (h:c.ok):aV (eY c k)=true:=by
 unfold eY
 split
 · split
   · rename_i t ht; exact(h.s.2 _ (List.mem_of_getElem? ht)).r
   · rfl
 · rfl
theorem tq {r:Rt}:(r.t.cells.length==6&& !r.t.aY)=true:=rfl
theorem XP {p:Pa}:(p.t.cells.length==4&& !p.t.aY)=true:=rfl
end
section
open Go.RowKit Go.Proofs
variable [Lv]
theorem QJ {c:Cf} {k:Int} {x:Px} {r:Rt} {q:Pa} (h:jU c k x r=some q) (hc:c.ok) (hr:r.ok):q.ok:=by
 have hq:=(vk h).2.2.1
 have hl:=(vk h).2.2.2.2.2.2.1
 obtain⟨p1,p2,p3,p4,p5,p6,p7,p8⟩:=tX hq
 have hb:=aU
 refine⟨iH.2 (by omega),by omega,fun n hn=>iH.2 (by have:=p1 n hn; omega),iH.2 (by omega),iH.2 (by omega)⟩
end
section
open Go.RowKit Go.Proofs
variable [Lv]
theorem XJ {α:Type} (f:α→α) (s:Nat) (a:α):yN f (s+1) a=yN f s (f a):=by
 have:=aaD f 1 a s
 rw[Nat.add_comm] at this
 exact this
def nP (t:List Cf) (L:List (List Ch)):Bool:=decide (t.length≤8)&&decide (nextR t L=L)
def lI (t:List Cf):Nat→List (List Ch)→List (List Ch)×Bool
 |0,L=>(L,nP t L)
 |n+1,L=>if nP t L=true then(L,true) else lI t n (nextR t L)
def jQ (n:Nat):Nat:=2*min n 8*min n 8+4*min n 8+10
def uZ (t:List Cf):List (List Ch)×Bool:=lI t (jQ t.length) (oP t)
theorem JK (t:List Cf):∀ (n:Nat) (L:List (List Ch)),(lI t n L).2=nP t (lI t n L).1
 |0,L=>rfl
 |n+1,L=>by
  unfold lI
  by_cases h:nP t L=true
  · rw[if_pos h]; exact h.symm
  · rw[if_neg h]; exact JK t n _
theorem aav (t:List Cf):∀ (n:Nat) (L:List (List Ch)),∃ s,s≤n∧(lI t n L).1=yN (nextR t) s L
 |0,L=>⟨0,Nat.le_refl _,rfl⟩
 |n+1,L=>by
  unfold lI
  by_cases h:nP t L=true
  · rw[if_pos h]; exact⟨0,Nat.zero_le _,rfl⟩
  · rw[if_neg h]
    obtain⟨s,h1,h2⟩:=aav t n (nextR t L)
    exact⟨s+1,by omega,by rw[h2,XJ]⟩
theorem Vs (t:List Cf) (i k:Nat):lK t [] i k= []:=by
 unfold lK
 cases gB t i k with
 |none=>rfl
 |some p=>
  obtain⟨j,m⟩:=p
  simp only
  cases t[j]? <;>rfl
theorem JY (t:List Cf):nextR t []=oP t:=by
 unfold nextR oP
 split
 · refine List.ext_getElem? fun i=>?_
   rw[List.getElem?_map,List.getElem?_zipIdx,List.getElem?_map]
   cases t[i]? with
   |none=>rfl
   |some c=>
    simp only[Option.map_some]
    have:jm t [] (0+i) c=c.s.map fun _=>([]:List En):=by
     unfold jm
     refine List.ext_getElem? fun k=>?_
     rw[List.getElem?_map,List.getElem?_map]
     by_cases hk:k < c.s.length
     · rw[List.getElem?_range hk,List.getElem?_eq_getElem hk]
       simp only[Option.map_some,Vs]
     · rw[List.getElem?_eq_none (by rw[List.length_range]; omega),List.getElem?_eq_none (by omega)]; rfl
    rw[this]
 · rfl
def TB (t:List Cf) (L:List (List Ch)):List Px:=t.flatMap Cf.w++L.flatMap fun l=>l.map Ch.x
structure BF (U:List Px) (L:List (List Ch)):Prop where
 ok:∀ l∈L,∀ e∈l,e.ok
 mem:∀ l∈L,∀ e∈l,e.x∈U
 len:∀ l∈L,l.length≤U.length
theorem fits_all (t:List Cf) {L:List (List Ch)} (h:∀ l∈L,∀ e∈l,e.ok):BF (TB t L) L where
 ok:=h
 mem l hl e he:=List.mem_append_right _ (List.mem_flatMap.2 ⟨l,hl,List.mem_map.2 ⟨e,he,rfl⟩⟩)
 len l hl:=by
  unfold TB
  rw[List.length_append]
  have:l.length≤(L.flatMap fun l=>l.map Ch.x).length:=by
   clear h
   induction L with
   |nil=>cases hl
   |cons a L ih=>
    rw[List.flatMap_cons,List.length_append]
    rcases List.mem_cons.1 hl with rfl|hl
    · rw[List.length_map]; omega
    · have:=ih hl; omega
  omega
theorem afo {U:List Px} {L:List (List Ch)} (h:BF U L) (j:Nat):(∀ e∈L.getD j [],e.ok)∧(∀ e∈L.getD j [],e.x∈U)∧(L.getD j []).length≤U.length:=by
 rw[List.getD_eq_getElem?_getD]
 cases hl:L[j]? with
 |none=>exact⟨by simp,by simp,Nat.zero_le _⟩
 |some l=>have hm:=List.mem_of_getElem? hl; exact⟨h.ok l hm,h.mem l hm,h.len l hm⟩
theorem adv {c:Cf} {k:Int} {l:List Ch} {U:List Px} (hc:c.ok) (h1:∀ e∈l,e.ok) (h2:∀ e∈l,e.x∈U):(∀ e∈uw c k l,e.ok)∧∀ e∈uw c k l,e.x∈U:=by
 refine⟨fun e he=>?_,fun e he=>?_⟩
 · obtain⟨_,r,hr,hp⟩:=zW.1 he
   exact⟨(h1 _ hr).x,QJ hp hc (h1 _ hr).r⟩
 · obtain⟨_,r,hr,hp⟩:=zW.1 he
   exact h2 _ hr
theorem Gx {t:List Cf} {L:List (List Ch)} {U:List Px} (ht:∀ c∈t,c.ok) (h:BF U L) (i k:Nat):(∀ e∈lK t L i k,e.ok)∧(∀ e∈lK t L i k,e.x∈U)∧(lK t L i k).length≤U.length:=by
 unfold lK
 cases gB t i k with
 |none=>exact⟨by simp,by simp,Nat.zero_le _⟩
 |some p=>
  obtain⟨j,m⟩:=p
  simp only
  cases hd:t[j]? with
  |none=>exact⟨by simp,by simp,Nat.zero_le _⟩
  |some d=>
   obtain⟨g1,g2,g3⟩:=afo h j
   obtain⟨w1,w2⟩:=adv (k:=m) (ht d (List.mem_of_getElem? hd)) g1 g2
   exact⟨w1,w2,Nat.le_trans (Vz _ _ _) g3⟩
theorem adq {t:List Cf} {L:List (List Ch)} {U:List Px} {i:Nat} {c:Cf} (ht:∀ c∈t,c.ok) (hc:t[i]? =some c) (h:BF U L) (hw:∀ x∈c.w,x∈U):(∀ x∈iJ c (jm t L i c),x∈U)∧(iJ c (jm t L i c)).length≤c.w.length+c.s.length*U.length:=by
 have hin:∀ l∈jm t L i c,∃ k,l=lK t L i k:=fun l hl=>by
  unfold jm at hl
  obtain⟨k,_,rfl⟩:=List.mem_map.1 hl
  exact⟨k,rfl⟩
 unfold iJ
 refine⟨fun x hx=>?_,?_⟩
 · rcases List.mem_append.1 hx with hx|hx
   · exact hw x hx
   · obtain⟨l,hl,h2⟩:=List.mem_flatMap.1 hx
     obtain⟨e,he,rfl⟩:=List.mem_map.1 h2
     obtain⟨k,rfl⟩:=hin l (List.mem_of_mem_take hl)
     exact(Gx ht h i k).2.1 e he
 · rw[List.length_append]
   have main:∀ m:List (List En),(∀ l∈m,l.length≤U.length)→(m.flatMap fun l=>l.map En.x).length≤m.length*U.length:=by
    intro m
    induction m with
    |nil=>intro _; simp
    |cons a m ih=>
     intro hm
     rw[List.flatMap_cons,List.length_append,List.length_map,List.length_cons,Nat.succ_mul]
     have:=ih fun l hl=>hm l (List.mem_cons_of_mem _ hl)
     have:=hm a List.mem_cons_self
     omega
   have h1:=main ((jm t L i c).take c.s.length) fun l hl=>by
    obtain⟨k,rfl⟩:=hin l (List.mem_of_mem_take hl)
    exact(Gx ht h i k).2.2
   have h2:((jm t L i c).take c.s.length).length≤c.s.length:=by rw[List.length_take]; omega
   have:=Nat.mul_le_mul_right U.length h2
   omega
theorem Ll {α:Type} [DecidableEq α]:∀ (l m:List α),l.Nodup→(∀ x∈l,x∈m)→l.length≤m.length
 | [],m,_,_=>Nat.zero_le _
 |x::l,m,hn,h=>by
  obtain⟨h1,h2⟩:=List.nodup_cons.1 hn
  have hm:=h x List.mem_cons_self
  have:=Ll l (m.erase x) h2 fun y hy=>(List.mem_erase_of_ne (by rintro rfl; exact h1 hy)).2 (h y (List.mem_cons_of_mem _ hy))
  rw[List.length_erase_of_mem hm] at this
  have hp:0 < m.length:=List.length_pos_of_mem hm
  rw[List.length_cons]; omega
theorem abK (c:Cf) (t:List (List En)):((iM c t).map Ch.x).Nodup:=by
 rw[List.nodup_iff_pairwise_ne,List.pairwise_map]
 exact List.Pairwise.imp (fun h e=>by rw[e] at h; exact gG _ h) (su c t)
theorem afL {c:Cf} {t:List (List En)} {e:Ch} (h:e∈iM c t):e.x∈iJ c t:=by
 unfold iM at h
 obtain⟨x,hx,h2⟩:=List.mem_filterMap.1 h
 rw[(ku.1 h2).1]
 exact mem_keys.1 hx
theorem ZU {c:Cf} {t:List (List En)} {x:Px} (h:c.ok) (hb:c.s.length≤big) (ht:∀ l∈t,∀ e∈l,e.ok):∀ r∈gu c t x,r.ok:=fun r hr=>by
 rcases(rJ.1 hr).2 with ⟨_,rfl⟩|⟨k,l,p,h1,h2,h3,h4⟩
 · exact QK h.d
 · have:=aU
   exact XI h4 h (iH.2 (by omega)) (ht l (List.mem_of_getElem? h2) _ (lU (oW.1 h3))).p
theorem abW {t:List Cf} {L:List (List Ch)} {U:List Px} (ht:∀ c∈t,c.ok) (hU:∀ x∈U,x.ok) (hw:∀ c∈t,∀ x∈c.w,x∈U) (h:BF U L):BF U (nextR t L):=by
 have hin:∀ l∈nextR t L,∃ i c,t[i]? =some c∧l=iM c (jm t L i c):=fun l hl=>by
  unfold nextR at hl
  split at hl
  · obtain⟨p,hp,rfl⟩:=List.mem_map.1 hl
    obtain⟨i,hi⟩:=List.mem_iff_getElem?.1 hp
    rw[List.getElem?_zipIdx] at hi
    obtain⟨c,hc,rfl⟩:=Option.map_eq_some_iff.1 hi
    exact⟨i,c,hc,by simp⟩
  · cases hl
 have mem:∀ l∈nextR t L,∀ e∈l,e.x∈U:=fun l hl e he=>by
  obtain⟨i,c,hc,rfl⟩:=hin l hl
  exact(adq ht hc h (hw c (List.mem_of_getElem? hc))).1 _ (afL he)
 refine⟨fun l hl e he=>?_,mem,fun l hl=>?_⟩
 · have hx:=hU _ (mem l hl e he)
   obtain⟨i,c,hc,rfl⟩:=hin l hl
   have hco:=ht c (List.mem_of_getElem? hc)
   refine⟨hx,ZU (t:=jm t L i c) hco hco.s.1 (fun l hl e he=>?_) _ (mY (Am.1 he)).1⟩
   unfold jm at hl
   obtain⟨k,_,rfl⟩:=List.mem_map.1 hl
   exact(Gx ht h i k).1 e he
 · have h2:=mem l hl
   obtain⟨i,c,hc,rfl⟩:=hin l hl
   have:=Ll _ U (abK c (jm t L i c)) fun x hx=>by
    obtain⟨e,he,rfl⟩:=List.mem_map.1 hx
    exact h2 e he
   rw[List.length_map] at this
   exact this
end
section
abbrev aK (L:List (List Ch)):List T:=L.map fun l=> .sl 8 (l.map Ch.t)
theorem vC {L:List (List Ch)} {i:Nat} {l:List Ch} (h:L[i]? =some l):(aK L)[i]? =some (.sl 8 (l.map Ch.t)):=by simp[aK,h]
theorem D9 (L:List (List Ch)):(aK L).length=L.length:=by simp[aK]
def cu3 (a:Int):Sd:=⟨a,1,[⟨0,⟨0,0⟩,0,2,300⟩],[⟨0,⟨0,0⟩,0,1,0⟩]⟩
def pr3 (a:Int):Sd:=⟨a,3,[⟨0,⟨0,0⟩,0,2,100⟩],[⟨4,⟨0,0⟩,0,1,0⟩,⟨4,⟨0,0⟩,1,1,0⟩]⟩
def x3:Px:=⟨167772160,8⟩
def EN:List Lk:=[⟨0,1,3⟩,⟨2,1,3⟩]
def tN:List Cf:=[⟨65001,167772161,90,1000,[x3],[pr3 65002]⟩,⟨65002,167772162,90,1000,[],[cu3 65001,cu3 65003]⟩,⟨65003,167772163,90,1000,[],[pr3 65002]⟩]
def Fv:List (List Ch):=[[⟨x3,⟨400,⟨0,[],167772161,0⟩,-1⟩⟩],[⟨x3,⟨300,⟨0,[65001],167772161,0⟩,0⟩⟩],[⟨x3,⟨100,⟨0,[65002,65001],167772162,65002⟩,0⟩⟩]]
end
end Go.aT
