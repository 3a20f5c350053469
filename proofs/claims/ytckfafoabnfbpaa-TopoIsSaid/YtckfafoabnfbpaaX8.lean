/- The texts of a proof, one behind the other: an interpreter and its soundness, what the functions of the program answer, and plain laws on that. -/
import Derived.Test.YtckfafoabnfbpaaX7
import Derived.Test.YtckfafoabnfbpaaX5
import Derived.Test.YtckfafoabnfbpaaX2
import Derived.Test.YtckfafoabnfbpaaX1
import Derived.Test.YtckfafoabnfbpaaK10
set_option linter.unusedVariables false
set_option linter.unusedSimpArgs false
set_option linter.unnecessarySimpa false
set_option linter.unusedSectionVars false
set_option maxRecDepth 100000
namespace Go.aO
section
open Go.RowKit Go.Proofs
variable [Lv]
theorem XU (N:Nat) (l:List Lk) (c0 c1 c2 c3 c4 c5:Cf):ay N l [c0,c1,c2,c3,c4,c5] 0 1 c0 c1:=⟨fun j r=>by kernel_rfl,fun j r=>by kernel_rfl,fun j r k v=>by kernel_rfl,fun j r=>⟨by kernel_rfl,by kernel_rfl,fun S=>by kernel_rfl,fun S=>by kernel_rfl,fun S=>by kernel_rfl⟩,fun j r=>⟨by kernel_rfl,by kernel_rfl,fun S=>by kernel_rfl,fun S=>by kernel_rfl,fun S=>by kernel_rfl⟩⟩
theorem XV (N:Nat) (l:List Lk) (c0 c1 c2 c3 c4 c5:Cf):ay N l [c0,c1,c2,c3,c4,c5] 0 2 c0 c2:=⟨fun j r=>by kernel_rfl,fun j r=>by kernel_rfl,fun j r k v=>by kernel_rfl,fun j r=>⟨by kernel_rfl,by kernel_rfl,fun S=>by kernel_rfl,fun S=>by kernel_rfl,fun S=>by kernel_rfl⟩,fun j r=>⟨by kernel_rfl,by kernel_rfl,fun S=>by kernel_rfl,fun S=>by kernel_rfl,fun S=>by kernel_rfl⟩⟩
theorem XW (N:Nat) (l:List Lk) (c0 c1 c2 c3 c4 c5:Cf):ay N l [c0,c1,c2,c3,c4,c5] 0 3 c0 c3:=⟨fun j r=>by kernel_rfl,fun j r=>by kernel_rfl,fun j r k v=>by kernel_rfl,fun j r=>⟨by kernel_rfl,by kernel_rfl,fun S=>by kernel_rfl,fun S=>by kernel_rfl,fun S=>by kernel_rfl⟩,fun j r=>⟨by kernel_rfl,by kernel_rfl,fun S=>by kernel_rfl,fun S=>by kernel_rfl,fun S=>by kernel_rfl⟩⟩
theorem XY (N:Nat) (l:List Lk) (c0 c1 c2 c3 c4 c5:Cf):ay N l [c0,c1,c2,c3,c4,c5] 0 4 c0 c4:=⟨fun j r=>by kernel_rfl,fun j r=>by kernel_rfl,fun j r k v=>by kernel_rfl,fun j r=>⟨by kernel_rfl,by kernel_rfl,fun S=>by kernel_rfl,fun S=>by kernel_rfl,fun S=>by kernel_rfl⟩,fun j r=>⟨by kernel_rfl,by kernel_rfl,fun S=>by kernel_rfl,fun S=>by kernel_rfl,fun S=>by kernel_rfl⟩⟩
theorem XZ (N:Nat) (l:List Lk) (c0 c1 c2 c3 c4 c5:Cf):ay N l [c0,c1,c2,c3,c4,c5] 0 5 c0 c5:=⟨fun j r=>by kernel_rfl,fun j r=>by kernel_rfl,fun j r k v=>by kernel_rfl,fun j r=>⟨by kernel_rfl,by kernel_rfl,fun S=>by kernel_rfl,fun S=>by kernel_rfl,fun S=>by kernel_rfl⟩,fun j r=>⟨by kernel_rfl,by kernel_rfl,fun S=>by kernel_rfl,fun S=>by kernel_rfl,fun S=>by kernel_rfl⟩⟩
theorem X0 (N:Nat) (l:List Lk) (c0 c1 c2 c3 c4 c5:Cf):ay N l [c0,c1,c2,c3,c4,c5] 1 0 c1 c0:=⟨fun j r=>by kernel_rfl,fun j r=>by kernel_rfl,fun j r k v=>by kernel_rfl,fun j r=>⟨by kernel_rfl,by kernel_rfl,fun S=>by kernel_rfl,fun S=>by kernel_rfl,fun S=>by kernel_rfl⟩,fun j r=>⟨by kernel_rfl,by kernel_rfl,fun S=>by kernel_rfl,fun S=>by kernel_rfl,fun S=>by kernel_rfl⟩⟩
theorem X3 (N:Nat) (l:List Lk) (c0 c1 c2 c3 c4 c5:Cf):ay N l [c0,c1,c2,c3,c4,c5] 1 2 c1 c2:=⟨fun j r=>by kernel_rfl,fun j r=>by kernel_rfl,fun j r k v=>by kernel_rfl,fun j r=>⟨by kernel_rfl,by kernel_rfl,fun S=>by kernel_rfl,fun S=>by kernel_rfl,fun S=>by kernel_rfl⟩,fun j r=>⟨by kernel_rfl,by kernel_rfl,fun S=>by kernel_rfl,fun S=>by kernel_rfl,fun S=>by kernel_rfl⟩⟩
theorem X4 (N:Nat) (l:List Lk) (c0 c1 c2 c3 c4 c5:Cf):ay N l [c0,c1,c2,c3,c4,c5] 1 3 c1 c3:=⟨fun j r=>by kernel_rfl,fun j r=>by kernel_rfl,fun j r k v=>by kernel_rfl,fun j r=>⟨by kernel_rfl,by kernel_rfl,fun S=>by kernel_rfl,fun S=>by kernel_rfl,fun S=>by kernel_rfl⟩,fun j r=>⟨by kernel_rfl,by kernel_rfl,fun S=>by kernel_rfl,fun S=>by kernel_rfl,fun S=>by kernel_rfl⟩⟩
theorem X5 (N:Nat) (l:List Lk) (c0 c1 c2 c3 c4 c5:Cf):ay N l [c0,c1,c2,c3,c4,c5] 1 4 c1 c4:=⟨fun j r=>by kernel_rfl,fun j r=>by kernel_rfl,fun j r k v=>by kernel_rfl,fun j r=>⟨by kernel_rfl,by kernel_rfl,fun S=>by kernel_rfl,fun S=>by kernel_rfl,fun S=>by kernel_rfl⟩,fun j r=>⟨by kernel_rfl,by kernel_rfl,fun S=>by kernel_rfl,fun S=>by kernel_rfl,fun S=>by kernel_rfl⟩⟩
theorem X6 (N:Nat) (l:List Lk) (c0 c1 c2 c3 c4 c5:Cf):ay N l [c0,c1,c2,c3,c4,c5] 1 5 c1 c5:=⟨fun j r=>by kernel_rfl,fun j r=>by kernel_rfl,fun j r k v=>by kernel_rfl,fun j r=>⟨by kernel_rfl,by kernel_rfl,fun S=>by kernel_rfl,fun S=>by kernel_rfl,fun S=>by kernel_rfl⟩,fun j r=>⟨by kernel_rfl,by kernel_rfl,fun S=>by kernel_rfl,fun S=>by kernel_rfl,fun S=>by kernel_rfl⟩⟩
theorem X7 (N:Nat) (l:List Lk) (c0 c1 c2 c3 c4 c5:Cf):ay N l [c0,c1,c2,c3,c4,c5] 2 0 c2 c0:=⟨fun j r=>by kernel_rfl,fun j r=>by kernel_rfl,fun j r k v=>by kernel_rfl,fun j r=>⟨by kernel_rfl,by kernel_rfl,fun S=>by kernel_rfl,fun S=>by kernel_rfl,fun S=>by kernel_rfl⟩,fun j r=>⟨by kernel_rfl,by kernel_rfl,fun S=>by kernel_rfl,fun S=>by kernel_rfl,fun S=>by kernel_rfl⟩⟩
theorem X8 (N:Nat) (l:List Lk) (c0 c1 c2 c3 c4 c5:Cf):ay N l [c0,c1,c2,c3,c4,c5] 2 1 c2 c1:=⟨fun j r=>by kernel_rfl,fun j r=>by kernel_rfl,fun j r k v=>by kernel_rfl,fun j r=>⟨by kernel_rfl,by kernel_rfl,fun S=>by kernel_rfl,fun S=>by kernel_rfl,fun S=>by kernel_rfl⟩,fun j r=>⟨by kernel_rfl,by kernel_rfl,fun S=>by kernel_rfl,fun S=>by kernel_rfl,fun S=>by kernel_rfl⟩⟩
theorem X9 (N:Nat) (l:List Lk) (c0 c1 c2 c3 c4 c5:Cf):ay N l [c0,c1,c2,c3,c4,c5] 2 3 c2 c3:=⟨fun j r=>by kernel_rfl,fun j r=>by kernel_rfl,fun j r k v=>by kernel_rfl,fun j r=>⟨by kernel_rfl,by kernel_rfl,fun S=>by kernel_rfl,fun S=>by kernel_rfl,fun S=>by kernel_rfl⟩,fun j r=>⟨by kernel_rfl,by kernel_rfl,fun S=>by kernel_rfl,fun S=>by kernel_rfl,fun S=>by kernel_rfl⟩⟩
theorem Ya (N:Nat) (l:List Lk) (c0 c1 c2 c3 c4 c5:Cf):ay N l [c0,c1,c2,c3,c4,c5] 2 4 c2 c4:=⟨fun j r=>by kernel_rfl,fun j r=>by kernel_rfl,fun j r k v=>by kernel_rfl,fun j r=>⟨by kernel_rfl,by kernel_rfl,fun S=>by kernel_rfl,fun S=>by kernel_rfl,fun S=>by kernel_rfl⟩,fun j r=>⟨by kernel_rfl,by kernel_rfl,fun S=>by kernel_rfl,fun S=>by kernel_rfl,fun S=>by kernel_rfl⟩⟩
theorem Yb (N:Nat) (l:List Lk) (c0 c1 c2 c3 c4 c5:Cf):ay N l [c0,c1,c2,c3,c4,c5] 2 5 c2 c5:=⟨fun j r=>by kernel_rfl,fun j r=>by kernel_rfl,fun j r k v=>by kernel_rfl,fun j r=>⟨by kernel_rfl,by kernel_rfl,fun S=>by kernel_rfl,fun S=>by kernel_rfl,fun S=>by kernel_rfl⟩,fun j r=>⟨by kernel_rfl,by kernel_rfl,fun S=>by kernel_rfl,fun S=>by kernel_rfl,fun S=>by kernel_rfl⟩⟩
theorem Yc (N:Nat) (l:List Lk) (c0 c1 c2 c3 c4 c5:Cf):ay N l [c0,c1,c2,c3,c4,c5] 3 0 c3 c0:=⟨fun j r=>by kernel_rfl,fun j r=>by kernel_rfl,fun j r k v=>by kernel_rfl,fun j r=>⟨by kernel_rfl,by kernel_rfl,fun S=>by kernel_rfl,fun S=>by kernel_rfl,fun S=>by kernel_rfl⟩,fun j r=>⟨by kernel_rfl,by kernel_rfl,fun S=>by kernel_rfl,fun S=>by kernel_rfl,fun S=>by kernel_rfl⟩⟩
theorem Yd (N:Nat) (l:List Lk) (c0 c1 c2 c3 c4 c5:Cf):ay N l [c0,c1,c2,c3,c4,c5] 3 1 c3 c1:=⟨fun j r=>by kernel_rfl,fun j r=>by kernel_rfl,fun j r k v=>by kernel_rfl,fun j r=>⟨by kernel_rfl,by kernel_rfl,fun S=>by kernel_rfl,fun S=>by kernel_rfl,fun S=>by kernel_rfl⟩,fun j r=>⟨by kernel_rfl,by kernel_rfl,fun S=>by kernel_rfl,fun S=>by kernel_rfl,fun S=>by kernel_rfl⟩⟩
theorem Ye (N:Nat) (l:List Lk) (c0 c1 c2 c3 c4 c5:Cf):ay N l [c0,c1,c2,c3,c4,c5] 3 2 c3 c2:=⟨fun j r=>by kernel_rfl,fun j r=>by kernel_rfl,fun j r k v=>by kernel_rfl,fun j r=>⟨by kernel_rfl,by kernel_rfl,fun S=>by kernel_rfl,fun S=>by kernel_rfl,fun S=>by kernel_rfl⟩,fun j r=>⟨by kernel_rfl,by kernel_rfl,fun S=>by kernel_rfl,fun S=>by kernel_rfl,fun S=>by kernel_rfl⟩⟩
theorem Yf (N:Nat) (l:List Lk) (c0 c1 c2 c3 c4 c5:Cf):ay N l [c0,c1,c2,c3,c4,c5] 3 4 c3 c4:=⟨fun j r=>by kernel_rfl,fun j r=>by kernel_rfl,fun j r k v=>by kernel_rfl,fun j r=>⟨by kernel_rfl,by kernel_rfl,fun S=>by kernel_rfl,fun S=>by kernel_rfl,fun S=>by kernel_rfl⟩,fun j r=>⟨by kernel_rfl,by kernel_rfl,fun S=>by kernel_rfl,fun S=>by kernel_rfl,fun S=>by kernel_rfl⟩⟩
theorem Yg (N:Nat) (l:List Lk) (c0 c1 c2 c3 c4 c5:Cf):ay N l [c0,c1,c2,c3,c4,c5] 3 5 c3 c5:=⟨fun j r=>by kernel_rfl,fun j r=>by kernel_rfl,fun j r k v=>by kernel_rfl,fun j r=>⟨by kernel_rfl,by kernel_rfl,fun S=>by kernel_rfl,fun S=>by kernel_rfl,fun S=>by kernel_rfl⟩,fun j r=>⟨by kernel_rfl,by kernel_rfl,fun S=>by kernel_rfl,fun S=>by kernel_rfl,fun S=>by kernel_rfl⟩⟩
theorem Yh (N:Nat) (l:List Lk) (c0 c1 c2 c3 c4 c5:Cf):ay N l [c0,c1,c2,c3,c4,c5] 4 0 c4 c0:=⟨fun j r=>by kernel_rfl,fun j r=>by kernel_rfl,fun j r k v=>by kernel_rfl,fun j r=>⟨by kernel_rfl,by kernel_rfl,fun S=>by kernel_rfl,fun S=>by kernel_rfl,fun S=>by kernel_rfl⟩,fun j r=>⟨by kernel_rfl,by kernel_rfl,fun S=>by kernel_rfl,fun S=>by kernel_rfl,fun S=>by kernel_rfl⟩⟩
theorem Yi (N:Nat) (l:List Lk) (c0 c1 c2 c3 c4 c5:Cf):ay N l [c0,c1,c2,c3,c4,c5] 4 1 c4 c1:=⟨fun j r=>by kernel_rfl,fun j r=>by kernel_rfl,fun j r k v=>by kernel_rfl,fun j r=>⟨by kernel_rfl,by kernel_rfl,fun S=>by kernel_rfl,fun S=>by kernel_rfl,fun S=>by kernel_rfl⟩,fun j r=>⟨by kernel_rfl,by kernel_rfl,fun S=>by kernel_rfl,fun S=>by kernel_rfl,fun S=>by kernel_rfl⟩⟩
theorem Yj (N:Nat) (l:List Lk) (c0 c1 c2 c3 c4 c5:Cf):ay N l [c0,c1,c2,c3,c4,c5] 4 2 c4 c2:=⟨fun j r=>by kernel_rfl,fun j r=>by kernel_rfl,fun j r k v=>by kernel_rfl,fun j r=>⟨by kernel_rfl,by kernel_rfl,fun S=>by kernel_rfl,fun S=>by kernel_rfl,fun S=>by kernel_rfl⟩,fun j r=>⟨by kernel_rfl,by kernel_rfl,fun S=>by kernel_rfl,fun S=>by kernel_rfl,fun S=>by kernel_rfl⟩⟩
theorem Yk (N:Nat) (l:List Lk) (c0 c1 c2 c3 c4 c5:Cf):ay N l [c0,c1,c2,c3,c4,c5] 4 3 c4 c3:=⟨fun j r=>by kernel_rfl,fun j r=>by kernel_rfl,fun j r k v=>by kernel_rfl,fun j r=>⟨by kernel_rfl,by kernel_rfl,fun S=>by kernel_rfl,fun S=>by kernel_rfl,fun S=>by kernel_rfl⟩,fun j r=>⟨by kernel_rfl,by kernel_rfl,fun S=>by kernel_rfl,fun S=>by kernel_rfl,fun S=>by kernel_rfl⟩⟩
theorem Yl (N:Nat) (l:List Lk) (c0 c1 c2 c3 c4 c5:Cf):ay N l [c0,c1,c2,c3,c4,c5] 4 5 c4 c5:=⟨fun j r=>by kernel_rfl,fun j r=>by kernel_rfl,fun j r k v=>by kernel_rfl,fun j r=>⟨by kernel_rfl,by kernel_rfl,fun S=>by kernel_rfl,fun S=>by kernel_rfl,fun S=>by kernel_rfl⟩,fun j r=>⟨by kernel_rfl,by kernel_rfl,fun S=>by kernel_rfl,fun S=>by kernel_rfl,fun S=>by kernel_rfl⟩⟩
theorem Ym (N:Nat) (l:List Lk) (c0 c1 c2 c3 c4 c5:Cf):ay N l [c0,c1,c2,c3,c4,c5] 5 0 c5 c0:=⟨fun j r=>by kernel_rfl,fun j r=>by kernel_rfl,fun j r k v=>by kernel_rfl,fun j r=>⟨by kernel_rfl,by kernel_rfl,fun S=>by kernel_rfl,fun S=>by kernel_rfl,fun S=>by kernel_rfl⟩,fun j r=>⟨by kernel_rfl,by kernel_rfl,fun S=>by kernel_rfl,fun S=>by kernel_rfl,fun S=>by kernel_rfl⟩⟩
theorem Yn (N:Nat) (l:List Lk) (c0 c1 c2 c3 c4 c5:Cf):ay N l [c0,c1,c2,c3,c4,c5] 5 1 c5 c1:=⟨fun j r=>by kernel_rfl,fun j r=>by kernel_rfl,fun j r k v=>by kernel_rfl,fun j r=>⟨by kernel_rfl,by kernel_rfl,fun S=>by kernel_rfl,fun S=>by kernel_rfl,fun S=>by kernel_rfl⟩,fun j r=>⟨by kernel_rfl,by kernel_rfl,fun S=>by kernel_rfl,fun S=>by kernel_rfl,fun S=>by kernel_rfl⟩⟩
theorem Yo (N:Nat) (l:List Lk) (c0 c1 c2 c3 c4 c5:Cf):ay N l [c0,c1,c2,c3,c4,c5] 5 2 c5 c2:=⟨fun j r=>by kernel_rfl,fun j r=>by kernel_rfl,fun j r k v=>by kernel_rfl,fun j r=>⟨by kernel_rfl,by kernel_rfl,fun S=>by kernel_rfl,fun S=>by kernel_rfl,fun S=>by kernel_rfl⟩,fun j r=>⟨by kernel_rfl,by kernel_rfl,fun S=>by kernel_rfl,fun S=>by kernel_rfl,fun S=>by kernel_rfl⟩⟩
theorem Yp (N:Nat) (l:List Lk) (c0 c1 c2 c3 c4 c5:Cf):ay N l [c0,c1,c2,c3,c4,c5] 5 3 c5 c3:=⟨fun j r=>by kernel_rfl,fun j r=>by kernel_rfl,fun j r k v=>by kernel_rfl,fun j r=>⟨by kernel_rfl,by kernel_rfl,fun S=>by kernel_rfl,fun S=>by kernel_rfl,fun S=>by kernel_rfl⟩,fun j r=>⟨by kernel_rfl,by kernel_rfl,fun S=>by kernel_rfl,fun S=>by kernel_rfl,fun S=>by kernel_rfl⟩⟩
theorem Yq (N:Nat) (l:List Lk) (c0 c1 c2 c3 c4 c5:Cf):ay N l [c0,c1,c2,c3,c4,c5] 5 4 c5 c4:=⟨fun j r=>by kernel_rfl,fun j r=>by kernel_rfl,fun j r k v=>by kernel_rfl,fun j r=>⟨by kernel_rfl,by kernel_rfl,fun S=>by kernel_rfl,fun S=>by kernel_rfl,fun S=>by kernel_rfl⟩,fun j r=>⟨by kernel_rfl,by kernel_rfl,fun S=>by kernel_rfl,fun S=>by kernel_rfl,fun S=>by kernel_rfl⟩⟩
theorem lk6 {N:Nat} {l:List Lk} {c0 c1 c2 c3 c4 c5 ca cb:Cf}:∀ {a b:Nat},a≠b→ [c0,c1,c2,c3,c4,c5][a]? =some ca→ [c0,c1,c2,c3,c4,c5][b]? =some cb→ay N l [c0,c1,c2,c3,c4,c5] a b ca cb
 |0,0,h,_,_=>absurd rfl h
 |0,1,_,ha,hb=>by cases ha; cases hb; exact XU N l c0 c1 c2 c3 c4 c5
 |0,2,_,ha,hb=>by cases ha; cases hb; exact XV N l c0 c1 c2 c3 c4 c5
 |0,3,_,ha,hb=>by cases ha; cases hb; exact XW N l c0 c1 c2 c3 c4 c5
 |0,4,_,ha,hb=>by cases ha; cases hb; exact XY N l c0 c1 c2 c3 c4 c5
 |0,5,_,ha,hb=>by cases ha; cases hb; exact XZ N l c0 c1 c2 c3 c4 c5
 |0,b+6,_,_,hb=>by simp at hb
 |1,0,_,ha,hb=>by cases ha; cases hb; exact X0 N l c0 c1 c2 c3 c4 c5
 |1,1,h,_,_=>absurd rfl h
 |1,2,_,ha,hb=>by cases ha; cases hb; exact X3 N l c0 c1 c2 c3 c4 c5
 |1,3,_,ha,hb=>by cases ha; cases hb; exact X4 N l c0 c1 c2 c3 c4 c5
 |1,4,_,ha,hb=>by cases ha; cases hb; exact X5 N l c0 c1 c2 c3 c4 c5
 |1,5,_,ha,hb=>by cases ha; cases hb; exact X6 N l c0 c1 c2 c3 c4 c5
 |1,b+6,_,_,hb=>by simp at hb
 |2,0,_,ha,hb=>by cases ha; cases hb; exact X7 N l c0 c1 c2 c3 c4 c5
 |2,1,_,ha,hb=>by cases ha; cases hb; exact X8 N l c0 c1 c2 c3 c4 c5
 |2,2,h,_,_=>absurd rfl h
 |2,3,_,ha,hb=>by cases ha; cases hb; exact X9 N l c0 c1 c2 c3 c4 c5
 |2,4,_,ha,hb=>by cases ha; cases hb; exact Ya N l c0 c1 c2 c3 c4 c5
 |2,5,_,ha,hb=>by cases ha; cases hb; exact Yb N l c0 c1 c2 c3 c4 c5
 |2,b+6,_,_,hb=>by simp at hb
 |3,0,_,ha,hb=>by cases ha; cases hb; exact Yc N l c0 c1 c2 c3 c4 c5
 |3,1,_,ha,hb=>by cases ha; cases hb; exact Yd N l c0 c1 c2 c3 c4 c5
 |3,2,_,ha,hb=>by cases ha; cases hb; exact Ye N l c0 c1 c2 c3 c4 c5
 |3,3,h,_,_=>absurd rfl h
 |3,4,_,ha,hb=>by cases ha; cases hb; exact Yf N l c0 c1 c2 c3 c4 c5
 |3,5,_,ha,hb=>by cases ha; cases hb; exact Yg N l c0 c1 c2 c3 c4 c5
 |3,b+6,_,_,hb=>by simp at hb
 |4,0,_,ha,hb=>by cases ha; cases hb; exact Yh N l c0 c1 c2 c3 c4 c5
 |4,1,_,ha,hb=>by cases ha; cases hb; exact Yi N l c0 c1 c2 c3 c4 c5
 |4,2,_,ha,hb=>by cases ha; cases hb; exact Yj N l c0 c1 c2 c3 c4 c5
 |4,3,_,ha,hb=>by cases ha; cases hb; exact Yk N l c0 c1 c2 c3 c4 c5
 |4,4,h,_,_=>absurd rfl h
 |4,5,_,ha,hb=>by cases ha; cases hb; exact Yl N l c0 c1 c2 c3 c4 c5
 |4,b+6,_,_,hb=>by simp at hb
 |5,0,_,ha,hb=>by cases ha; cases hb; exact Ym N l c0 c1 c2 c3 c4 c5
 |5,1,_,ha,hb=>by cases ha; cases hb; exact Yn N l c0 c1 c2 c3 c4 c5
 |5,2,_,ha,hb=>by cases ha; cases hb; exact Yo N l c0 c1 c2 c3 c4 c5
 |5,3,_,ha,hb=>by cases ha; cases hb; exact Yp N l c0 c1 c2 c3 c4 c5
 |5,4,_,ha,hb=>by cases ha; cases hb; exact Yq N l c0 c1 c2 c3 c4 c5
 |5,5,h,_,_=>absurd rfl h
 |5,b+6,_,_,hb=>by simp at hb
 |a+6,_,_,ha,_=>by simp at ha
theorem Xl (N:Nat) (l:List Lk) (c0 c1 c2 c3:Cf):ay N l [c0,c1,c2,c3] 0 1 c0 c1:=⟨fun j r=>by kernel_rfl,fun j r=>by kernel_rfl,fun j r k v=>by kernel_rfl,fun j r=>⟨by kernel_rfl,by kernel_rfl,fun S=>by kernel_rfl,fun S=>by kernel_rfl,fun S=>by kernel_rfl⟩,fun j r=>⟨by kernel_rfl,by kernel_rfl,fun S=>by kernel_rfl,fun S=>by kernel_rfl,fun S=>by kernel_rfl⟩⟩
theorem Xm (N:Nat) (l:List Lk) (c0 c1 c2 c3:Cf):ay N l [c0,c1,c2,c3] 0 2 c0 c2:=⟨fun j r=>by kernel_rfl,fun j r=>by kernel_rfl,fun j r k v=>by kernel_rfl,fun j r=>⟨by kernel_rfl,by kernel_rfl,fun S=>by kernel_rfl,fun S=>by kernel_rfl,fun S=>by kernel_rfl⟩,fun j r=>⟨by kernel_rfl,by kernel_rfl,fun S=>by kernel_rfl,fun S=>by kernel_rfl,fun S=>by kernel_rfl⟩⟩
theorem Xn (N:Nat) (l:List Lk) (c0 c1 c2 c3:Cf):ay N l [c0,c1,c2,c3] 0 3 c0 c3:=⟨fun j r=>by kernel_rfl,fun j r=>by kernel_rfl,fun j r k v=>by kernel_rfl,fun j r=>⟨by kernel_rfl,by kernel_rfl,fun S=>by kernel_rfl,fun S=>by kernel_rfl,fun S=>by kernel_rfl⟩,fun j r=>⟨by kernel_rfl,by kernel_rfl,fun S=>by kernel_rfl,fun S=>by kernel_rfl,fun S=>by kernel_rfl⟩⟩
theorem Xo (N:Nat) (l:List Lk) (c0 c1 c2 c3:Cf):ay N l [c0,c1,c2,c3] 1 0 c1 c0:=⟨fun j r=>by kernel_rfl,fun j r=>by kernel_rfl,fun j r k v=>by kernel_rfl,fun j r=>⟨by kernel_rfl,by kernel_rfl,fun S=>by kernel_rfl,fun S=>by kernel_rfl,fun S=>by kernel_rfl⟩,fun j r=>⟨by kernel_rfl,by kernel_rfl,fun S=>by kernel_rfl,fun S=>by kernel_rfl,fun S=>by kernel_rfl⟩⟩
theorem Xp (N:Nat) (l:List Lk) (c0 c1 c2 c3:Cf):ay N l [c0,c1,c2,c3] 1 2 c1 c2:=⟨fun j r=>by kernel_rfl,fun j r=>by kernel_rfl,fun j r k v=>by kernel_rfl,fun j r=>⟨by kernel_rfl,by kernel_rfl,fun S=>by kernel_rfl,fun S=>by kernel_rfl,fun S=>by kernel_rfl⟩,fun j r=>⟨by kernel_rfl,by kernel_rfl,fun S=>by kernel_rfl,fun S=>by kernel_rfl,fun S=>by kernel_rfl⟩⟩
theorem Xq (N:Nat) (l:List Lk) (c0 c1 c2 c3:Cf):ay N l [c0,c1,c2,c3] 1 3 c1 c3:=⟨fun j r=>by kernel_rfl,fun j r=>by kernel_rfl,fun j r k v=>by kernel_rfl,fun j r=>⟨by kernel_rfl,by kernel_rfl,fun S=>by kernel_rfl,fun S=>by kernel_rfl,fun S=>by kernel_rfl⟩,fun j r=>⟨by kernel_rfl,by kernel_rfl,fun S=>by kernel_rfl,fun S=>by kernel_rfl,fun S=>by kernel_rfl⟩⟩
theorem Xr (N:Nat) (l:List Lk) (c0 c1 c2 c3:Cf):ay N l [c0,c1,c2,c3] 2 0 c2 c0:=⟨fun j r=>by kernel_rfl,fun j r=>by kernel_rfl,fun j r k v=>by kernel_rfl,fun j r=>⟨by kernel_rfl,by kernel_rfl,fun S=>by kernel_rfl,fun S=>by kernel_rfl,fun S=>by kernel_rfl⟩,fun j r=>⟨by kernel_rfl,by kernel_rfl,fun S=>by kernel_rfl,fun S=>by kernel_rfl,fun S=>by kernel_rfl⟩⟩
theorem Xt (N:Nat) (l:List Lk) (c0 c1 c2 c3:Cf):ay N l [c0,c1,c2,c3] 2 1 c2 c1:=⟨fun j r=>by kernel_rfl,fun j r=>by kernel_rfl,fun j r k v=>by kernel_rfl,fun j r=>⟨by kernel_rfl,by kernel_rfl,fun S=>by kernel_rfl,fun S=>by kernel_rfl,fun S=>by kernel_rfl⟩,fun j r=>⟨by kernel_rfl,by kernel_rfl,fun S=>by kernel_rfl,fun S=>by kernel_rfl,fun S=>by kernel_rfl⟩⟩
theorem Xu (N:Nat) (l:List Lk) (c0 c1 c2 c3:Cf):ay N l [c0,c1,c2,c3] 2 3 c2 c3:=⟨fun j r=>by kernel_rfl,fun j r=>by kernel_rfl,fun j r k v=>by kernel_rfl,fun j r=>⟨by kernel_rfl,by kernel_rfl,fun S=>by kernel_rfl,fun S=>by kernel_rfl,fun S=>by kernel_rfl⟩,fun j r=>⟨by kernel_rfl,by kernel_rfl,fun S=>by kernel_rfl,fun S=>by kernel_rfl,fun S=>by kernel_rfl⟩⟩
theorem Xv (N:Nat) (l:List Lk) (c0 c1 c2 c3:Cf):ay N l [c0,c1,c2,c3] 3 0 c3 c0:=⟨fun j r=>by kernel_rfl,fun j r=>by kernel_rfl,fun j r k v=>by kernel_rfl,fun j r=>⟨by kernel_rfl,by kernel_rfl,fun S=>by kernel_rfl,fun S=>by kernel_rfl,fun S=>by kernel_rfl⟩,fun j r=>⟨by kernel_rfl,by kernel_rfl,fun S=>by kernel_rfl,fun S=>by kernel_rfl,fun S=>by kernel_rfl⟩⟩
theorem Xw (N:Nat) (l:List Lk) (c0 c1 c2 c3:Cf):ay N l [c0,c1,c2,c3] 3 1 c3 c1:=⟨fun j r=>by kernel_rfl,fun j r=>by kernel_rfl,fun j r k v=>by kernel_rfl,fun j r=>⟨by kernel_rfl,by kernel_rfl,fun S=>by kernel_rfl,fun S=>by kernel_rfl,fun S=>by kernel_rfl⟩,fun j r=>⟨by kernel_rfl,by kernel_rfl,fun S=>by kernel_rfl,fun S=>by kernel_rfl,fun S=>by kernel_rfl⟩⟩
theorem Xx (N:Nat) (l:List Lk) (c0 c1 c2 c3:Cf):ay N l [c0,c1,c2,c3] 3 2 c3 c2:=⟨fun j r=>by kernel_rfl,fun j r=>by kernel_rfl,fun j r k v=>by kernel_rfl,fun j r=>⟨by kernel_rfl,by kernel_rfl,fun S=>by kernel_rfl,fun S=>by kernel_rfl,fun S=>by kernel_rfl⟩,fun j r=>⟨by kernel_rfl,by kernel_rfl,fun S=>by kernel_rfl,fun S=>by kernel_rfl,fun S=>by kernel_rfl⟩⟩
theorem lk4 {N:Nat} {l:List Lk} {c0 c1 c2 c3 ca cb:Cf}:∀ {a b:Nat},a≠b→ [c0,c1,c2,c3][a]? =some ca→ [c0,c1,c2,c3][b]? =some cb→ay N l [c0,c1,c2,c3] a b ca cb
 |0,0,h,_,_=>absurd rfl h
 |0,1,_,ha,hb=>by cases ha; cases hb; exact Xl N l c0 c1 c2 c3
 |0,2,_,ha,hb=>by cases ha; cases hb; exact Xm N l c0 c1 c2 c3
 |0,3,_,ha,hb=>by cases ha; cases hb; exact Xn N l c0 c1 c2 c3
 |0,b+4,_,_,hb=>by simp at hb
 |1,0,_,ha,hb=>by cases ha; cases hb; exact Xo N l c0 c1 c2 c3
 |1,1,h,_,_=>absurd rfl h
 |1,2,_,ha,hb=>by cases ha; cases hb; exact Xp N l c0 c1 c2 c3
 |1,3,_,ha,hb=>by cases ha; cases hb; exact Xq N l c0 c1 c2 c3
 |1,b+4,_,_,hb=>by simp at hb
 |2,0,_,ha,hb=>by cases ha; cases hb; exact Xr N l c0 c1 c2 c3
 |2,1,_,ha,hb=>by cases ha; cases hb; exact Xt N l c0 c1 c2 c3
 |2,2,h,_,_=>absurd rfl h
 |2,3,_,ha,hb=>by cases ha; cases hb; exact Xu N l c0 c1 c2 c3
 |2,b+4,_,_,hb=>by simp at hb
 |3,0,_,ha,hb=>by cases ha; cases hb; exact Xv N l c0 c1 c2 c3
 |3,1,_,ha,hb=>by cases ha; cases hb; exact Xw N l c0 c1 c2 c3
 |3,2,_,ha,hb=>by cases ha; cases hb; exact Xx N l c0 c1 c2 c3
 |3,3,h,_,_=>absurd rfl h
 |3,b+4,_,_,hb=>by simp at hb
 |a+4,_,_,ha,_=>by simp at ha
end
section
open Go.RowKit Go.Proofs
variable [Lv]
theorem Xy (N:Nat) (l:List Lk) (c0 c1 c2 c3 c4:Cf):ay N l [c0,c1,c2,c3,c4] 0 1 c0 c1:=⟨fun j r=>by kernel_rfl,fun j r=>by kernel_rfl,fun j r k v=>by kernel_rfl,fun j r=>⟨by kernel_rfl,by kernel_rfl,fun S=>by kernel_rfl,fun S=>by kernel_rfl,fun S=>by kernel_rfl⟩,fun j r=>⟨by kernel_rfl,by kernel_rfl,fun S=>by kernel_rfl,fun S=>by kernel_rfl,fun S=>by kernel_rfl⟩⟩
theorem Xz (N:Nat) (l:List Lk) (c0 c1 c2 c3 c4:Cf):ay N l [c0,c1,c2,c3,c4] 0 2 c0 c2:=⟨fun j r=>by kernel_rfl,fun j r=>by kernel_rfl,fun j r k v=>by kernel_rfl,fun j r=>⟨by kernel_rfl,by kernel_rfl,fun S=>by kernel_rfl,fun S=>by kernel_rfl,fun S=>by kernel_rfl⟩,fun j r=>⟨by kernel_rfl,by kernel_rfl,fun S=>by kernel_rfl,fun S=>by kernel_rfl,fun S=>by kernel_rfl⟩⟩
theorem XA (N:Nat) (l:List Lk) (c0 c1 c2 c3 c4:Cf):ay N l [c0,c1,c2,c3,c4] 0 3 c0 c3:=⟨fun j r=>by kernel_rfl,fun j r=>by kernel_rfl,fun j r k v=>by kernel_rfl,fun j r=>⟨by kernel_rfl,by kernel_rfl,fun S=>by kernel_rfl,fun S=>by kernel_rfl,fun S=>by kernel_rfl⟩,fun j r=>⟨by kernel_rfl,by kernel_rfl,fun S=>by kernel_rfl,fun S=>by kernel_rfl,fun S=>by kernel_rfl⟩⟩
theorem XB (N:Nat) (l:List Lk) (c0 c1 c2 c3 c4:Cf):ay N l [c0,c1,c2,c3,c4] 0 4 c0 c4:=⟨fun j r=>by kernel_rfl,fun j r=>by kernel_rfl,fun j r k v=>by kernel_rfl,fun j r=>⟨by kernel_rfl,by kernel_rfl,fun S=>by kernel_rfl,fun S=>by kernel_rfl,fun S=>by kernel_rfl⟩,fun j r=>⟨by kernel_rfl,by kernel_rfl,fun S=>by kernel_rfl,fun S=>by kernel_rfl,fun S=>by kernel_rfl⟩⟩
theorem XC (N:Nat) (l:List Lk) (c0 c1 c2 c3 c4:Cf):ay N l [c0,c1,c2,c3,c4] 1 0 c1 c0:=⟨fun j r=>by kernel_rfl,fun j r=>by kernel_rfl,fun j r k v=>by kernel_rfl,fun j r=>⟨by kernel_rfl,by kernel_rfl,fun S=>by kernel_rfl,fun S=>by kernel_rfl,fun S=>by kernel_rfl⟩,fun j r=>⟨by kernel_rfl,by kernel_rfl,fun S=>by kernel_rfl,fun S=>by kernel_rfl,fun S=>by kernel_rfl⟩⟩
theorem XD (N:Nat) (l:List Lk) (c0 c1 c2 c3 c4:Cf):ay N l [c0,c1,c2,c3,c4] 1 2 c1 c2:=⟨fun j r=>by kernel_rfl,fun j r=>by kernel_rfl,fun j r k v=>by kernel_rfl,fun j r=>⟨by kernel_rfl,by kernel_rfl,fun S=>by kernel_rfl,fun S=>by kernel_rfl,fun S=>by kernel_rfl⟩,fun j r=>⟨by kernel_rfl,by kernel_rfl,fun S=>by kernel_rfl,fun S=>by kernel_rfl,fun S=>by kernel_rfl⟩⟩
theorem XE (N:Nat) (l:List Lk) (c0 c1 c2 c3 c4:Cf):ay N l [c0,c1,c2,c3,c4] 1 3 c1 c3:=⟨fun j r=>by kernel_rfl,fun j r=>by kernel_rfl,fun j r k v=>by kernel_rfl,fun j r=>⟨by kernel_rfl,by kernel_rfl,fun S=>by kernel_rfl,fun S=>by kernel_rfl,fun S=>by kernel_rfl⟩,fun j r=>⟨by kernel_rfl,by kernel_rfl,fun S=>by kernel_rfl,fun S=>by kernel_rfl,fun S=>by kernel_rfl⟩⟩
theorem XF (N:Nat) (l:List Lk) (c0 c1 c2 c3 c4:Cf):ay N l [c0,c1,c2,c3,c4] 1 4 c1 c4:=⟨fun j r=>by kernel_rfl,fun j r=>by kernel_rfl,fun j r k v=>by kernel_rfl,fun j r=>⟨by kernel_rfl,by kernel_rfl,fun S=>by kernel_rfl,fun S=>by kernel_rfl,fun S=>by kernel_rfl⟩,fun j r=>⟨by kernel_rfl,by kernel_rfl,fun S=>by kernel_rfl,fun S=>by kernel_rfl,fun S=>by kernel_rfl⟩⟩
theorem XG (N:Nat) (l:List Lk) (c0 c1 c2 c3 c4:Cf):ay N l [c0,c1,c2,c3,c4] 2 0 c2 c0:=⟨fun j r=>by kernel_rfl,fun j r=>by kernel_rfl,fun j r k v=>by kernel_rfl,fun j r=>⟨by kernel_rfl,by kernel_rfl,fun S=>by kernel_rfl,fun S=>by kernel_rfl,fun S=>by kernel_rfl⟩,fun j r=>⟨by kernel_rfl,by kernel_rfl,fun S=>by kernel_rfl,fun S=>by kernel_rfl,fun S=>by kernel_rfl⟩⟩
theorem XH (N:Nat) (l:List Lk) (c0 c1 c2 c3 c4:Cf):ay N l [c0,c1,c2,c3,c4] 2 1 c2 c1:=⟨fun j r=>by kernel_rfl,fun j r=>by kernel_rfl,fun j r k v=>by kernel_rfl,fun j r=>⟨by kernel_rfl,by kernel_rfl,fun S=>by kernel_rfl,fun S=>by kernel_rfl,fun S=>by kernel_rfl⟩,fun j r=>⟨by kernel_rfl,by kernel_rfl,fun S=>by kernel_rfl,fun S=>by kernel_rfl,fun S=>by kernel_rfl⟩⟩
theorem XI (N:Nat) (l:List Lk) (c0 c1 c2 c3 c4:Cf):ay N l [c0,c1,c2,c3,c4] 2 3 c2 c3:=⟨fun j r=>by kernel_rfl,fun j r=>by kernel_rfl,fun j r k v=>by kernel_rfl,fun j r=>⟨by kernel_rfl,by kernel_rfl,fun S=>by kernel_rfl,fun S=>by kernel_rfl,fun S=>by kernel_rfl⟩,fun j r=>⟨by kernel_rfl,by kernel_rfl,fun S=>by kernel_rfl,fun S=>by kernel_rfl,fun S=>by kernel_rfl⟩⟩
theorem XJ (N:Nat) (l:List Lk) (c0 c1 c2 c3 c4:Cf):ay N l [c0,c1,c2,c3,c4] 2 4 c2 c4:=⟨fun j r=>by kernel_rfl,fun j r=>by kernel_rfl,fun j r k v=>by kernel_rfl,fun j r=>⟨by kernel_rfl,by kernel_rfl,fun S=>by kernel_rfl,fun S=>by kernel_rfl,fun S=>by kernel_rfl⟩,fun j r=>⟨by kernel_rfl,by kernel_rfl,fun S=>by kernel_rfl,fun S=>by kernel_rfl,fun S=>by kernel_rfl⟩⟩
theorem XK (N:Nat) (l:List Lk) (c0 c1 c2 c3 c4:Cf):ay N l [c0,c1,c2,c3,c4] 3 0 c3 c0:=⟨fun j r=>by kernel_rfl,fun j r=>by kernel_rfl,fun j r k v=>by kernel_rfl,fun j r=>⟨by kernel_rfl,by kernel_rfl,fun S=>by kernel_rfl,fun S=>by kernel_rfl,fun S=>by kernel_rfl⟩,fun j r=>⟨by kernel_rfl,by kernel_rfl,fun S=>by kernel_rfl,fun S=>by kernel_rfl,fun S=>by kernel_rfl⟩⟩
theorem XL (N:Nat) (l:List Lk) (c0 c1 c2 c3 c4:Cf):ay N l [c0,c1,c2,c3,c4] 3 1 c3 c1:=⟨fun j r=>by kernel_rfl,fun j r=>by kernel_rfl,fun j r k v=>by kernel_rfl,fun j r=>⟨by kernel_rfl,by kernel_rfl,fun S=>by kernel_rfl,fun S=>by kernel_rfl,fun S=>by kernel_rfl⟩,fun j r=>⟨by kernel_rfl,by kernel_rfl,fun S=>by kernel_rfl,fun S=>by kernel_rfl,fun S=>by kernel_rfl⟩⟩
theorem XM (N:Nat) (l:List Lk) (c0 c1 c2 c3 c4:Cf):ay N l [c0,c1,c2,c3,c4] 3 2 c3 c2:=⟨fun j r=>by kernel_rfl,fun j r=>by kernel_rfl,fun j r k v=>by kernel_rfl,fun j r=>⟨by kernel_rfl,by kernel_rfl,fun S=>by kernel_rfl,fun S=>by kernel_rfl,fun S=>by kernel_rfl⟩,fun j r=>⟨by kernel_rfl,by kernel_rfl,fun S=>by kernel_rfl,fun S=>by kernel_rfl,fun S=>by kernel_rfl⟩⟩
theorem XO (N:Nat) (l:List Lk) (c0 c1 c2 c3 c4:Cf):ay N l [c0,c1,c2,c3,c4] 3 4 c3 c4:=⟨fun j r=>by kernel_rfl,fun j r=>by kernel_rfl,fun j r k v=>by kernel_rfl,fun j r=>⟨by kernel_rfl,by kernel_rfl,fun S=>by kernel_rfl,fun S=>by kernel_rfl,fun S=>by kernel_rfl⟩,fun j r=>⟨by kernel_rfl,by kernel_rfl,fun S=>by kernel_rfl,fun S=>by kernel_rfl,fun S=>by kernel_rfl⟩⟩
theorem XP (N:Nat) (l:List Lk) (c0 c1 c2 c3 c4:Cf):ay N l [c0,c1,c2,c3,c4] 4 0 c4 c0:=⟨fun j r=>by kernel_rfl,fun j r=>by kernel_rfl,fun j r k v=>by kernel_rfl,fun j r=>⟨by kernel_rfl,by kernel_rfl,fun S=>by kernel_rfl,fun S=>by kernel_rfl,fun S=>by kernel_rfl⟩,fun j r=>⟨by kernel_rfl,by kernel_rfl,fun S=>by kernel_rfl,fun S=>by kernel_rfl,fun S=>by kernel_rfl⟩⟩
theorem XQ (N:Nat) (l:List Lk) (c0 c1 c2 c3 c4:Cf):ay N l [c0,c1,c2,c3,c4] 4 1 c4 c1:=⟨fun j r=>by kernel_rfl,fun j r=>by kernel_rfl,fun j r k v=>by kernel_rfl,fun j r=>⟨by kernel_rfl,by kernel_rfl,fun S=>by kernel_rfl,fun S=>by kernel_rfl,fun S=>by kernel_rfl⟩,fun j r=>⟨by kernel_rfl,by kernel_rfl,fun S=>by kernel_rfl,fun S=>by kernel_rfl,fun S=>by kernel_rfl⟩⟩
theorem XR (N:Nat) (l:List Lk) (c0 c1 c2 c3 c4:Cf):ay N l [c0,c1,c2,c3,c4] 4 2 c4 c2:=⟨fun j r=>by kernel_rfl,fun j r=>by kernel_rfl,fun j r k v=>by kernel_rfl,fun j r=>⟨by kernel_rfl,by kernel_rfl,fun S=>by kernel_rfl,fun S=>by kernel_rfl,fun S=>by kernel_rfl⟩,fun j r=>⟨by kernel_rfl,by kernel_rfl,fun S=>by kernel_rfl,fun S=>by kernel_rfl,fun S=>by kernel_rfl⟩⟩
theorem XT (N:Nat) (l:List Lk) (c0 c1 c2 c3 c4:Cf):ay N l [c0,c1,c2,c3,c4] 4 3 c4 c3:=⟨fun j r=>by kernel_rfl,fun j r=>by kernel_rfl,fun j r k v=>by kernel_rfl,fun j r=>⟨by kernel_rfl,by kernel_rfl,fun S=>by kernel_rfl,fun S=>by kernel_rfl,fun S=>by kernel_rfl⟩,fun j r=>⟨by kernel_rfl,by kernel_rfl,fun S=>by kernel_rfl,fun S=>by kernel_rfl,fun S=>by kernel_rfl⟩⟩
theorem lk5 {N:Nat} {l:List Lk} {c0 c1 c2 c3 c4 ca cb:Cf}:∀ {a b:Nat},a≠b→ [c0,c1,c2,c3,c4][a]? =some ca→ [c0,c1,c2,c3,c4][b]? =some cb→ay N l [c0,c1,c2,c3,c4] a b ca cb
 |0,0,h,_,_=>absurd rfl h
 |0,1,_,ha,hb=>by cases ha; cases hb; exact Xy N l c0 c1 c2 c3 c4
 |0,2,_,ha,hb=>by cases ha; cases hb; exact Xz N l c0 c1 c2 c3 c4
 |0,3,_,ha,hb=>by cases ha; cases hb; exact XA N l c0 c1 c2 c3 c4
 |0,4,_,ha,hb=>by cases ha; cases hb; exact XB N l c0 c1 c2 c3 c4
 |0,b+5,_,_,hb=>by simp at hb
 |1,0,_,ha,hb=>by cases ha; cases hb; exact XC N l c0 c1 c2 c3 c4
 |1,1,h,_,_=>absurd rfl h
 |1,2,_,ha,hb=>by cases ha; cases hb; exact XD N l c0 c1 c2 c3 c4
 |1,3,_,ha,hb=>by cases ha; cases hb; exact XE N l c0 c1 c2 c3 c4
 |1,4,_,ha,hb=>by cases ha; cases hb; exact XF N l c0 c1 c2 c3 c4
 |1,b+5,_,_,hb=>by simp at hb
 |2,0,_,ha,hb=>by cases ha; cases hb; exact XG N l c0 c1 c2 c3 c4
 |2,1,_,ha,hb=>by cases ha; cases hb; exact XH N l c0 c1 c2 c3 c4
 |2,2,h,_,_=>absurd rfl h
 |2,3,_,ha,hb=>by cases ha; cases hb; exact XI N l c0 c1 c2 c3 c4
 |2,4,_,ha,hb=>by cases ha; cases hb; exact XJ N l c0 c1 c2 c3 c4
 |2,b+5,_,_,hb=>by simp at hb
 |3,0,_,ha,hb=>by cases ha; cases hb; exact XK N l c0 c1 c2 c3 c4
 |3,1,_,ha,hb=>by cases ha; cases hb; exact XL N l c0 c1 c2 c3 c4
 |3,2,_,ha,hb=>by cases ha; cases hb; exact XM N l c0 c1 c2 c3 c4
 |3,3,h,_,_=>absurd rfl h
 |3,4,_,ha,hb=>by cases ha; cases hb; exact XO N l c0 c1 c2 c3 c4
 |3,b+5,_,_,hb=>by simp at hb
 |4,0,_,ha,hb=>by cases ha; cases hb; exact XP N l c0 c1 c2 c3 c4
 |4,1,_,ha,hb=>by cases ha; cases hb; exact XQ N l c0 c1 c2 c3 c4
 |4,2,_,ha,hb=>by cases ha; cases hb; exact XR N l c0 c1 c2 c3 c4
 |4,3,_,ha,hb=>by cases ha; cases hb; exact XT N l c0 c1 c2 c3 c4
 |4,4,h,_,_=>absurd rfl h
 |4,b+5,_,_,hb=>by simp at hb
 |a+5,_,_,ha,_=>by simp at ha
theorem Xf (N:Nat) (l:List Lk) (c0 c1 c2:Cf):ay N l [c0,c1,c2] 0 1 c0 c1:=⟨fun j r=>by kernel_rfl,fun j r=>by kernel_rfl,fun j r k v=>by kernel_rfl,fun j r=>⟨by kernel_rfl,by kernel_rfl,fun S=>by kernel_rfl,fun S=>by kernel_rfl,fun S=>by kernel_rfl⟩,fun j r=>⟨by kernel_rfl,by kernel_rfl,fun S=>by kernel_rfl,fun S=>by kernel_rfl,fun S=>by kernel_rfl⟩⟩
theorem Xg (N:Nat) (l:List Lk) (c0 c1 c2:Cf):ay N l [c0,c1,c2] 0 2 c0 c2:=⟨fun j r=>by kernel_rfl,fun j r=>by kernel_rfl,fun j r k v=>by kernel_rfl,fun j r=>⟨by kernel_rfl,by kernel_rfl,fun S=>by kernel_rfl,fun S=>by kernel_rfl,fun S=>by kernel_rfl⟩,fun j r=>⟨by kernel_rfl,by kernel_rfl,fun S=>by kernel_rfl,fun S=>by kernel_rfl,fun S=>by kernel_rfl⟩⟩
theorem Xh (N:Nat) (l:List Lk) (c0 c1 c2:Cf):ay N l [c0,c1,c2] 1 0 c1 c0:=⟨fun j r=>by kernel_rfl,fun j r=>by kernel_rfl,fun j r k v=>by kernel_rfl,fun j r=>⟨by kernel_rfl,by kernel_rfl,fun S=>by kernel_rfl,fun S=>by kernel_rfl,fun S=>by kernel_rfl⟩,fun j r=>⟨by kernel_rfl,by kernel_rfl,fun S=>by kernel_rfl,fun S=>by kernel_rfl,fun S=>by kernel_rfl⟩⟩
theorem Xi (N:Nat) (l:List Lk) (c0 c1 c2:Cf):ay N l [c0,c1,c2] 1 2 c1 c2:=⟨fun j r=>by kernel_rfl,fun j r=>by kernel_rfl,fun j r k v=>by kernel_rfl,fun j r=>⟨by kernel_rfl,by kernel_rfl,fun S=>by kernel_rfl,fun S=>by kernel_rfl,fun S=>by kernel_rfl⟩,fun j r=>⟨by kernel_rfl,by kernel_rfl,fun S=>by kernel_rfl,fun S=>by kernel_rfl,fun S=>by kernel_rfl⟩⟩
theorem Xj (N:Nat) (l:List Lk) (c0 c1 c2:Cf):ay N l [c0,c1,c2] 2 0 c2 c0:=⟨fun j r=>by kernel_rfl,fun j r=>by kernel_rfl,fun j r k v=>by kernel_rfl,fun j r=>⟨by kernel_rfl,by kernel_rfl,fun S=>by kernel_rfl,fun S=>by kernel_rfl,fun S=>by kernel_rfl⟩,fun j r=>⟨by kernel_rfl,by kernel_rfl,fun S=>by kernel_rfl,fun S=>by kernel_rfl,fun S=>by kernel_rfl⟩⟩
theorem Xk (N:Nat) (l:List Lk) (c0 c1 c2:Cf):ay N l [c0,c1,c2] 2 1 c2 c1:=⟨fun j r=>by kernel_rfl,fun j r=>by kernel_rfl,fun j r k v=>by kernel_rfl,fun j r=>⟨by kernel_rfl,by kernel_rfl,fun S=>by kernel_rfl,fun S=>by kernel_rfl,fun S=>by kernel_rfl⟩,fun j r=>⟨by kernel_rfl,by kernel_rfl,fun S=>by kernel_rfl,fun S=>by kernel_rfl,fun S=>by kernel_rfl⟩⟩
theorem lk3 {N:Nat} {l:List Lk} {c0 c1 c2 ca cb:Cf}:∀ {a b:Nat},a≠b→ [c0,c1,c2][a]? =some ca→ [c0,c1,c2][b]? =some cb→ay N l [c0,c1,c2] a b ca cb
 |0,0,h,_,_=>absurd rfl h
 |0,1,_,ha,hb=>by cases ha; cases hb; exact Xf N l c0 c1 c2
 |0,2,_,ha,hb=>by cases ha; cases hb; exact Xg N l c0 c1 c2
 |0,b+3,_,_,hb=>by simp at hb
 |1,0,_,ha,hb=>by cases ha; cases hb; exact Xh N l c0 c1 c2
 |1,1,h,_,_=>absurd rfl h
 |1,2,_,ha,hb=>by cases ha; cases hb; exact Xi N l c0 c1 c2
 |1,b+3,_,_,hb=>by simp at hb
 |2,0,_,ha,hb=>by cases ha; cases hb; exact Xj N l c0 c1 c2
 |2,1,_,ha,hb=>by cases ha; cases hb; exact Xk N l c0 c1 c2
 |2,2,h,_,_=>absurd rfl h
 |2,b+3,_,_,hb=>by simp at hb
 |a+3,_,_,ha,_=>by simp at ha
end
section
open Go.RowKit Go.Proofs
theorem GX:∀ {t:List Cf} {a b:Nat} {c c':Cf},t[a]? =some c→c'.a=c.a→c'.d=c.d→c'.h=c.h→c'.k=c.k→c'.w=c.w→wR b (t.set a c')=wR b t
 | [],a,b,c,c',h,_,_,_,_,_=>by simp at h
 |x::t,0,b,c,c',h,h1,h2,h3,h4,h5=>by
  simp only[List.getElem?_cons_zero,Option.some.injEq] at h
  subst h
  simp only[List.set_cons_zero,wR,h1,h2,h3,h4,h5]
 |x::t,a+1,b,c,c',h,h1,h2,h3,h4,h5=>by
  simp only[List.set_cons_succ,wR]
  rw[GX (a:=a) (by simpa using h) h1 h2 h3 h4 h5]
theorem KQ:∀ (t:List Cf) (a:Nat) (c':Cf),CO (t.set a c')=(CO t).set a (.row 48 4 (c'.s.map Sd.t))
 | [],_,_=>rfl
 |x::t,0,c'=>rfl
 |x::t,a+1,c'=>by simp only[List.set_cons_succ,CO]; rw[KQ t a c']
theorem KP:∀ t:List Cf,(CO t).length=t.length
 | []=>rfl
 |x::t=>by simp only[CO,List.length_cons,KP t]
theorem J5 {t:List Cf} {a m:Nat} {c:Cf} {S:Sd} {H:List au} (h:t[a]? =some c):(aP m t H).set (2+a) (.row 48 4 (c.s.map Sd.t++ [S.t]))=aP m (t.set a (jq c S)) H:=by
 have hl:=(List.getElem?_eq_some_iff.1 h).1
 unfold aP
 rw[show 2+a=a+1+1 by omega,List.set_cons_succ,List.set_cons_succ,List.set_append_left _ _ (by rw[KP]; exact hl),KQ,List.length_set,GX (c':=jq c S) h rfl rfl rfl rfl rfl]
 simp[jq]
variable [Lv]
theorem agw (N:Nat) (a:Int):aB env (N+6) 43 [i64 a,i64 1]=W [i64 a,i64 1] (.ok (dD a 1).t):=by kernel_rfl
theorem agx (N:Nat) (a:Int):aB env (N+6) 43 [i64 a,i64 2]=W [i64 a,i64 2] (.ok (dD a 2).t):=by kernel_rfl
theorem agy (N:Nat) (a:Int):aB env (N+6) 43 [i64 a,i64 3]=W [i64 a,i64 3] (.ok (dD a 3).t):=by kernel_rfl
theorem Uf {M:Nat} {a r:Int} (hM:6≤M) (ha:aS a=true) (h1:1≤r) (h3:r≤3):aB env M 43 [i64 a,i64 r]= .ok (dD a r).t:=by
 obtain⟨m,rfl⟩:∃ m,M=m+6:=⟨M - 6,by omega⟩
 have hr:r=1∨r=2∨r=3:=by omega
 rcases hr with rfl|rfl|rfl
 · rw[agw,dA (iY (bC ha) rfl)]
 · rw[agx,dA (iY (bC ha) rfl)]
 · rw[agy,dA (iY (bC ha) rfl)]
theorem P5 (N:Nat) (l:List Lk) (t:List Cf) (j:Nat):bF env N 21 [6] 0 2 (UE l t j)=bif decide ((j:Int) < (((l.map Lk.t).length:Nat):Int)) then .ok (.norm,uY l t j (decide ((j:Int) < (((l.map Lk.t).length:Nat):Int)))) else .ok (.exit 2,uY l t j (decide ((j:Int) < (((l.map Lk.t).length:Nat):Int)))):=by kernel_rfl
noncomputable def aea:Array Oper:=gI env 21 [6] 3
def sGz (l:List Lk) (t:List Cf) (j:Int) (x:T):St:=⟨slots 153 (rC l j),aP t.length t [.box 40 3 (.t x)]⟩
theorem WW (N:Nat) (l:List Lk) (j:Int) (p:Nat) (H:List au) (d:Nat→PV):(aQ env (aJ env N) aea (aea.toList.map fun o=>(o,false)) ⟨uQ 153 d ((11,.ptr p 0)::rC l j),H⟩ fun s=>(.ok s:aj St)).bind (fun s=>(.ok ⟨bZ [7,9,55,56,57] s.tmps,id s.heap⟩:aj St))= .ok ⟨slots 153 (rC l (IntKind.i64.wrap (j+1))),H⟩:=by kernel_rfl
theorem WY (l:List Lk) (j:Int) (p:Nat) (d:Nat→PV):bZ [7,9,11,55,56,57] (uQ 153 d ((11,.ptr p 0)::rC l j))=slots 153 ((11,.ptr p 0)::rC l j):=by kernel_rfl
theorem U0 (l:List Lk) (j:Int) (p:Nat) (v:Bool):bZ [7,9,11,55,56,57] (slots 153 ((11,.ptr p 0)::(13,.t (.bool v))::(105,.t (.bool v))::rC l j))=slots 153 ((11,.ptr p 0)::rC l j):=by kernel_rfl
theorem WZ (N:Nat) (l:List Lk) (t:List Cf) (j:Int) (a b:Nat) (r:Int):bF env N 21 [6,2] 4 2 (WB l t j a b r true)= .ok (.exit 3,sGe l t j a b r true):=by kernel_rfl
theorem WX (N:Nat) (l:List Lk) (t:List Cf) (j:Int) (a b:Nat) (r:Int):bF env N 21 [6,2] 4 2 (WB l t j a b r false)= .ok (.norm,sGe l t j a b r false):=by kernel_rfl
theorem agB (l:List Lk) (j:Int) (p:Nat) (H:List au):(⟨slots 153 ((11,.ptr p 0)::rC l j),H⟩:St)=⟨uQ 153 (fun _=> .junk) ((11,.ptr p 0)::rC l j),H⟩:=by kernel_rfl
theorem agC (l:List Lk) (j:Int) (p:Nat) (v:Bool) (H:List au):(⟨slots 153 ((11,.ptr p 0)::(13,.t (.bool v))::(105,.t (.bool v))::rC l j),H⟩:St)=⟨uQ 153 (NK [(13,.t (.bool v)),(105,.t (.bool v))]) ((11,.ptr p 0)::rC l j),H⟩:=by kernel_rfl
theorem Uw {N:Nat} {l:List Lk} {t:List Cf} {a b:Nat} {ca cb:Cf} (h0:t≠ []) (h8:t.length≤8) (hab:a≠b) (ha:t[a]? =some ca) (hb:t[b]? =some cb):ay N l t a b ca cb:=
 CS (P:=fun t=>t[a]? =some ca→t[b]? =some cb→ay N l t a b ca cb) (fun _=>lk1 hab) (fun _ _=>lk2 hab) (fun _ _ _=>lk3 hab) (fun _ _ _ _=>lk4 hab) (fun _ _ _ _ _=>lk5 hab) (fun _ _ _ _ _ _=>lk6 hab) (fun _ _ _ _ _ _ _=>lk7 hab) (fun _ _ _ _ _ _ _ _=>lk8 hab) t h0 h8 ha hb
theorem ab3 {l:List Lk} {t:List Cf} {j:Int} {x:T} (h0:t≠ []) (h8:t.length≤8):canon 0 (eu env 21 [] 6).1 (sGz l t j x)=UE l t j:=
 CS (P:=fun t=>canon 0 (eu env 21 [] 6).1 (sGz l t j x)=UE l t j) (fun _=>by kernel_rfl) (fun _ _=>by kernel_rfl) (fun _ _ _=>by kernel_rfl) (fun _ _ _ _=>by kernel_rfl) (fun _ _ _ _ _=>by kernel_rfl) (fun _ _ _ _ _ _=>by kernel_rfl) (fun _ _ _ _ _ _ _=>by kernel_rfl) (fun _ _ _ _ _ _ _ _=>by kernel_rfl) t h0 h8
theorem JJ {N i n d dd ra:Nat} {s:St} {xs:List T} {p w:Int} {S:Sd} (h:Tm N i n d dd ra s xs p w) (hc:aB env N 43 [i64 p,i64 w]= .ok S.t) (hx:(xs.length+1)*64≤big)
 (hl:((bG (rD i)).drop (n+3)).take 3=(bG (rD i)).drop (n+3)):∃ sf,nO env (aJ env N) (rD i) s.heap.length (bG (rD i)) s sf∧bZ [7,9,11,55,56,57] sf.tmps=s.tmps∧sf.heap=s.heap.set ra (.row 48 4 (xs++ [S.t])):=by
 have hn:=dY env N
 have h2:=h.a2
 rw[hc] at h2
 have h4:=h.a4 S
 rw[decide_eq_true (show(xs.length+1)*64≤140737488355328 by have:=bH; omega),bD] at h4
 obtain⟨sf,h5,h6⟩:=aY (h.a5 S)
 simp only[aj.ok.injEq,St.mk.injEq] at h6
 have h1:=h.a1
 have h3:=h.a3 S
 unfold Ac at h1 h2 h3 h4 h5
 generalize hL:bG (rD i)=L at h1 h2 h3 h4 h5 hl ⊢
 have r1:=pW hn h1
 have r2:=pW hn h2
 have r3:=pW hn h3
 have r4:=pW hn h4
 have r5:=pW hn h5
 rw[hl] at r5
 have cut:∀ (k m:Nat) {s1 s2 s3:St},nO env (aJ env N) (rD i) s.heap.length ((L.drop k).take m) s1 s2→nO env (aJ env N) (rD i) s.heap.length (L.drop (k+m)) s2 s3→nO env (aJ env N) (rD i) s.heap.length (L.drop k) s1 s3:=fun k m s1 s2 s3 a b=>Rq _ a (by rw[List.drop_drop]; exact b)
 have c4:=cut (n+2) 1 r4 r5
 have c3:=cut (n+1) 1 r3 c4
 have c2:=cut n 1 r2 c3
 have c1:=cut 0 n r1 (by rw[Nat.zero_add]; exact c2)
 rw[List.drop_zero] at c1
 exact⟨sf,c1,h6.1,h6.2⟩
end
section
open Go.RowKit Go.Proofs
variable [Lv]
theorem yC {E:Env} {n:Nat} {f:FuncId} {p:List Nat} (he:lF E) {i:Nat} {st st':St} {Q:Ex→St→Prop} {R:St→Prop} (hp:∃ id ops,(aG E f p)[i]? =some (.region id ops true)∧gX E (.region id ops true) st' R) (ht:dR st st') (hR:∀ s,R s→∃ s2,dR s s2∧ah E n f p (i+1) s2 Q):ah E n f p i st Q:=by
 obtain⟨id,ops,h1,h2⟩:=hp
 exact Ba h1 ⟨_,_,_,rfl⟩ (gX.pre ht (gX.turn h2 hR))
theorem ahG:∃ id,(aG env 21 [6,2])[3]? =some (.region id (rD 3) true):=⟨aW ((aG env 21 [6,2]).getD 3 .skip),by kernel_rfl⟩
theorem ahH:∃ id,(aG env 21 [6,2])[6]? =some (.region id (rD 6) true):=⟨aW ((aG env 21 [6,2]).getD 6 .skip),by kernel_rfl⟩
theorem ahI:∃ id,(aG env 21 [6,2])[7]? =some (.region id (rD 7) true):=⟨aW ((aG env 21 [6,2]).getD 7 .skip),by kernel_rfl⟩
theorem ahv:((bG (rD 3)).drop 12).take 9=(bG (rD 3)).drop 12:=by kernel_rfl
theorem ahw:((bG (rD 6)).drop (17+3)).take 3=(bG (rD 6)).drop (17+3):=by kernel_rfl
theorem ahx:((bG (rD 7)).drop (18+3)).take 3=(bG (rD 7)).drop (18+3):=by kernel_rfl
theorem ok3:pz (rD 3)=true:=by kernel_rfl
theorem ok6:sU (rD 6)=true:=by kernel_rfl
theorem ok7:sU (rD 7)=true:=by kernel_rfl
theorem VA {N:Nat} {l:List Lk} {t:List Cf} {a b:Nat} {ca cb:Cf} {j r k:Int} {v:Bool} (h:ay N l t a b ca cb) (hc:aB env N 29 [ca.t,i64 cb.a]= .ok (.ak [i64 k,.bool v])):
 ∃ sf,aQ env (aJ env N) (rD 3) (bG (rD 3)) (F9 l t j a b r) (fun s=>(.ok s:aj St))= .ok sf∧bZ [7,9,11,13,55,56,57] sf.tmps=(WB l t j a b r v).tmps∧sf.heap=(WB l t j a b r v).heap:=by
 have hn:=dY env N
 have h1:=h.r1 j r
 have h2:=h.r2 j r
 rw[hc] at h2
 have h2:N8 N 3 11 1 (s14 N l t j a b r)= .ok (aef N l t j a b r k v):=h2
 obtain⟨sf,h3,h4⟩:=aY (h.r3 j r k v)
 simp only[aj.ok.injEq] at h4
 unfold N8 at h1 h2 h3
 rw[ahv] at h3
 have c2:=KG (l:=(bG (rD 3)).drop 11) hn 1 h2 (by rw[List.drop_drop]; exact h3)
 have c1:=KG (l:=bG (rD 3)) hn 11 (by rw[List.drop_zero] at h1; exact h1) c2
 exact⟨sf,c1,by have:=congrArg St.tmps h4; exact this,by have:=congrArg St.heap h4; exact this⟩
omit [Lv] in
theorem qQ {A C:Prop} {B:Nat→Prop} {j:Nat} (h:B j):Ex.kP (.exit j) A B C:=h
theorem U1 {N:Nat} (he:lF env) (hN:big+30≤N) {l:List Lk} {t:List Cf} {j:Nat} {x:Lk} {Q:Ex→St→Prop} (h0:t≠ []) (h8:t.length≤8) (hl:l.length≤big) (hx:l[j]? =some x) (hxo:x.ok) (ht:∀ c∈t,c.ok∧(c.s.length+1)*64≤big)
 (hQ:∀ s,canon 0 (eu env 21 [] 6).1 s=UE l (pR t x) ((j+1:Nat):Int)→Q .norm s):ah env N 21 [6] 0 (UE l t j) Q:=by
 have hbg:=bH
 have hj:=(List.getElem?_eq_some_iff.1 hx).1
 obtain⟨n1,rfl⟩:∃ n1,N=n1+1:=⟨N - 1,by omega⟩
 have h1:=P5 (n1+1) l t j
 rw[decide_eq_true (show(j:Int) < (((l.map Lk.t).length:Nat):Int) by rw[List.length_map]; omega)] at h1
 refine eP (e:= .norm) 2 h1 ?_
 refine mX (p:=[6]) (i:=2) (id:=3) (c:=gK ((aG env 21 [6]).getD 2 .skip)) (by kernel_rfl) (by kernel_rfl) ?_
 show ah env (n1+1) 21 [6,2] 0 _ _
 have hB:=ahr (N:=n1) (t:=t) h0 h8 (b:=true) hx
 have hw:=wrap_succ (show j≤big by omega)
 have behind:∀ (t':List Cf) (p:Nat) (y:T) (d:Nat→PV),t'≠ []→t'.length≤8→pR t x=t'→ah env (n1+1) 21 [6] 3 ⟨uQ 153 d ((11,.ptr p 0)::rC l j),aP t'.length t' [.box 40 3 (.t y)]⟩ Q:=fun t' p y d g0 g8 e=>by
  have h3:=WW (n1+1) l j p (aP t'.length t' [.box 40 3 (.t y)]) d
  rw[hw] at h3
  refine nZ (i:=3) (g:=id) he (by kernel_rfl) (of_decide_eq_true (by kernel_rfl)) h3 Dk ?_
  refine lC (by kernel_rfl) (hQ _ ?_)
  rw[e]
  exact ab3 g0 g8
 cases hg:pK t.length x with
 |false=>
  obtain⟨d,hs⟩:=hB.1 hg
  refine eP (e:= .exit 3) 3 hs ?_
  refine qQ (qQ ?_)
  simp only[if_true]
  exact behind t _ x.t d h0 h8 (by unfold pR; rw[hg]; rfl)
 |true=>
 obtain⟨d,hs⟩:=hB.2 hg
 refine eP (e:= .norm) 3 hs ?_
 obtain⟨xa,xb,r⟩:=x
 have hg':=hg
 unfold pK at hg'
 simp only[Bool.and_eq_true,decide_eq_true_eq,Bool.not_eq_true',beq_eq_false_iff_ne] at hg'
 obtain⟨⟨⟨⟨⟨⟨a1,a2⟩,a3⟩,a4⟩,a5⟩,a6⟩,a7⟩:=hg'
 obtain⟨a,rfl⟩:∃ a:Nat,xa=a:=⟨xa.toNat,by omega⟩
 obtain⟨b,rfl⟩:∃ b:Nat,xb=b:=⟨xb.toNat,by omega⟩
 have hab:a≠b:=fun e=>a5 (by rw[e])
 have hca:t[a]? =some t[a]:=List.getElem?_eq_getElem (by omega)
 have hcb:t[b]? =some t[b]:=List.getElem?_eq_getElem (by omega)
 generalize t[a]=ca at hca
 generalize t[b]=cb at hcb
 have hco:=(ht ca (List.mem_of_getElem? hca)).1
 have hdo:=(ht cb (List.mem_of_getElem? hcb)).1
 have hlk:pR t ⟨a,b,r⟩=if (idxOf ca cb.a).isSome then t else(t.set a (jq ca (dD cb.a r))).set b (jq cb (dD ca.a (4 - r))):=by
  unfold pR
  rw[hg,if_pos rfl]
  simp only[Int.toNat_natCast,hca,hcb]
 have L1:=Uw (N:=n1+1) (l:=l) h0 h8 hab hca hcb
 obtain⟨n2,rfl⟩:∃ n2,n1=n2+1:=⟨n1 - 1,by omega⟩
 have hside:=Ht (M:=n2+1) (c:=ca) (n:=cb.a) (by omega) hco hdo.a
 generalize hv:(idxOf ca cb.a).isSome=v at hside hlk
 obtain⟨sf,k1,k2,k3⟩:=VA (j:=j) (r:=r) L1 hside
 have hn:=dY env (n2+1+1)
 obtain⟨_,n2'⟩:=sW he (n2+1+1)
 have abt:dV env (aJ env (n2+1+1)):=oO he hn n2'
 obtain⟨id3,e3⟩:=ahG
 refine yC he (st':=F9 l t j a b r) (R:=fun s=>s=sf) ⟨id3,rD 3,e3,gX.draw he.mixed abt ok3 k1 rfl⟩ ?_ fun s hs=>?_
 · exact dR.Du [7,9,11,55,56,57] (WY l j (t.length+2) d)
 subst hs
 refine⟨WB l t j a b r v,?_,?_⟩
 · have:s=⟨s.tmps,(WB l t j a b r v).heap⟩:=by rw[←k3]
   rw[this]
   exact dR.Du [7,9,11,13,55,56,57] k2
 cases v with
 |true=>
  refine eP (e:= .exit 3) 2 (WZ (n2+1+1) l t j a b r) ?_
  refine qQ (qQ ?_)
  simp only[if_true]
  unfold sGe
  rw[agC]
  exact behind t _ _ _ h0 h8 (by rw[hlk]; rfl)
 |false=>
 refine eP (e:= .norm) 2 (WX (n2+1+1) l t j a b r) ?_
 have s1:=Uf (M:=n2+1+1) (a:=cb.a) (r:=r) (by omega) hdo.a a6 a7
 have ha8:=(ht ca (List.mem_of_getElem? hca)).2
 have hb8:=(ht cb (List.mem_of_getElem? hcb)).2
 obtain⟨sa,r1,r2,r3⟩:=JJ (L1.ra j r) s1 (by rw[List.length_map]; exact ha8) ahw
 obtain⟨id6,e6⟩:=ahH
 refine yC he (st':=F9 l t j a b r) (R:=fun s=>s=sa) ⟨id6,rD 6,e6,JX he.mixed abt ok6 r1 rfl⟩ ?_ fun s hs=>?_
 · exact dR.Du [7,9,11,55,56,57] (U0 l j (t.length+2) false)
 subst hs
 have ht1:t.set a (jq ca (dD cb.a r))≠ []:=by
  intro e
  have:=congrArg List.length e
  rw[List.length_set] at this
  exact h0 (List.eq_nil_of_length_eq_zero this)
 have hl1:(t.set a (jq ca (dD cb.a r))).length=t.length:=List.length_set ..
 refine⟨F9 l (t.set a (jq ca (dD cb.a r))) j a b r,?_,?_⟩
 · have e1:s=⟨s.tmps,(F9 l (t.set a (jq ca (dD cb.a r))) j a b r).heap⟩:=by
    have:s.heap=(F9 l (t.set a (jq ca (dD cb.a r))) j a b r).heap:=by
     rw[r3]
     show(aP t.length t (lkH a b r)).set (2+a) _=aP (t.set a (jq ca (dD cb.a r))).length _ _
     rw[hl1]
     exact J5 hca
    rw[←this]
   rw[e1]
   refine dR.Du [7,9,11,55,56,57] (r2.trans ?_)
   show slots 153 ((11,.ptr (t.length+2) 0)::rC l j)=slots 153 ((11,.ptr ((t.set a (jq ca (dD cb.a r))).length+2) 0)::rC l j)
   rw[hl1]
 have ahs:(t.set a (jq ca (dD cb.a r)))[a]? =some (jq ca (dD cb.a r)):=List.getElem?_set_self (by omega)
 have adX:(t.set a (jq ca (dD cb.a r)))[b]? =some cb:=by rw[List.getElem?_set_ne hab]; exact hcb
 have L2:=Uw (N:=n2+1+1) (l:=l) ht1 (by rw[hl1]; exact h8) hab ahs adX
 have hwr:IntKind.i64.wrap (4 - r)=4 - r:=wrap64 (by omega)
 have s2:=Uf (M:=n2+1+1) (a:=ca.a) (r:=4 - r) (by omega) hco.a (by omega) (by omega)
 have L2b:=L2.rb j r
 rw[hwr] at L2b
 obtain⟨sb,q1,q2,q3⟩:=JJ L2b s2 (by rw[List.length_map]; exact hb8) ahx
 obtain⟨id7,e7⟩:=ahI
 refine yC he (st':=F9 l (t.set a (jq ca (dD cb.a r))) j a b r) (R:=fun s=>s=sb) ⟨id7,rD 7,e7,JX he.mixed abt ok7 q1 rfl⟩ (dR.refl _) fun s hs=>?_
 subst hs
 have hl2:((t.set a (jq ca (dD cb.a r))).set b (jq cb (dD ca.a (4 - r)))).length=t.length:=by rw[List.length_set,List.length_set]
 have ht2:(t.set a (jq ca (dD cb.a r))).set b (jq cb (dD ca.a (4 - r)))≠ []:=by
  intro e
  have:=congrArg List.length e
  rw[hl2] at this
  exact h0 (List.eq_nil_of_length_eq_zero this)
 refine⟨F9 l ((t.set a (jq ca (dD cb.a r))).set b (jq cb (dD ca.a (4 - r)))) j a b r,?_,?_⟩
 · have e1:s=⟨s.tmps,(F9 l ((t.set a (jq ca (dD cb.a r))).set b (jq cb (dD ca.a (4 - r)))) j a b r).heap⟩:=by
    have:s.heap=(F9 l ((t.set a (jq ca (dD cb.a r))).set b (jq cb (dD ca.a (4 - r)))) j a b r).heap:=by
     rw[q3]
     show(aP (t.set a (jq ca (dD cb.a r))).length _ (lkH a b r)).set (2+b) _=aP ((t.set a (jq ca (dD cb.a r))).set b (jq cb (dD ca.a (4 - r)))).length _ _
     rw[hl1,hl2]
     exact J5 adX
    rw[←this]
   rw[e1]
   refine dR.Du [7,9,11,55,56,57] (q2.trans ?_)
   show slots 153 ((11,.ptr ((t.set a (jq ca (dD cb.a r))).length+2) 0)::rC l j)=slots 153 ((11,.ptr (((t.set a (jq ca (dD cb.a r))).set b (jq cb (dD ca.a (4 - r)))).length+2) 0)::rC l j)
   rw[hl1,hl2]
 refine lC (by kernel_rfl) ?_
 show ah env (n2+1+1) 21 [6] 3 _ Q
 unfold F9
 rw[agB]
 exact behind _ _ _ _ ht2 (by rw[hl2]; exact h8) (by rw[hlk]; rfl)
end
section
open Go.RowKit Go.Proofs
theorem Ed {a r:Int} (ha:aS a=true) (h1:1≤r) (h3:r≤3):(dD a r).ok:=by
 have hr:∀ m v x n:Int,aS m=true→aS v=true→aS x=true→aS n=true→Ru.ok ⟨m,⟨0,0⟩,v,x,n⟩:=fun m v x n h1 h2 h3 h4=>⟨h1,⟨rfl,rfl⟩,h2,h3,h4⟩
 have hb:=bH
 refine⟨ha,lM.2 (by show -9223372036854775808≤r∧r≤_; omega),⟨by show 1≤big; omega,fun x hx=>?_⟩,?_⟩
 · simp only[dD,List.mem_singleton] at hx
   subst hx
   exact hr _ _ _ _ rfl rfl rfl (lM.2 (by omega))
 · show dN Ru.ok (if r=1 then _ else _)
   split
   · refine⟨by show 1≤big; omega,fun x hx=>?_⟩
     rw[List.mem_singleton] at hx
     subst hx
     exact hr _ _ _ _ rfl rfl rfl rfl
   · refine⟨by show 2≤big; omega,fun x hx=>?_⟩
     simp only[List.mem_cons,List.not_mem_nil,or_false] at hx
     rcases hx with rfl|rfl
     · exact hr _ _ _ _ rfl rfl rfl rfl
     · exact hr _ _ _ _ rfl rfl rfl rfl
def Wu (m j:Nat) (t:List Cf):Prop:=t.length=m∧∀ c∈t,c.ok∧c.s.length≤j
theorem PD {c:Cf} {s:Sd} (h:c.ok) (hs:s.ok) (hl:c.s.length+1≤big):(jq c s).ok:=⟨h.a,h.d,h.h,h.k,h.w,⟨by simpa[jq] using hl,fun x hx=>by
 rcases List.mem_append.1 hx with hx|hx
 · exact h.s.2 x hx
 · rw[List.mem_singleton.1 hx]; exact hs⟩⟩
theorem U9 {m j:Nat} {t:List Cf} {x:Lk} (h:Wu m j t) (hj:j+1≤big):Wu m (j+1) (pR t x):=by
 have weak:Wu m (j+1) t:=⟨h.1,fun c hc=>⟨(h.2 c hc).1,by have:=(h.2 c hc).2; omega⟩⟩
 unfold pR
 split
 · rename_i hg
   split
   · rename_i c d hc hd
     split
     · exact weak
     · unfold pK at hg
       simp only[Bool.and_eq_true,decide_eq_true_eq,Bool.not_eq_true',beq_eq_false_iff_ne] at hg
       obtain⟨⟨⟨⟨⟨⟨a1,a2⟩,a3⟩,a4⟩,a5⟩,a6⟩,a7⟩:=hg
       have h1:=h.2 c (List.mem_of_getElem? hc)
       have h2:=h.2 d (List.mem_of_getElem? hd)
       refine⟨by rw[List.length_set,List.length_set]; exact h.1,fun e he=>?_⟩
       rcases List.mem_or_eq_of_mem_set he with he|rfl
       · rcases List.mem_or_eq_of_mem_set he with he|rfl
         · exact weak.2 e he
         · exact⟨PD h1.1 (Ed h2.1.a a6 a7) (by omega),by simp[jq]; omega⟩
       · exact⟨PD h2.1 (Ed h1.1.a (by omega) (by omega)) (by omega),by simp[jq]; omega⟩
   · exact weak
 · exact weak
theorem Kw {m:Nat}:∀ (l:List Lk) {j:Nat} {t:List Cf},Wu m j t→j+l.length≤big→Wu m (j+l.length) (l.foldl pR t)
 | [],j,t,h,_=>h
 |x::l,j,t,h,hj=>by
  rw[List.foldl_cons,List.length_cons,show j+(l.length+1)=(j+1)+l.length by omega]
  rw[List.length_cons] at hj
  exact Kw l (U9 h (by omega)) (by omega)
theorem LH (n:Int):1≤JE n∧JE n≤8:=by unfold JE; omega
theorem Lr (n:Int):dP true [dP false [8] n] 1=((JE n:Nat):Int):=by
 unfold JE
 show(if (if (8:Int) < n then(8:Int) else n) > 1 then(if (8:Int) < n then(8:Int) else n) else 1)=_
 split<;>split<;>omega
theorem Vk {own:List Px} {i:Nat} (ho:dN Px.ok own) (hi:i < 8):(oW own i).ok:=by
 have hb:=bH
 have hw:dN Px.ok (Ie own i):=by
  unfold Ie
  split
  · rename_i p hp
    split
    · exact⟨by show 1≤big; omega,fun x hx=>by rw[List.mem_singleton.1 hx]; exact ho.2 p (List.mem_of_getElem? hp)⟩
    · exact⟨Nat.zero_le _,fun x hx=>by cases hx⟩
  · exact⟨Nat.zero_le _,fun x hx=>by cases hx⟩
 exact⟨lM.2 (by show -9223372036854775808≤65001+(i:Int)∧65001+(i:Int)≤_; omega),lM.2 (by show -9223372036854775808≤167772161+(i:Int)∧167772161+(i:Int)≤_; omega),rfl,rfl,hw,⟨Nat.zero_le _,fun x hx=>by cases hx⟩⟩
theorem Vl {own:List Px} {m:Nat} (ho:dN Px.ok own) (hm:m≤8):Wu m 0 ((List.range m).map (oW own)):=⟨by simp,fun c hc=>by
 obtain⟨i,hi,rfl⟩:=List.mem_map.1 hc
 exact⟨Vk ho (by have:=List.mem_range.1 hi; omega),Nat.le_refl _⟩⟩
variable [Lv]
def sGs (n:Int) (own:List Px) (l:List Lk):St:=⟨slots 153 [(0,.t (i64 n)),(1,.t (.sl 2 (own.map Px.t))),(2,.t (.sl 3 (l.map Lk.t)))],[]⟩
def Rx (n:Int) (own:List Px) (l:List Lk) (k m:Int):St:=⟨slots 153 [(0,.t (i64 n)),(1,.t (.sl 2 (own.map Px.t))),(2,.t (.sl 3 (l.map Lk.t))),(14,.t (i64 n)),(15,.t (i64 k)),(16,.t (i64 m))],[]⟩
def VU (own:List Px) (l:List Lk) (m:Nat) (xs:List PV):St:=⟨slots 153 [(1,.t (.sl 2 (own.map Px.t))),(2,.t (.sl 3 (l.map Lk.t))),(7,.ptr 1 0)],[.vec 45 6 m xs,.box 22 1 (.own 0)]⟩
noncomputable def tY:Array Oper:=gI env 21 [] 1
theorem gR0 (N:Nat) (n:Int) (own:List Px) (l:List Lk):(aQ env (aJ env N) (gI env 21 [] 0) ((gI env 21 [] 0).toList.map fun o=>(o,false)) (qX env 21 [.t (i64 n),.t (.sl 2 (own.map Px.t)),.t (.sl 3 (l.map Lk.t))]) (fun s=>(.ok s:aj St))).bind (fun s=>(.ok ⟨bZ [0,1,2] s.tmps,id s.heap⟩:aj St))= .ok (sGs n own l):=by kernel_rfl
theorem aho (N:Nat) (n:Int) (own:List Px) (l:List Lk):aQ env (aJ env N) tY ((tY.toList.take 3).map fun o=>(o,false)) (sGs n own l) (fun s=>(.ok s:aj St))= .ok (Rx n own l (dP false [8] n) (dP true [dP false [8] n] 1)):=by kernel_rfl
theorem ahp (n k:Int) (own:List Px) (l:List Lk):∀ m:Nat,1≤m→m≤8→y7 env (Rx n own l k m) 22 (.t (i64 m)) (.t (i64 m))=some (.own 0,⟨(Rx n own l k m).tmps,[.vec 45 6 m (uV m)]⟩)
 |1,_,_=>by kernel_rfl
 |2,_,_=>by kernel_rfl
 |3,_,_=>by kernel_rfl
 |4,_,_=>by kernel_rfl
 |5,_,_=>by kernel_rfl
 |6,_,_=>by kernel_rfl
 |7,_,_=>by kernel_rfl
 |8,_,_=>by kernel_rfl
 |0,h,_=>absurd h (by omega)
 |m+9,_,h=>absurd h (by omega)
theorem ahq (N:Nat) (n k:Int) (own:List Px) (l:List Lk) (m:Nat) (xs:List PV):(aQ env (aJ env N) tY ((tY.toList.drop 4).map fun o=>(o,false)) ⟨bV (Rx n own l k m).tmps (some 17) (.own 0),[.vec 45 6 m xs]⟩ (fun s=>(.ok s:aj St))).bind (fun s=>(.ok ⟨bZ [1,2,7] s.tmps,s.heap⟩:aj St))= .ok (VU own l m xs):=by kernel_rfl
theorem gR2 (N:Nat) (own:List Px) (l:List Lk):∀ m:Nat,1≤m→m≤8→Fz env 21 [] (2+1) (bF env N 21 [] 2 1 (VU own l m (uV m)))= .ok (.norm,Rw own l m [])
 |1,_,_=>by kernel_rfl
 |2,_,_=>by kernel_rfl
 |3,_,_=>by kernel_rfl
 |4,_,_=>by kernel_rfl
 |5,_,_=>by kernel_rfl
 |6,_,_=>by kernel_rfl
 |7,_,_=>by kernel_rfl
 |8,_,_=>by kernel_rfl
 |0,h,_=>absurd h (by omega)
 |m+9,_,h=>absurd h (by omega)
theorem gX1 {own:List Px} {l:List Lk} {t:List Cf} (h0:t≠ []) (h8:t.length≤8):canon 0 (eu env 21 [] 3).2 (Oc own l t.length t false)=VR l t:=
 CS (P:=fun t=>canon 0 (eu env 21 [] 3).2 (Oc own l t.length t false)=VR l t) (fun _=>by kernel_rfl) (fun _ _=>by kernel_rfl) (fun _ _ _=>by kernel_rfl) (fun _ _ _ _=>by kernel_rfl) (fun _ _ _ _ _=>by kernel_rfl) (fun _ _ _ _ _ _=>by kernel_rfl) (fun _ _ _ _ _ _ _=>by kernel_rfl) (fun _ _ _ _ _ _ _ _=>by kernel_rfl) t h0 h8
theorem gX2 {N:Nat} {l:List Lk} {t:List Cf} (h0:t≠ []) (h8:t.length≤8):Fz env 21 [] (4+2) (bF env N 21 [] 4 2 (VR l t))= .ok (.norm,UE l t ((0:Nat):Int)):=
 CS (P:=fun t=>Fz env 21 [] (4+2) (bF env N 21 [] 4 2 (VR l t))= .ok (.norm,UE l t ((0:Nat):Int))) (fun _=>by kernel_rfl) (fun _ _=>by kernel_rfl) (fun _ _ _=>by kernel_rfl) (fun _ _ _ _=>by kernel_rfl) (fun _ _ _ _ _=>by kernel_rfl) (fun _ _ _ _ _ _=>by kernel_rfl) (fun _ _ _ _ _ _ _=>by kernel_rfl) (fun _ _ _ _ _ _ _ _=>by kernel_rfl) t h0 h8
theorem gX3 {l:List Lk} {t:List Cf} {j:Nat} (h0:t≠ []) (h8:t.length≤8):canon 0 (eu env 21 [] 6).2 (uY l t j false)=VT t:=
 CS (P:=fun t=>canon 0 (eu env 21 [] 6).2 (uY l t j false)=VT t) (fun _=>by kernel_rfl) (fun _ _=>by kernel_rfl) (fun _ _ _=>by kernel_rfl) (fun _ _ _ _=>by kernel_rfl) (fun _ _ _ _ _=>by kernel_rfl) (fun _ _ _ _ _ _=>by kernel_rfl) (fun _ _ _ _ _ _ _=>by kernel_rfl) (fun _ _ _ _ _ _ _ _=>by kernel_rfl) t h0 h8
def Ur:List Cf→List au
 | []=>[]
 |c::r=> .kD 48 4 (c.s.map Sd.t)::Ur r
def WC (t:List Cf):St:=⟨slots 153 [(6,.own 1)],.box 22 1 (.own 1):: .kD 45 6 (t.map Cf.t)::Ur t⟩
theorem gX4 {N:Nat} {t:List Cf} (h0:t≠ []) (h8:t.length≤8):(aQ env (aJ env N) (gI env 21 [] 7) ((gI env 21 [] 7).toList.map fun o=>(o,false)) (VT t) (fun s=>(.ok s:aj St))).bind (fun s=>(.ok ⟨bZ [6] s.tmps,yK 1 s.heap⟩:aj St))= .ok (WC t):=
 CS (P:=fun t=>(aQ env (aJ env N) (gI env 21 [] 7) ((gI env 21 [] 7).toList.map fun o=>(o,false)) (VT t) (fun s=>(.ok s:aj St))).bind (fun s=>(.ok ⟨bZ [6] s.tmps,yK 1 s.heap⟩:aj St))= .ok (WC t)) (fun _=>by kernel_rfl) (fun _ _=>by kernel_rfl) (fun _ _ _=>by kernel_rfl) (fun _ _ _ _=>by kernel_rfl) (fun _ _ _ _ _=>by kernel_rfl) (fun _ _ _ _ _ _=>by kernel_rfl) (fun _ _ _ _ _ _ _=>by kernel_rfl) (fun _ _ _ _ _ _ _ _=>by kernel_rfl) t h0 h8
theorem gRet (N:Nat) (t:List Cf):bF env N 21 [] 8 1 (WC t)= .ok (.ret,WC t):=by kernel_rfl
theorem ahn (t:List Cf):xq env (dG env 21) (fun r H'=>bU env 21 r H'= .ok (.sl 6 (t.map Cf.t))) (WC t):=⟨.own 1,(WC t).heap,by kernel_rfl,show bU env 21 (.own 1) (WC t).heap= .ok (.sl 6 (t.map Cf.t)) by kernel_rfl⟩
theorem U3 {N:Nat} (he:lF env) {n k:Int} {own:List Px} {l:List Lk} {m:Nat} (h1:1≤m) (h8:m≤8) (hm:dP true [dP false [8] n] 1=(m:Int)) {Q:Ex→St→Prop} (hQ:ah env N 21 [] 2 (VU own l m (uV m)) Q):ah env N 21 [] 1 (sGs n own l) Q:=by
 obtain⟨n1,n2⟩:=sW he N
 have hc:dV env (aJ env N):=oO he n1 n2
 have hp:(aG env 21 [])[1]? =some (.region (aW ((aG env 21 []).getD 1 .skip)) tY false):=by kernel_rfl
 obtain⟨sf,g1,g2⟩:=aY (ahq N n (dP false [8] n) own l m (uV m))
 simp only[aj.ok.injEq] at g2
 refine Ba hp ⟨_,_,_,rfl⟩ (gX.turn (Q':=fun s=>s=sf) (gX.Qb ?_) fun s hs=>?_)
 · have e1:tY.toList=tY.toList.take 3++tY.toList.drop 3:=(List.take_append_drop _ _).symm
   rw[e1]
   have h3:=aho N n own l
   rw[hm] at h3
   refine zi n1 hc h3 ?_
   have e2:tY.toList.drop 3=(tY.toList.getD 3 default)::tY.toList.drop 4:=by kernel_rfl
   rw[e2]
   have q1:(tY.toList.getD 3 default).guard=none:=by kernel_rfl
   have q2:(tY.toList.getD 3 default).op= .makeSlice 22 (.tmp 16) (.tmp 16):=by kernel_rfl
   have q3:bf env.P (Rx n own l (dP false [8] n) m).tmps 0 (.tmp 16)=some (.t (i64 m)):=by kernel_rfl
   refine Jp q1 q2 q3 q3 (ahp n _ own l m h1 h8) ?_
   have e3:(tY.toList.getD 3 default).dst=some 17:=by kernel_rfl
   rw[e3]
   have:=zi (ops:=tY) (l:=tY.toList.drop 4) (m:=[]) (Q:=fun s=>s=sf) n1 hc g1 rfl
   rwa [List.append_nil] at this
 · subst hs
   refine⟨VU own l m (uV m),?_,hQ⟩
   rw[←g2]
   exact dR.keep [1,2,7] s.tmps s.heap
theorem U2 {N:Nat} (he:lF env) (hN:big+40≤N) {n:Int} {own:List Px} {l:List Lk} (ho:dN Px.ok own) (hl:dN Lk.ok l) (hlb:(l.length+1)*64≤big):
 JD env (aJ env N) 21 ([i64 n,.sl 2 (own.map Px.t),.sl 3 (l.map Lk.t)].map .t) [] (fun r H'=>bU env 21 r H'= .ok (.sl 6 ((NS n own l).map Cf.t))):=by
 have hbg:=bH
 obtain⟨hm1,Wv⟩:=LH n
 refine Ez ⟨dG env 21,by kernel_rfl,by kernel_rfl⟩ ?_
 refine nZ (i:=0) he (by kernel_rfl) (of_decide_eq_true (by kernel_rfl)) (gR0 N n own l) Dk ?_
 refine U3 (k:=n) he hm1 Wv (Lr n) ?_
 unfold NS
 generalize JE n=m at hm1 Wv ⊢
 refine uF (i:=2) 1 (id:=0) (c:=gK ((aG env 21 []).getD 3 .skip)) (gR2 N own l m hm1 Wv) (by kernel_rfl) (by kernel_rfl) (fun k st=>∃ i,i+k=m∧st=Rw own l m ((List.range i).map (oW own))) (m:=m) ⟨0,by omega,rfl⟩ ?_
 rintro k st ⟨i,hik,rfl⟩
 show ah env N 21 [3] 0 _ _
 have Us:((List.range i).map (oW own)).length=i:=by simp
 by_cases him:i < m
 · refine UZ he (by omega) ho Wv (by rw[Us]; exact him) ?_
   refine⟨k - 1,by omega,i+1,by omega,?_⟩
   rw[Us]
   have e:(List.range i).map (oW own)++ [oW own i]=(List.range (i+1)).map (oW own):=by rw[List.range_succ,List.map_append]; rfl
   rw[e]
   have hl1:((List.range (i+1)).map (oW own)).length=i+1:=by simp
   exact(aa5 (N:=N) (own:=own) (l:=l) (m:=m) (i:=i) hl1 (by omega) Wv).n5
 · obtain rfl:i=m:=by omega
   have h1:=PZ N own l i ((List.range i).map (oW own))
   rw[Us,decide_eq_false (by omega)] at h1
   refine eP (e:= .exit 0) 2 h1 ?_
   refine qQ (qQ ?_)
   simp only[if_true]
   have hne:(List.range i).map (oW own)≠ []:=fun e=>by rw[e] at Us; simp at Us; omega
   have hx:=gX1 (own:=own) (l:=l) hne (by rw[Us]; exact Wv)
   rw[Us] at hx
   have hg0:=Vl (own:=own) (m:=i) ho Wv
   generalize (List.range i).map (oW own)=t0 at Us hne hx hg0 h1
   show ah env N 21 [] (2+1+1) (canon 0 (eu env 21 [] 3).2 (Oc own l i t0 false)) _
   rw[hx]
   refine uF (i:=4) 2 (id:=2) (c:=gK ((aG env 21 []).getD 6 .skip)) (gX2 hne (by omega)) (by kernel_rfl) (by kernel_rfl) (fun k st=>∃ j,j+k=l.length∧st=UE l ((l.take j).foldl pR t0) (j:Nat)) (m:=l.length) ⟨0,by omega,rfl⟩ ?_
   rintro k st ⟨j,hjk,rfl⟩
   show ah env N 21 [6] 0 _ _
   have hgj:Wu i (0+(l.take j).length) ((l.take j).foldl pR t0):=Kw _ hg0 (by rw[List.length_take]; omega)
   rw[List.length_take,Nat.min_eq_left (show j≤l.length by omega),Nat.zero_add] at hgj
   have hnj:(l.take j).foldl pR t0≠ []:=fun e=>by have:=hgj.1; rw[e] at this; simp at this; omega
   by_cases hj:j < l.length
   · have hx':l[j]? =some l[j]:=List.getElem?_eq_getElem hj
     refine U1 he (by omega) hnj (by rw[hgj.1]; omega) hl.1 hx' (hl.2 _ (List.mem_of_getElem? hx')) (fun c hc=>⟨(hgj.2 c hc).1,by have:=(hgj.2 c hc).2; have:(c.s.length+1)*64≤(l.length+1)*64:=Nat.mul_le_mul_right _ (by omega); omega⟩) fun s hs=>?_
     refine⟨k - 1,by omega,j+1,by omega,?_⟩
     show canon 0 (eu env 21 [] 6).1 s=_
     rw[hs,List.take_add_one,hx',List.foldl_append]
     rfl
   · obtain rfl:j=l.length:=by omega
     have h1:=P5 N l ((l.take l.length).foldl pR t0) l.length
     rw[decide_eq_false (show ¬ ((l.length:Nat):Int) < (((l.map Lk.t).length:Nat):Int) by rw[List.length_map]; omega)] at h1
     refine eP (e:= .exit 2) 2 h1 ?_
     refine qQ (qQ ?_)
     simp only[if_true]
     rw[List.take_length] at hnj hgj ⊢
     show ah env N 21 [] (4+2+1) (canon 0 (eu env 21 [] 6).2 (uY l (l.foldl pR t0) l.length false)) _
     rw[gX3 hnj (by rw[hgj.1]; omega)]
     refine nZ (i:=7) (g:=yK 1) he (by kernel_rfl) (of_decide_eq_true (by kernel_rfl)) (gX4 hnj (by rw[hgj.1]; omega)) (fun tm H=>Jz 1) ?_
     refine eP (e:= .ret) 1 (gRet N _) ?_
     exact ahn _
end
section
theorem jO {α:Type} {f:α→T} (h:∀ a b,f a=f b→a=b):∀ {l m:List α},l.map f=m.map f→l=m
 | [],[],_=>rfl
 | [],_::_,e=>by simp at e
 |_::_,[],e=>by simp at e
 |a::l,b::m,e=>by
  simp only[List.map_cons,List.cons.injEq] at e
  rw[h a b e.1,jO h e.2]
theorem dI (a b:Int) (h:i64 a=i64 b):a=b:=by injection h
theorem OO {l m:List Int} (h:ints l=ints m):l=m:=jO dI h
theorem Px.tells (x y:Px) (h:x.t=y.t):x=y:=by
 cases x; cases y
 simp only[Px.t,T.agg.injEq,List.cons.injEq,and_true] at h
 rw[dI _ _ h.1,dI _ _ h.2]
theorem En.tells (x y:En) (h:x.t=y.t):x=y:=by
 obtain⟨⟨a,n⟩,⟨o,s,hh,c⟩⟩:=x
 obtain⟨⟨a',n'⟩,⟨o',s',hh',c'⟩⟩:=y
 simp only[En.t,T.agg.injEq,List.cons.injEq,T.sl.injEq,and_true,true_and] at h
 obtain⟨h1,h2,h3,h4,h5,h6⟩:=h
 rw[dI _ _ h1,dI _ _ h2,dI _ _ h3,OO h4,dI _ _ h5,dI _ _ h6]
theorem Ru.tells (x y:Ru) (h:x.t=y.t):x=y:=by
 obtain⟨m,⟨a,n⟩,v,b,k⟩:=x
 obtain⟨m',⟨a',n'⟩,v',b',k'⟩:=y
 simp only[Ru.t,T.agg.injEq,List.cons.injEq,and_true] at h
 obtain⟨h1,h2,h3,h4,h5,h6⟩:=h
 rw[dI _ _ h1,dI _ _ h2,dI _ _ h3,dI _ _ h4,dI _ _ h5,dI _ _ h6]
theorem Sd.tells (x y:Sd) (h:x.t=y.t):x=y:=by
 obtain⟨a,r,i,o⟩:=x
 obtain⟨a',r',i',o'⟩:=y
 simp only[Sd.t,T.agg.injEq,List.cons.injEq,T.sl.injEq,and_true,true_and] at h
 obtain⟨h1,h2,h3,h4⟩:=h
 rw[dI _ _ h1,dI _ _ h2,jO Ru.tells h3,jO Ru.tells h4]
theorem Cf.tells (x y:Cf) (h:x.t=y.t):x=y:=by
 obtain⟨a,d,k,m,w,s⟩:=x
 obtain⟨a',d',k',m',w',s'⟩:=y
 simp only[Cf.t,T.agg.injEq,List.cons.injEq,T.sl.injEq,and_true,true_and] at h
 obtain⟨h1,h2,h3,h4,h5,h6⟩:=h
 rw[dI _ _ h1,dI _ _ h2,dI _ _ h3,dI _ _ h4,jO Px.tells h5,jO Sd.tells h6]
end
section
open Go.RowKit Go.Proofs
theorem Lk.tells (x y:Lk) (h:x.t=y.t):x=y:=by
 cases x; cases y
 simp only[Lk.t,T.agg.injEq,List.cons.injEq,and_true] at h
 simp only[dI _ _ h.1,dI _ _ h.2.1,dI _ _ h.2.2]
def pY (t:List Cf):Prop:=∀ c∈t,(c.s.length+1)*8≤big
noncomputable def zY (ts:List T):aj T:=open Classical in if h:∃ t:List Cf,ts= [.sl 6 (t.map Cf.t)]∧dN Cf.ok t∧pY t then .ok (wM (nN h.choose)) else .stuck
theorem KL {t:List Cf} (h:dN Cf.ok t) (hr:pY t):zY [.sl 6 (t.map Cf.t)]= .ok (wM (nN t)):=by
 have hc:∃ t':List Cf,[T.sl 6 (t.map Cf.t)]= [.sl 6 (t'.map Cf.t)]∧dN Cf.ok t'∧pY t':=⟨t,rfl,h,hr⟩
 unfold zY
 rw[dif_pos hc]
 have h1:=hc.choose_spec.1
 generalize hc.choose=q at h1 ⊢
 simp only[List.cons.injEq,T.sl.injEq,true_and,and_true] at h1
 rw[←jO Cf.tells h1]
noncomputable def Hz (ts:List T):aj T:=open Classical in if h:∃ q:Int×List Px×List Lk,ts= [i64 q.1,.sl 2 (q.2.1.map Px.t),.sl 3 (q.2.2.map Lk.t)]∧dN Px.ok q.2.1∧dN Lk.ok q.2.2∧(q.2.2.length+1)*64≤big then .ok (.sl 6 ((NS h.choose.1 h.choose.2.1 h.choose.2.2).map Cf.t)) else .stuck
theorem P6 {n:Int} {own:List Px} {l:List Lk} (h1:dN Px.ok own) (h2:dN Lk.ok l) (h3:(l.length+1)*64≤big):Hz [i64 n,.sl 2 (own.map Px.t),.sl 3 (l.map Lk.t)]= .ok (.sl 6 ((NS n own l).map Cf.t)):=by
 have hc:∃ q:Int×List Px×List Lk,[i64 n,.sl 2 (own.map Px.t),.sl 3 (l.map Lk.t)]= [i64 q.1,.sl 2 (q.2.1.map Px.t),.sl 3 (q.2.2.map Lk.t)]∧dN Px.ok q.2.1∧dN Lk.ok q.2.2∧(q.2.2.length+1)*64≤big:=⟨(n,own,l),rfl,h1,h2,h3⟩
 unfold Hz
 rw[dif_pos hc]
 have e:=hc.choose_spec.1
 generalize hc.choose=q at e ⊢
 simp only[List.cons.injEq,T.sl.injEq,true_and,and_true] at e
 rw[←dI _ _ e.1,←jO Px.tells e.2.1,←jO Lk.tells e.2.2]
@[reducible] def Ux:Lv:={}
theorem ok0:lF (@env Ux):=@G9 Ux (fun e h=>by cases h) (fun e h=>by cases h) (fun e h=>by cases h)
theorem Vs:vG (@env Ux) 18 zY:=by
 refine PW ok0 (f:=18) (G:=zY) fun ts hw hne=>?_
 letI:=Ux
 by_cases hc:∃ t:List Cf,ts= [.sl 6 (t.map Cf.t)]∧dN Cf.ok t∧pY t
 · obtain⟨t,rfl,h1,h2⟩:=hc
   exact⟨big+80,_,KL h1 h2,Ri (Nat.le_refl _) h1 h2⟩
 · refine absurd ?_ hne
   unfold zY
   exact dif_neg hc
theorem Xa:vG (@env Ux) 21 Hz:=by
 refine PW ok0 (f:=21) (G:=Hz) fun ts hw hne=>?_
 letI:=Ux
 by_cases hc:∃ q:Int×List Px×List Lk,ts= [i64 q.1,.sl 2 (q.2.1.map Px.t),.sl 3 (q.2.2.map Lk.t)]∧dN Px.ok q.2.1∧dN Lk.ok q.2.2∧(q.2.2.length+1)*64≤big
 · obtain⟨⟨n,own,l⟩,rfl,h1,h2,h3⟩:=hc
   exact⟨big+80,_,P6 h1 h2 h3,U2 ok0 (by omega) h1 h2 h3⟩
 · refine absurd ?_ hne
   unfold Hz
   exact dif_neg hc
@[reducible] noncomputable def lv1:Lv:={ring:=some zY,gao:=some Hz}
theorem ok1:lF (@env lv1):=@G9 lv1 (fun e h=>by
 have h:some zY=some e:=h
 injection h with h
 subst h
 exact vG.env (E:=@env Ux) (E':=@env lv1) rfl rfl Vs) (fun e h=>by
 have h:some Hz=some e:=h
 injection h with h
 subst h
 exact vG.env (E:=@env Ux) (E':=@env lv1) rfl rfl Xa) (fun e h=>by cases h)
noncomputable instance lvI:Lv:=lv1
theorem ab5:lF env:=ok1
theorem Nu {M:Nat} {t:List Cf} (h:dN Cf.ok t) (hr:pY t):aB env M 18 [.sl 6 (t.map Cf.t)]= .ok (wM (nN t)):=by
 have e:aB env M 18 [.sl 6 (t.map Cf.t)]=bif T.wfs [.sl 6 (t.map Cf.t)] then zY [.sl 6 (t.map Cf.t)] else .absurd:=rfl
 rw[e,jD (jR h)]
 exact KL h hr
theorem ace {M:Nat} {n:Int} {own:List Px} {l:List Lk} (hn:aS n=true) (h1:dN Px.ok own) (h2:dN Lk.ok l) (h3:(l.length+1)*64≤big):aB env M 21 [i64 n,.sl 2 (own.map Px.t),.sl 3 (l.map Lk.t)]= .ok (.sl 6 ((NS n own l).map Cf.t)):=by
 have e:aB env M 21 [i64 n,.sl 2 (own.map Px.t),.sl 3 (l.map Lk.t)]=bif T.wfs [i64 n,.sl 2 (own.map Px.t),.sl 3 (l.map Lk.t)] then Hz [i64 n,.sl 2 (own.map Px.t),.sl 3 (l.map Lk.t)] else .absurd:=rfl
 rw[e,FY (bC hn) (gq (fun _ h=>Px.ok.wf h) h1) (gq (fun _ h=>Lk.ok.wf h) h2)]
 exact P6 h1 h2 h3
end
end Go.aO
namespace Go.aO
open Go.RowKit Go.Proofs
def Dw:List Lk:=[⟨0,1,2⟩,⟨0,2,1⟩,⟨1,3,1⟩]
def QE:List Cf:=[⟨65001,167772161,90,1000,[],[dD 65002 2,dD 65003 1]⟩,⟨65002,167772162,90,1000,[],[dD 65001 2,dD 65004 1]⟩,⟨65003,167772163,90,1000,[],[dD 65001 3]⟩,⟨65004,167772164,90,1000,[],[dD 65002 3]⟩]
theorem W9:NS 4 [] Dw=QE:=by kernel_rfl
def Jl (a n:Int):Sd:={dD a 2 with i:=[⟨0,⟨0,0⟩,0,2,n⟩]}
def sQ (n:Int):List Cf:=[⟨65001,167772161,90,1000,[],[Jl 65002 n,dD 65003 1]⟩,⟨65002,167772162,90,1000,[],[Jl 65001 n,dD 65004 1]⟩,⟨65003,167772163,90,1000,[],[dD 65001 3]⟩,⟨65004,167772164,90,1000,[],[dD 65002 3]⟩]
theorem UL:kY (sQ 200)=(0,0):=by kernel_rfl
theorem UM:(kY (sQ 310)).2=10:=by kernel_rfl
end Go.aO
namespace Go.aO
end Go.aO
namespace Go.aO
section
open Go.RowKit Go.Proofs
variable [Lv]
theorem q10 (N:Nat):aB env (N+1) 10 []=W [] (cl N 25 [i64 310] fun x=>cl N 16 [x] fun x=>aH x 0 fun y=>aH x 1 fun y=>cl N 25 [i64 200] fun x=>cl N 16 [x] fun x=>aH x 0 fun y_1=>aH x 1 fun sZ=>cl N 16 [T.sl 6 []] fun x=>aH x 0 fun Cc=>aH x 1 fun Qq=>cl N 25 [i64 200] fun x=>cl N 14 [x,i64 0,i64 0] fun x=>aH x 0 fun UK=>aH x 1 fun y_6=>aH x 2 fun y_7=>cl N 25 [i64 200] fun x=>cl N 12 [x,i64 65002] fun x=>aH x 0 fun y_8=>aH x 1 fun y_9=>cl N 25 [i64 200] fun x=>cl N 18 [x] fun x=>aH x 0 fun ak4=>aH x 1 fun ahV=>iT IntKind.i64 y fun a=>bif a==10 then iT IntKind.i64 sZ fun a=>bif a==0 then iT IntKind.i64 Qq fun a=>bif a==1 then bT y_7 fun b=>bif b then iT IntKind.i64 UK fun a=>bif a==1 then iT IntKind.i64 y_6 fun a=>bif a==0 then bT y_9 fun b=>bif b then iT IntKind.i64 y_8 fun a=>bif a==1 then bT ahV fun b=>rB !b else rB false else rB false else rB false else rB false else rB false else rB false else rB false else rB false):=by kernel_rfl
theorem q8 (N:Nat) (n:Int):aB env (N+1) 8 [i64 n]=W [i64 n] (cl N 10 [] fun x=>cl N 25 [i64 (IntKind.i64.wrap (1+(IntKind.i64.wrap (↑(BitVec.ofInt 64 n&&& BitVec.ofInt 64 65535).toNat:Int)).tmod 399))] fun x_1=>cl N 16 [x_1] fun x_2=>aH x_2 0 fun y=>aH x_2 1 fun y=>bif decide (IntKind.i64.wrap (1+(IntKind.i64.wrap (↑(BitVec.ofInt 64 n&&& BitVec.ofInt 64 65535).toNat:Int)).tmod 399) > 300) then bT x fun b=>bif b then iT IntKind.i64 y fun a=>rB (a==10) else rB false else bif decide (IntKind.i64.wrap (1+(IntKind.i64.wrap (↑(BitVec.ofInt 64 n&&& BitVec.ofInt 64 65535).toNat:Int)).tmod 399) < 100) then bT x fun b=>bif b then iT IntKind.i64 y fun a=>rB (a==10) else rB false else bT x fun b=>bif b then iT IntKind.i64 y fun a=>rB (a==0) else rB false):=by kernel_rfl
theorem q7 (N:Nat) (t:List Cf):aB env (N+1) 7 [.sl 6 (t.map Cf.t)]=W [.sl 6 (t.map Cf.t)] (cl N 10 [] fun x=>jJ N 11 [T.sl 6 (List.map Cf.t t)] fun b=>bif !b then aj.ok x else cl N 16 [T.sl 6 (List.map Cf.t t)] fun x_1=>aH x_1 0 fun y=>aH x_1 1 fun y=>iT IntKind.i64 y fun a=>bif a !=0 then aj.ok x else eG env N 7 8 {tmps:=slots 176 [(0,PV.t (T.sl 6 (List.map Cf.t t))),(3,PV.t x),(6,PV.t (i64 0))],heap:=[]}):=by kernel_rfl
theorem q11 (N:Nat) (t:List Cf):aB env (N+1) 11 [.sl 6 (t.map Cf.t)]=W [.sl 6 (t.map Cf.t)] (eG env N 11 2 {tmps:=slots 19 [(0,PV.t (T.sl 6 (List.map Cf.t t))),(3,PV.t (i64 0))],heap:=[]}):=by kernel_rfl
end
section
open Go.RowKit Go.Proofs
variable [Lv]
def WI (n i:Int) (l:List Cf):St:=⟨slots 55 [(0,.t (i64 n)),(3,.own 0),(4,.t (i64 i))],[.row 45 6 (l.map Cf.t)]⟩
theorem aeP (N:Nat) (n:Int) (l:List Cf):aT env N 25 0 5 (WI n 2 l)=aj.ok (Ex.exit 0,{tmps:=slots 55 [(3,PV.own 0)],heap:=[au.row 45 6 (List.map Cf.t l)]}):=by kernel_rfl
theorem L8 (N:Nat) (l:List Cf):bK env N 25 0 5 (bU env 25) (.exit 0) (⟨slots 55 [(3,.own 0)],[.row 45 6 (l.map Cf.t)]⟩)=aj.ok (T.sl 6 (List.map Cf.t l)):=by kernel_rfl
end
end Go.aO
