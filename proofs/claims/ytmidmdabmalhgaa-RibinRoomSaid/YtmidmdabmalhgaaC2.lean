/- The interpreter over GoSem's own code: values are trees, memory of the call's own is a list of objects. Written in the passing style, so that the kernel unfolds it to a tree of calls. -/
import Derived.Test.YtmidmdabmalhgaaC1
namespace Go.Sim
open Go.RowKit
set_option linter.unusedVariables false

/-! ### trees: parts -/
def T.cell (x : T) (i : Nat) : T := x.cells.getD i .nilp
def T.partD (x : T) (o s : Nat) (a : Bool) : T := bif a then .agg ((x.cells.drop o).take s) else x.cell o
/-- Cells from o on written anew. -/
def T.putD (x : T) (o : Nat) (ys : List T) : T := .agg (x.cells.take o ++ ys ++ x.cells.drop (o + ys.length))

section
variable {β : Type}
def bT (x : T) (K : Bool → Res β) : Res β := match x with | .bool b => K b | _ => .stuck
def iT (k : IntKind) (x : T) (K : Int → Res β) : Res β := match x with | .int k' n => if k' = k then K n else .stuck | _ => .stuck
def anyT (x : T) (K : Int → Res β) : Res β := match x with | .int _ n => K n | _ => .stuck
def slT (k : Nat) (x : T) (K : List T → Res β) : Res β := match x with | .sl k' xs => if k' = k then K xs else .stuck | _ => .stuck
def strT (x : T) (K : ByteArray → Res β) : Res β := match x with | .str s => K s | _ => .stuck
def lenT (x : T) (K : Int → Res β) : Res β := match x with | .sl _ xs => K xs.length | .str s => K s.size | _ => .stuck
def sllT (x : T) (K : Int → Res β) : Res β := match x with | .sl _ xs => K xs.length | _ => .stuck
def refT (x : T) (K : Nat → T → Res β) : Res β := match x with | .ref y => K y.cells.length y | _ => .stuck
def compT (x : T) (i : Nat) (K : T → Res β) : Res β := match x with | .tup l => (match l[i]? with | some y => K y | none => .stuck) | _ => .stuck
def atT (xs : List T) (i : Int) (K : T → Res β) : Res β := if 0 ≤ i then (match xs[i.toNat]? with | some e => K e | none => .stuck) else .stuck
def chk (b : Bool) (r : Res β) : Res β := bif b then r else .stuck
def chkAll {α : Type} (f : α → Bool) (xs : List α) (r : Res β) : Res β := match xs with | [] => r | x :: xs => chk (f x) (chkAll f xs r)
/-- A pointer into a frozen variable: 'none': nil. -/
def ptrT (x : T) (Kn : Res β) (K : T → Res β) : Res β := match x with | .nilp => Kn | .ref y => K y | _ => .stuck
end

/-- '==' of cells, by their kinds: 0 a whole number, 1 a bool, 2 a string. -/
def T.eqLs : List Nat → List T → List T → Option Bool
  | [], [], [] => some true
  | 0 :: l, .int k a :: xs, .int k' b :: ys => if k = k' then (T.eqLs l xs ys).map ((a == b) && ·) else none
  | 1 :: l, .bool a :: xs, .bool b :: ys => (T.eqLs l xs ys).map ((a == b) && ·)
  | 2 :: l, .str a :: xs, .str b :: ys => (T.eqLs l xs ys).map ((a == b) && ·)
  | _, _, _ => none
def T.flat (l : List Nat) (x : T) : List T := match l with | [_] => [x] | _ => x.cells
def eqT {β : Type} (l : List Nat) (x y : T) (K : Bool → Res β) : Res β := match T.eqLs l (x.flat l) (y.flat l) with | some b => K b | none => .stuck

/-! ### static facts of types -/
def szP (P : Program) (t : TypeId) : Option Nat := (P.info? t).map (·.size)
def byP (P : Program) (t : TypeId) : Option Nat := (P.info? t).map (·.bytes)
def aggP (P : Program) (t : TypeId) : Option Bool := match P.underlying t with
  | some (.struct _) => some true
  | some (.array _ _) => some true
  | some _ => some false
  | none => none
def elP (P : Program) (t : TypeId) : Option TypeId := match P.underlying t with | some (.slice e) => some e | _ => none
def kindP (P : Program) (t : TypeId) : Option IntKind := match P.underlying t with | some (.int k) => some k | _ => none
def fieldP (P : Program) (t : TypeId) (i : Nat) : Option (Nat × TypeId) := match P.underlying t with
  | some (.struct fs) => (fs[i]?).map fun f => (f.offset, f.type)
  | _ => none
/-- The kinds of a type's cells, where '==' goes by them. -/
def eqLvs (P : Program) (f : TypeId → Option (List Nat)) : List Field → Nat → Option (List Nat)
  | [], _ => some []
  | fd :: r, off => bif fd.name == "_" || !(fd.offset == off) then none else match f fd.type, szP P fd.type, aggP P fd.type with
    | some l, some s, some a => bif l.length == s && (a || s == 1) then (eqLvs P f r (off + s)).map (l ++ ·) else none
    | _, _, _ => none
def eqLv (P : Program) : Nat → TypeId → Option (List Nat)
  | 0, _ => none
  | d + 1, t => match P.underlying t with
    | some (.int _) => some [0]
    | some .bool => some [1]
    | some .string => some [2]
    | some (.struct fs) => bif P.stoodInHeld t then none else eqLvs P (eqLv P d) fs.toList 0
    | _ => none
/-- The types of a type's cells. -/
def leavesP (P : Program) : Nat → TypeId → Option (List TypeId)
  | 0, _ => none
  | d + 1, t => match P.underlying t with
    | some (.struct fs) => fs.toList.foldr (fun f acc => match leavesP P d f.type, acc with | some a, some b => some (a ++ b) | _, _ => none) (some [])
    | some (.array n e) => (leavesP P d e).map fun l => (List.replicate n l).flatten
    | some _ => some [t]
    | none => none
/-- Types whose values lead to no memory. -/
def freeP (P : Program) : Nat → TypeId → Bool
  | 0, _ => false
  | d + 1, t => match P.underlying t with
    | some (.int _) | some .bool | some .string => true
    | some (.tuple ts) => ts.toList.all (freeP P d)
    | some (.struct fs) => fs.toList.all fun f => freeP P d f.type
    | _ => false

/-! ### slot values: cells, frozen, constants -/
def undefV : PV := .tup []
def allT : List PV → Option (List T)
  | [] => some []
  | .t x :: r => (allT r).map (x :: ·)
  | _ :: _ => none
def mkAgg (cs : List PV) : PV := match allT cs with | some ts => .t (.agg ts) | none => .agg cs
def PV.cells (n : Nat) : PV → List PV
  | .agg cs => cs
  | .t x => (List.range n).map fun i => .t (x.cell i)
  | .junk => List.replicate n .junk
  | p => [p]
def T.isTup : T → Bool
  | .tup _ => true
  | _ => false
/-- Has a slot's value just s cells, all of them known to be cells? -/
def PV.okS (s : Nat) : PV → Bool
  | .t x => x.cells.length == s && !x.isTup
  | .agg cs => cs.length == s
  | .tup _ => false
  | .junk => false
  | _ => s == 1
/-- Fit to be an element of k cells. -/
def T.okE (k : Nat) (x : T) : Bool := x.cells.length == k && !x.isTup && (!(k == 1) || !x.isAgg)
def PV.part (p : PV) (o s : Nat) (a : Bool) : PV := match p with
  | .t x => .t (x.partD o s a)
  | .agg cs => bif a then mkAgg ((cs.drop o).take s) else cs.getD o .junk
  | p => p

mutual
/-- As a frozen tree. -/
def PV.frz (H : List AObj) : PV → Option T
  | .t x => some x
  | .nil _ k => some (.sl k [])
  | .agg cs => (PV.frzs H cs).map .agg
  | .tup cs => (PV.frzs H cs).map .tup
  | .own l => match H[l]? with
    | some (.row _ k xs) => some (.sl k xs)
    | some (.frow _ k xs) => some (.sl k xs)
    | _ => none
  | .fn f fs cs => match PV.frzs H fs, PV.frzs H cs with | some a, some b => some (.fn f a b) | _, _ => none
  | .full k xs => some (.sl k xs)
  | .rp _ _ _ => none
  | .ptr l o => match H[l]? with
    | some (.fbox _ n v) => if o = 0 then some (.ref v) else none
    | _ => none
  | .eptr _ _ _ _ => none
  | .view l k lo hi => match H[l]? with
    | some (.row _ k' xs) => bif k' == k && decide (lo ≤ hi) && decide (hi ≤ xs.length) then some (.sl k ((xs.take hi).drop lo)) else none
    | some (.frow _ k' xs) => bif k' == k && decide (lo ≤ hi) && decide (hi ≤ xs.length) then some (.sl k ((xs.take hi).drop lo)) else none
    | _ => none
  | .junk => none
def PV.frzs (H : List AObj) : List PV → Option (List T)
  | [] => some []
  | p :: r => match p.frz H, PV.frzs H r with | some x, some xs => some (x :: xs) | _, _ => none
end

end Go.Sim
