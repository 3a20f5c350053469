/- The texts of a proof, one behind the other: an interpreter and its soundness, what the functions of the program answer, and plain laws on that. -/
import Derived.Maps.AppendAt
import Derived.Below
import Derived.KernelRfl
import Derived.Orders
import Derived.Laws.StructEq
import Derived.Laws.CopyRow
import Derived.Laws.Slices
set_option linter.unusedVariables false
set_option linter.unusedSimpArgs false
set_option linter.unnecessarySimpa false
set_option linter.unusedSectionVars false
/- Trees of values (T), slot values (PV), objects of a call's own (AObj), results of an interpreter (Res). -/
namespace Go.Sim
open Go.RowKit

/-- A frozen tree: a value and all that it leads to, which nobody writes any more. -/
inductive T where
  | int (k : IntKind) (n : Int)
  | bool (b : Bool)
  | str (s : ByteArray)
  | nilp
  | ref (x : T)
  | sl (k : Nat) (xs : List T)
  | agg (cs : List T)
  | fn (f : FuncId) (fs cs : List T)
  | nilfn
  | iface (t : TypeId) (v : T)
  | nilif
  | tup (xs : List T)
  deriving Inhabited

def T.cells : T → List T
  | .agg cs => cs
  | x => [x]

def T.isAgg : T → Bool
  | .agg _ => true
  | _ => false

/-- No slice is longer, no string wider. -/
def big : Nat := 140737488355328

def kindOk (k : IntKind) (n : Int) : Bool := decide (k.min ≤ n) && decide (n ≤ k.max)

mutual
def T.wf : T → Bool
  | .int k n => kindOk k n
  | .bool _ => true
  | .str s => decide (s.size ≤ big)
  | .nilp => true
  | .ref x => x.wf
  | .sl _ xs => decide (xs.length ≤ big) && T.wfs xs
  | .agg cs => T.wfs cs
  | .fn _ fs cs => T.wfs fs && T.wfs cs
  | .nilfn => true
  | .iface _ v => v.wf
  | .nilif => true
  | .tup xs => T.wfs xs
def T.wfs : List T → Bool
  | [] => true
  | x :: xs => x.wf && T.wfs xs
end

theorem T.wfs_iff : ∀ {xs : List T}, T.wfs xs = true ↔ ∀ x ∈ xs, x.wf = true
  | [] => by simp [T.wfs]
  | x :: xs => by simp [T.wfs, T.wfs_iff (xs := xs)]

/-- No memory behind it. -/
def T.scalar : T → Bool
  | .int _ _ | .bool _ | .str _ | .nilp | .nilfn | .nilif => true
  | _ => false
def T.plain : T → Bool
  | .tup xs => xs.all T.scalar
  | .agg xs => xs.all T.scalar
  | x => x.scalar

/-- What a slot holds. -/
inductive PV where
  | t (x : T)
  | nil (e : TypeId) (k : Nat)
  | agg (cs : List PV)
  | ptr (l o : Nat)
  | own (l : Nat)
  | eptr (l k i o : Nat)
  | view (l k lo hi : Nat)
  | fn (f : FuncId) (fs cs : List PV)
  | tup (xs : List PV)
  | full (k : Nat) (xs : List T)
  | rp (k : Nat) (x : T) (o : Nat)
  | mp (l : Nat)
  | junk
  deriving Inhabited

inductive AObj where
  | box (e : TypeId) (n : Nat) (v : PV)
  | fbox (e : TypeId) (n : Nat) (v : T)
  | row (e : TypeId) (k : Nat) (xs : List T)
  | frow (e : TypeId) (k : Nat) (xs : List T)
  | vec (e : TypeId) (k n : Nat) (xs : List PV)
  | map (es : List (T × T × Nat)) (c : Nat)
  | iter (m since : Nat) (seen : List Nat) (last : Nat)
  | dead
  deriving Inhabited

structure St where
  tmps : List PV
  heap : List AObj

inductive Res (α : Type) where
  | ok (a : α)
  | absurd
  | stuck
  deriving Inhabited

def Res.bind {α β : Type} : Res α → (α → Res β) → Res β
  | .ok a, f => f a
  | .absurd, _ => .absurd
  | .stuck, _ => .stuck

/-- 'It is r, or cannot be.' -/
def Res.le {α : Type} : Res α → α → Prop
  | .ok a, b => a = b
  | .absurd, _ => True
  | .stuck, _ => False

@[simp] theorem Res.bind_ok {α β : Type} (a : α) (f : α → Res β) : (Res.ok a).bind f = f a := rfl
@[simp] theorem Res.bind_absurd {α β : Type} (f : α → Res β) : (Res.absurd : Res α).bind f = .absurd := rfl
@[simp] theorem Res.bind_stuck {α β : Type} (f : α → Res β) : (Res.stuck : Res α).bind f = .stuck := rfl
end Go.Sim

/- The interpreter over GoSem's own code: values are trees, memory of the call's own is a list of objects. Written in the passing style, so that the kernel unfolds it to a tree of calls. -/
namespace Go.Sim
open Go.RowKit
set_option linter.unusedVariables false

/-! ### trees: parts -/
def T.cell (x : T) (i : Nat) : T := x.cells.getD i .nilp
def T.partD (x : T) (o s : Nat) (a : Bool) : T := bif a then .agg ((x.cells.drop o).take s) else x.cell o
/-- Cells from o on written anew. -/
def T.putD (x : T) (o : Nat) (ys : List T) : T := .agg (x.cells.take o ++ ys ++ x.cells.drop (o + ys.length))

section
variable {β : Type}
def bT (x : T) (K : Bool → Res β) : Res β := match x with | .bool b => K b | _ => .stuck
def iT (k : IntKind) (x : T) (K : Int → Res β) : Res β := match x with | .int k' n => if k' = k then K n else .stuck | _ => .stuck
def anyT (x : T) (K : Int → Res β) : Res β := match x with | .int _ n => K n | _ => .stuck
def slT (k : Nat) (x : T) (K : List T → Res β) : Res β := match x with | .sl k' xs => if k' = k then K xs else .stuck | _ => .stuck
def strT (x : T) (K : ByteArray → Res β) : Res β := match x with | .str s => K s | _ => .stuck
def lenT (x : T) (K : Int → Res β) : Res β := match x with | .sl _ xs => K xs.length | .str s => K s.size | _ => .stuck
def sllT (x : T) (K : Int → Res β) : Res β := match x with | .sl _ xs => K xs.length | _ => .stuck
def refT (x : T) (K : Nat → T → Res β) : Res β := match x with | .ref y => K y.cells.length y | _ => .stuck
def compT (x : T) (i : Nat) (K : T → Res β) : Res β := match x with | .tup l => (match l[i]? with | some y => K y | none => .stuck) | _ => .stuck
def atT (xs : List T) (i : Int) (K : T → Res β) : Res β := if 0 ≤ i then (match xs[i.toNat]? with | some e => K e | none => .stuck) else .stuck
def chk (b : Bool) (r : Res β) : Res β := bif b then r else .stuck
def chkAll {α : Type} (f : α → Bool) (xs : List α) (r : Res β) : Res β := match xs with | [] => r | x :: xs => chk (f x) (chkAll f xs r)
/-- A pointer into a frozen variable: 'none': nil. -/
def ptrT (x : T) (Kn : Res β) (K : T → Res β) : Res β := match x with | .nilp => Kn | .ref y => K y | _ => .stuck
end

/-- '==' of cells, by their kinds: 0 a whole number, 1 a bool, 2 a string. -/
def T.eqLs : List Nat → List T → List T → Option Bool
  | [], [], [] => some true
  | 0 :: l, .int k a :: xs, .int k' b :: ys => if k = k' then (T.eqLs l xs ys).map ((a == b) && ·) else none
  | 1 :: l, .bool a :: xs, .bool b :: ys => (T.eqLs l xs ys).map ((a == b) && ·)
  | 2 :: l, .str a :: xs, .str b :: ys => (T.eqLs l xs ys).map ((a == b) && ·)
  | _, _, _ => none
def T.flat (l : List Nat) (x : T) : List T := match l with | [_] => [x] | _ => x.cells
def eqT {β : Type} (l : List Nat) (x y : T) (K : Bool → Res β) : Res β := match T.eqLs l (x.flat l) (y.flat l) with | some b => K b | none => .stuck

/-! ### static facts of types -/
def szP (P : Program) (t : TypeId) : Option Nat := (P.info? t).map (·.size)
def byP (P : Program) (t : TypeId) : Option Nat := (P.info? t).map (·.bytes)
def aggP (P : Program) (t : TypeId) : Option Bool := match P.underlying t with
  | some (.struct _) => some true
  | some (.array _ _) => some true
  | some _ => some false
  | none => none
def elP (P : Program) (t : TypeId) : Option TypeId := match P.underlying t with | some (.slice e) => some e | _ => none
def kindP (P : Program) (t : TypeId) : Option IntKind := match P.underlying t with | some (.int k) => some k | _ => none
def fieldP (P : Program) (t : TypeId) (i : Nat) : Option (Nat × TypeId) := match P.underlying t with
  | some (.struct fs) => (fs[i]?).map fun f => (f.offset, f.type)
  | _ => none
/-- The kinds of a type's cells, where '==' goes by them. -/
def eqLvs (P : Program) (f : TypeId → Option (List Nat)) : List Field → Nat → Option (List Nat)
  | [], _ => some []
  | fd :: r, off => bif fd.name == "_" || !(fd.offset == off) then none else match f fd.type, szP P fd.type, aggP P fd.type with
    | some l, some s, some a => bif l.length == s && (a || s == 1) then (eqLvs P f r (off + s)).map (l ++ ·) else none
    | _, _, _ => none
def eqLv (P : Program) : Nat → TypeId → Option (List Nat)
  | 0, _ => none
  | d + 1, t => match P.underlying t with
    | some (.int _) => some [0]
    | some .bool => some [1]
    | some .string => some [2]
    | some (.struct fs) => bif P.stoodInHeld t then none else eqLvs P (eqLv P d) fs.toList 0
    | _ => none
/-- The types of a type's cells. -/
def leavesP (P : Program) : Nat → TypeId → Option (List TypeId)
  | 0, _ => none
  | d + 1, t => match P.underlying t with
    | some (.struct fs) => fs.toList.foldr (fun f acc => match leavesP P d f.type, acc with | some a, some b => some (a ++ b) | _, _ => none) (some [])
    | some (.array n e) => (leavesP P d e).map fun l => (List.replicate n l).flatten
    | some _ => some [t]
    | none => none
/-- Types whose values lead to no memory. -/
def freeP (P : Program) : Nat → TypeId → Bool
  | 0, _ => false
  | d + 1, t => match P.underlying t with
    | some (.int _) | some .bool | some .string => true
    | some (.tuple ts) => ts.toList.all (freeP P d)
    | some (.struct fs) => fs.toList.all fun f => freeP P d f.type
    | _ => false

/-! ### slot values: cells, frozen, constants -/
def undefV : PV := .tup []
def allT : List PV → Option (List T)
  | [] => some []
  | .t x :: r => (allT r).map (x :: ·)
  | _ :: _ => none
def mkAgg (cs : List PV) : PV := match allT cs with | some ts => .t (.agg ts) | none => .agg cs
def PV.cells (n : Nat) : PV → List PV
  | .agg cs => cs
  | .t x => (List.range n).map fun i => .t (x.cell i)
  | .junk => List.replicate n .junk
  | p => [p]
def T.isTup : T → Bool
  | .tup _ => true
  | _ => false
/-- Has a slot's value just s cells, all of them known to be cells? -/
def PV.okS (s : Nat) : PV → Bool
  | .t x => x.cells.length == s && !x.isTup
  | .agg cs => cs.length == s
  | .tup _ => false
  | .junk => false
  | _ => s == 1
/-- Fit to be an element of k cells. -/
def T.okE (k : Nat) (x : T) : Bool := x.cells.length == k && !x.isTup && (!(k == 1) || !x.isAgg)
def PV.part (p : PV) (o s : Nat) (a : Bool) : PV := match p with
  | .t x => .t (x.partD o s a)
  | .agg cs => bif a then mkAgg ((cs.drop o).take s) else cs.getD o .junk
  | p => p

mutual
/-- As a frozen tree. -/
def PV.frz (H : List AObj) : PV → Option T
  | .t x => some x
  | .nil _ k => some (.sl k [])
  | .agg cs => (PV.frzs H cs).map .agg
  | .tup cs => (PV.frzs H cs).map .tup
  | .own l => match H[l]? with
    | some (.row _ k xs) => some (.sl k xs)
    | some (.frow _ k xs) => some (.sl k xs)
    | _ => none
  | .fn f fs cs => match PV.frzs H fs, PV.frzs H cs with | some a, some b => some (.fn f a b) | _, _ => none
  | .full k xs => some (.sl k xs)
  | .rp _ _ _ => none
  | .mp _ => none
  | .ptr l o => match H[l]? with
    | some (.fbox _ n v) => if o = 0 then some (.ref v) else none
    | _ => none
  | .eptr _ _ _ _ => none
  | .view l k lo hi => match H[l]? with
    | some (.row _ k' xs) => bif k' == k && decide (lo ≤ hi) && decide (hi ≤ xs.length) then some (.sl k ((xs.take hi).drop lo)) else none
    | some (.frow _ k' xs) => bif k' == k && decide (lo ≤ hi) && decide (hi ≤ xs.length) then some (.sl k ((xs.take hi).drop lo)) else none
    | _ => none
  | .junk => none
def PV.frzs (H : List AObj) : List PV → Option (List T)
  | [] => some []
  | p :: r => match p.frz H, PV.frzs H r with | some x, some xs => some (x :: xs) | _, _ => none
end

end Go.Sim

/- The interpreter: operations, regions, code, calls. -/
namespace Go.Sim
open Go.RowKit

structure Env where
  P : Program
  /-- By function and first region of a loop's body: the slots that live at its head, and behind it. -/
  hint : FuncId → Nat → List Nat × List Nat
  /-- 0: what comes is frozen; 1: a row of the caller's own; 2: a tuple whose first part is one; 3: as if the function's text stood there. -/
  mode : FuncId → Nat
  ext : FuncId → Option (List T → Res T)
  mcap : FuncId → Bool
  /-- Functions that take a row of the caller's own, and hand it back, written on: its elements, by all objects, its elements and the other arguments. -/
  inpl : FuncId → Option (List AObj → List T → List PV → Res (List T))

inductive Ex where
  | norm
  | exit (id : Nat)
  | ret

def Ex.k {γ : Type} (e : Ex) (n : γ) (x : Nat → γ) (r : γ) : γ := match e with
  | .norm => n
  | .exit i => x i
  | .ret => r

/-! ### aliases -/
mutual
def PV.kill (p : Nat → Bool) : PV → PV
  | .own l => bif p l then .junk else .own l
  | .eptr l k i o => bif p l then .junk else .eptr l k i o
  | .view l k lo hi => bif p l then .junk else .view l k lo hi
  | .agg cs => .agg (PV.kills p cs)
  | .tup cs => .tup (PV.kills p cs)
  | .fn f fs cs => .fn f (PV.kills p fs) (PV.kills p cs)
  | q => q
def PV.kills (p : Nat → Bool) : List PV → List PV
  | [] => []
  | q :: r => q.kill p :: PV.kills p r
end
def AObj.kill (p : Nat → Bool) : AObj → AObj
  | .box e n v => .box e n (v.kill p)
  | .vec e k n xs => .vec e k n (PV.kills p xs)
  | o => o
mutual
/-- The objects that a slot's value names. -/
def PV.locs : PV → List Nat
  | .own l => [l]
  | .eptr l _ _ _ => [l]
  | .view l _ _ _ => [l]
  | .ptr l _ => [l]
  | .mp l => [l]
  | .agg cs => PV.locss cs
  | .tup cs => PV.locss cs
  | .fn _ fs cs => PV.locss fs ++ PV.locss cs
  | _ => []
def PV.locss : List PV → List Nat
  | [] => []
  | q :: r => q.locs ++ PV.locss r
end
mutual
/-- The rows. -/
def PV.rows : PV → List Nat
  | .own l => [l]
  | .eptr l _ _ _ => [l]
  | .view l _ _ _ => [l]
  | .agg cs => PV.rowss cs
  | .tup cs => PV.rowss cs
  | .fn _ fs cs => PV.rowss fs ++ PV.rowss cs
  | _ => []
def PV.rowss : List PV → List Nat
  | [] => []
  | q :: r => q.rows ++ PV.rowss r
end
def AObj.locs : AObj → List Nat
  | .box _ _ v => v.locs
  | .vec _ _ _ xs => PV.locss xs
  | .iter m _ _ _ => [m]
  | _ => []
def AObj.rows : AObj → List Nat
  | .box _ _ v => v.rows
  | .vec _ _ _ xs => PV.rowss xs
  | _ => []
mutual
def PV.ren (f : Nat → Nat) : PV → PV
  | .own l => .own (f l)
  | .eptr l k i o => .eptr (f l) k i o
  | .view l k lo hi => .view (f l) k lo hi
  | .ptr l o => .ptr (f l) o
  | .mp l => .mp (f l)
  | .agg cs => .agg (PV.rens f cs)
  | .tup cs => .tup (PV.rens f cs)
  | .fn g fs cs => .fn g (PV.rens f fs) (PV.rens f cs)
  | q => q
def PV.rens (f : Nat → Nat) : List PV → List PV
  | [] => []
  | q :: r => q.ren f :: PV.rens f r
end
def AObj.ren (f : Nat → Nat) : AObj → AObj
  | .box e n v => .box e n (v.ren f)
  | .vec e k n xs => .vec e k n (PV.rens f xs)
  | .iter m a b c => .iter (f m) a b c
  | o => o

-- nil slices become rows of one's own, of no element
mutual
def PV.prom (H : List AObj) : PV → PV × List AObj
  | .nil e k => (.own H.length, H ++ [.row e k []])
  | .agg cs => let r := PV.proms H cs; (.agg r.1, r.2)
  | q => (q, H)
def PV.proms (H : List AObj) : List PV → List PV × List AObj
  | [] => ([], H)
  | q :: r => let a := q.prom H; let b := PV.proms a.2 r; (a.1 :: b.1, b.2)
end
/-- The same in boxes, from number i on, n of them. -/
def promBoxes : Nat → Nat → List AObj → List AObj
  | _, 0, H => H
  | i, n + 1, H => match H[i]? with
    | some (.box e m v) => let r := v.prom H; promBoxes (i + 1) n (r.2.set i (.box e m r.1))
    | _ => promBoxes (i + 1) n H

/-- What can be reached from some objects, in order. -/
def reach (H : List AObj) : Nat → List Nat → List Nat → List Nat
  | 0, _, done => done
  | n + 1, todo, done =>
    let new := (todo.filter fun l => !done.contains l).eraseDups
    match new with
    | [] => done
    | _ => reach H n (new.flatMap fun l => (H.getD l .dead).locs) (done ++ new)

def keepOnly (live : List Nat) (tm : List PV) : List PV := tm.zipIdx.map fun (p, i) => bif live.contains i then p else .junk

/-- The place of a number in a list. -/
def idx : List Nat → Nat → Nat
  | [], _ => 0
  | x :: xs, l => bif x == l then 0 else idx xs l + 1
def nodupB : List Nat → Bool
  | [] => true
  | x :: xs => !xs.contains x && nodupB xs
/-- Is this order one in which a state may be told? -/
def orderOk (base : Nat) (order : List Nat) (tm : List PV) (H : List AObj) : Bool :=
  nodupB order && order.all (fun l => decide (l < H.length) && (H.getD l .dead).locs.all (order.contains ·)) && (PV.locss tm).all (order.contains ·) && order.take base == List.range base && decide (base ≤ order.length)
def tellIn (base : Nat) (order : List Nat) (tm : List PV) (H : List AObj) : St :=
  bif orderOk base order tm H then ⟨PV.rens (idx order) tm, order.map fun l => (H.getD l .dead).ren (idx order)⟩ else ⟨tm, H⟩
/-- A state as it is told at a loop's head: slots that live no more are junk; objects in the order in which they are come to. -/
def canon (base : Nat) (live : List Nat) (st : St) : St :=
  let r := PV.proms st.heap (keepOnly live st.tmps)
  let H := promBoxes 0 st.heap.length r.2
  tellIn base (reach H (H.length + 1) (PV.locss r.1) (List.range base)) r.1 H

/-! ### operands -/
def pvZip (f : TypeId → Value → Option PV) : List TypeId → List Value → Option (List PV)
  | [], [] => some []
  | t :: ts, v :: vs => match f t v, pvZip f ts vs with | some p, some ps => some (p :: ps) | _, _ => none
  | _, _ => none
def pvLeaf (P : Program) (t : TypeId) : Value → Option PV
  | .int k n => bif kindOk k n then some (.t (.int k n)) else none
  | .bool b => some (.t (.bool b))
  | .string s => bif decide (s.size ≤ big) then some (.t (.str s)) else none
  | .pointer none => some (.t .nilp)
  | .nilFunc => some (.t .nilfn)
  | .nilIface => some (.t .nilif)
  | .slice none 0 0 => match elP P t with
    | some e => (szP P e).map (PV.nil e ·)
    | none => none
  | _ => none
def pvConst (P : Program) (t : TypeId) : Value → Option PV
  | .agg vs => match leavesP P 20 t with
    | some ts => (pvZip (pvLeaf P) ts vs.toList).map mkAgg
    | none => none
  | .tuple vs => bif vs.isEmpty then some undefV else none
  | v => pvLeaf P t v
def evalO (P : Program) (tm : List PV) (t : TypeId) : Operand → Option PV
  | .tmp i => some (tm.getD i undefV)
  | .const v => pvConst P t v
  | .global _ => none
  | .func f => some (.t (.fn f [] []))
def evalOs (P : Program) (tm : List PV) (ty : Nat → TypeId) : Nat → List Operand → Option (List PV)
  | _, [] => some []
  | i, o :: r => match evalO P tm (ty i) o, evalOs P tm ty (i + 1) r with | some p, some ps => some (p :: ps) | _, _ => none

section ops
variable {β : Type} (E : Env)

def someO {α γ : Type} (o : Option α) (K : α → Option γ) : Option γ := match o with | some a => K a | none => none
def someK {α : Type} (o : Option α) (K : α → Res β) : Res β := match o with | some a => K a | none => .stuck

/-! ### memory -/
def loadK (st : St) (t : TypeId) (p : PV) (K : PV → Res β) : Res β :=
  match szP E.P t, aggP E.P t with
  | some s, some a =>
    bif !((a && decide (2 ≤ s)) || (!a && s == 1)) then .stuck else
    match p with
    | .ptr l o => match st.heap[l]? with
      | some (.box _ n v) => bif o == 0 && s == n && decide (2 ≤ n) then K v else bif decide (o + s ≤ n) then K (v.part o s a) else .stuck
      | some (.fbox _ n v) => bif o == 0 && s == n then K (.t v) else bif decide (o + s ≤ n) then K (.t (v.partD o s a)) else .stuck
      | _ => .stuck
    | .eptr l k i o => match st.heap[l]? with
      | some (.row _ k' xs) => bif k' == k then (bif o == 0 && s == k then K (.t (xs.getD i .nilp)) else bif decide (o + s ≤ k) then K (.t ((xs.getD i .nilp).partD o s a)) else .stuck) else .stuck
      | some (.frow _ k' xs) => bif k' == k then (bif o == 0 && s == k then K (.t (xs.getD i .nilp)) else bif decide (o + s ≤ k) then K (.t ((xs.getD i .nilp).partD o s a)) else .stuck) else .stuck
      | some (.vec _ k' _ xs) => bif k' == k && decide (o + s ≤ k) then K (bif a then mkAgg ((xs.drop (i * k + o)).take s) else xs.getD (i * k + o) .junk) else .stuck
      | _ => .stuck
    | .rp k x o => bif o == 0 && s == k then K (.t x) else bif decide (o + s ≤ k) then K (.t (x.partD o s a)) else .stuck
    | .t x => ptrT x .stuck fun y => chk (y.cells.length == s) (K (.t y))
    | _ => .stuck
  | _, _ => .stuck

/-- Rows that are read by what has been frozen: nobody writes them any more. -/
def freezeRows (ls : List Nat) (H : List AObj) : List AObj := ls.foldl (fun (H : List AObj) (l : Nat) => match H[l]? with | some (AObj.row e k xs) => H.set l (AObj.frow e k xs) | _ => H) H

def storeK (st : St) (t : TypeId) (p v : PV) (K : St → Res β) : Res β :=
  match szP E.P t, aggP E.P t with
  | some s, some a =>
    bif !((a && decide (2 ≤ s)) || (!a && s == 1)) then .stuck else chk (v.okS s) <|
    match p with
    | .ptr l o => match st.heap[l]? with
      | some (.box e n w) =>
        bif o == 0 && s == n then K ⟨st.tmps, st.heap.set l (.box e n v)⟩ else
        bif decide (o + s ≤ n) then K ⟨st.tmps, st.heap.set l (.box e n (mkAgg ((w.cells n).take o ++ v.cells s ++ (w.cells n).drop (o + s))))⟩ else .stuck
      | _ => .stuck
    | .eptr l k i o => match st.heap[l]? with
      | some (.row e k' xs) => bif !(k' == k) then .stuck else someK (v.frz st.heap) fun y =>
        bif v.rows.contains l then .stuck else
        bif o == 0 && s == k then chk (!(k == 1) || !y.isAgg) (K ⟨st.tmps, (freezeRows v.rows st.heap).set l (.row e k' (xs.set i y))⟩) else
        bif decide (o + s ≤ k) then K ⟨st.tmps, (freezeRows v.rows st.heap).set l (.row e k' (xs.set i ((xs.getD i .nilp).putD o (y.cells))))⟩ else .stuck
      | some (.vec e k' n xs) => bif k' == k && decide (o + s ≤ k) then K ⟨st.tmps, st.heap.set l (.vec e k' n (xs.take (i * k + o) ++ v.cells s ++ xs.drop (i * k + o + s)))⟩ else .stuck
      | _ => .stuck
    | _ => .stuck
  | _, _ => .stuck

/-- The elements of a slice, to be read. -/
def elemsK (st : St) (k : Nat) (p : PV) (K : List T → Res β) : Res β := match p with
  | .nil _ _ => K []
  | .own l => match st.heap[l]? with
    | some (.row _ k' xs) => bif k' == k then K xs else .stuck
    | some (.frow _ k' xs) => bif k' == k then K xs else .stuck
    | _ => .stuck
  | .view l k0 lo hi => match st.heap[l]? with
    | some (.row _ k' xs) => bif k' == k && k0 == k && decide (lo ≤ hi) && decide (hi ≤ xs.length) then K ((xs.take hi).drop lo) else .stuck
    | some (.frow _ k' xs) => bif k' == k && k0 == k && decide (lo ≤ hi) && decide (hi ≤ xs.length) then K ((xs.take hi).drop lo) else .stuck
    | _ => .stuck
  | .full k' xs => bif k' == k then K xs else .stuck
  | .t x => slT k x K
  | _ => .stuck

def indexK (st : St) (t : TypeId) (p : PV) (ix : PV) (K : PV → Res β) : Res β :=
  match elP E.P t with
  | none => .stuck
  | some e => match szP E.P e with
    | none => .stuck
    | some k => match ix with
      | .t iv => anyT iv fun i => match p with
        | .own l => match st.heap[l]? with
          | some (.row _ k' xs) => bif k' == k then chk (decide (0 ≤ i) && decide (i < xs.length)) (K (.eptr l k i.toNat 0)) else .stuck
          | some (.frow _ k' xs) => bif k' == k then chk (decide (0 ≤ i) && decide (i < xs.length)) (K (.eptr l k i.toNat 0)) else .stuck
          | some (.vec _ k' n _) => bif k' == k then chk (decide (0 ≤ i) && decide (i < n)) (K (.eptr l k i.toNat 0)) else .stuck
          | _ => .stuck
        | .view l k0 lo hi => match st.heap[l]? with
          | some (.row _ k' xs) => bif k' == k && k0 == k && decide (hi ≤ xs.length) then chk (decide (0 ≤ i) && decide (lo + i.toNat < hi)) (K (.eptr l k (lo + i.toNat) 0)) else .stuck
          | _ => .stuck
        | .full k' xs => bif k' == k then atT xs i fun e => K (.rp k e 0) else .stuck
        | .t x => slT k x fun xs => atT xs i fun e => K (.rp k e 0)
        | _ => .stuck
      | _ => .stuck

def fieldAddrK (t : TypeId) (f : Nat) (p : PV) (K : PV → Res β) : Res β :=
  match fieldP E.P t f with
  | none => .stuck
  | some (off, ft) => match szP E.P ft with
    | some (_ + 1) => match p with
      | .ptr l o => K (.ptr l (o + off))
      | .eptr l k i o => K (.eptr l k i (o + off))
      | .rp k x o => K (.rp k x (o + off))
      | .t x => match szP E.P t with
        | some n => ptrT x .stuck fun y => chk (y.cells.length == n) (K (.rp n y off))
        | none => .stuck
      | _ => .stuck
    | _ => .stuck

/-! ### arithmetic -/
def arithK (op : BinOp) (k : IntKind) (a b : Int) (K : T → Res β) : Res β := match op with
  | .add => K (.int k (k.wrap (a + b)))
  | .sub => K (.int k (k.wrap (a - b)))
  | .mul => K (.int k (k.wrap (a * b)))
  | .quo => chk (!(b == 0)) (K (.int k (k.wrap (a.tdiv b))))
  | .rem => chk (!(b == 0)) (K (.int k (a.tmod b)))
  | .and => K (.int k (k.wrap (BitVec.ofInt k.bits a &&& BitVec.ofInt k.bits b).toNat))
  | .or => K (.int k (k.wrap (BitVec.ofInt k.bits a ||| BitVec.ofInt k.bits b).toNat))
  | .xor => K (.int k (k.wrap (BitVec.ofInt k.bits a ^^^ BitVec.ofInt k.bits b).toNat))
  | .andNot => K (.int k (k.wrap (BitVec.ofInt k.bits a &&& ~~~ BitVec.ofInt k.bits b).toNat))
  | .eql => K (.bool (a == b))
  | .neq => K (.bool (a != b))
  | .lss => K (.bool (decide (a < b)))
  | .leq => K (.bool (decide (a ≤ b)))
  | .gtr => K (.bool (decide (a > b)))
  | .geq => K (.bool (decide (a ≥ b)))
  | _ => .stuck
def shiftK (op : BinOp) (k : IntKind) (a b : Int) (K : T → Res β) : Res β := match op with
  | .shl => chk (decide (0 ≤ b)) (K (.int k (k.wrap (a * 2 ^ (min b.toNat k.bits)))))
  | .shr => chk (decide (0 ≤ b)) (K (.int k (a.fdiv (2 ^ (min b.toNat k.bits)))))
  | _ => .stuck
/-- Is a type's '==' that of its cells, each a number, a bool or a string? Their kinds. -/
def flatP (P : Program) (t : TypeId) : Option (List Nat) := bif P.eqGuardType P.depth t then none else match eqLv P 20 t, aggP P t, szP P t with
  | some l, some a, some s => bif l.length == s && ((a && decide (2 ≤ s)) || (!a && s == 1)) then some l else none
  | _, _, _ => none
/-- Against nil, by the type's kind: 0 pointers, 1 functions, 2 interfaces, 3 slices. -/
def nilKind (P : Program) (t : TypeId) : Option Nat := match P.underlying t with
  | some (.pointer _) => some 0
  | some (.func _ _ _) => some 1
  | some (.interface _) => some 2
  | some (.slice _) => some 3
  | _ => none
def nilT (k : Nat) (x : T) (K : Bool → Res β) : Res β := match k with
  | 0 => (match x with | .nilp => K true | .ref _ => K false | _ => .stuck)
  | 1 => (match x with | .nilfn => K true | .fn _ _ _ => K false | _ => .stuck)
  | 2 => (match x with | .nilif => K true | .iface _ _ => K false | _ => .stuck)
  | _ => .stuck
def nilK (k : Nat) (p : PV) (K : Bool → Res β) : Res β := match p with
  | .ptr _ _ => bif k == 0 then K false else .stuck
  | .eptr _ _ _ _ => bif k == 0 then K false else .stuck
  | .rp _ _ _ => bif k == 0 then K false else .stuck
  | .fn _ _ _ => bif k == 1 then K false else .stuck
  | .nil _ _ => bif k == 3 then K true else .stuck
  | .t x => nilT k x K
  | _ => .stuck
def isNilC (k : Nat) : Operand → Bool
  | .const (.pointer none) => k == 0
  | .const .nilFunc => k == 1
  | .const .nilIface => k == 2
  | .const (.slice none 0 0) => k == 3
  | _ => false
/-- '==', of two that are no numbers: 'true' where it holds. -/
def eqK (t : TypeId) (x y : Operand) (px py : PV) (K : Bool → Res β) : Res β :=
  match nilKind E.P t with
  | some k => bif isNilC k y then nilK k px K else bif isNilC k x then nilK k py K else .stuck
  | none => someK (flatP E.P t) fun l => (match px, py with | .t a, .t b => eqT l a b K | _, _ => .stuck)
def binK (op : BinOp) (t t' : TypeId) (x y : Operand) (px py : PV) (K : PV → Res β) : Res β :=
  match kindP E.P t with
  | some k => match op with
    | .shl | .shr => match kindP E.P t' with
      | some k' => match px, py with
        | .t a, .t b => iT k a fun a => iT k' b fun b => shiftK op k a b fun r => K (.t r)
        | _, _ => .stuck
      | none => .stuck
    | _ => match px, py with
      | .t a, .t b => iT k a fun a => iT k b fun b => arithK op k a b fun r => K (.t r)
      | _, _ => .stuck
  | none => match op with
    | .eql => eqK E t x y px py fun b => K (.t (.bool b))
    | .neq => eqK E t x y px py fun b => K (.t (.bool !b))
    | _ => .stuck
def unK (op : UnOp) (t : TypeId) (px : PV) (K : PV → Res β) : Res β := match op, px with
  | .not, .t x => bT x fun b => K (.t (.bool !b))
  | .neg, .t x => someK (kindP E.P t) fun k => iT k x fun n => K (.t (.int k (k.wrap (0 - n))))
  | _, _ => .stuck
def convK (src dst : TypeId) (px : PV) (K : PV → Res β) : Res β := match px with
  | .t x => someK (kindP E.P src) fun k => someK (kindP E.P dst) fun k' => iT k x fun n => K (.t (.int k' (k'.wrap n)))
  | _ => .stuck

/-! ### parts of values -/
def partK (s : Nat) (a : Bool) (n o : Nat) (p : PV) (K : PV → Res β) : Res β :=
  bif !((a && decide (2 ≤ s)) || (!a && s == 1)) then .stuck else chk (p.okS n && decide (2 ≤ n) && decide (o + s ≤ n)) (K (p.part o s a))
def arrK (t : TypeId) (p i : PV) (K : PV → Res β) : Res β := match E.P.underlying t with
  | some (.array n e) => match szP E.P e, aggP E.P e, i with
    | some s, some a, .t iv => anyT iv fun i => chk (decide (0 ≤ i) && decide (i < n)) (partK s a (n * s) (i.toNat * s) p K)
    | _, _, _ => .stuck
  | some .string => match p, i with
    | .t pv, .t iv => strT pv fun s => anyT iv fun i => chk (decide (0 ≤ i)) (someK s[i.toNat]? fun b => K (.t (.int .u8 b.toNat)))
    | _, _ => .stuck
  | _ => .stuck
def fldK (t : TypeId) (f : Nat) (p : PV) (K : PV → Res β) : Res β := match fieldP E.P t f with
  | some (off, ft) => match szP E.P ft, aggP E.P ft, szP E.P t with
    | some s, some a, some n => partK s a n off p K
    | _, _, _ => .stuck
  | none => .stuck

/-! ### slices -/
def boundK (n : Nat) (d : Nat) (p : Option PV) (K : Nat → Res β) : Res β := match p with
  | none => K d
  | some (.t x) => anyT x fun i => chk (decide (0 ≤ i) && decide (i ≤ n)) (K i.toNat)
  | some _ => .stuck
/-- A row of one's own, or a part of one. -/
def rowView (H : List AObj) : PV → Option (Nat × Nat × Nat × Nat × Bool)
  | .own l => match H[l]? with
    | some (.row _ k xs) => some (l, k, 0, xs.length, true)
    | _ => none
  | .view l k a b => match H[l]? with
    | some (.row _ _ _) => some (l, k, a, b, false)
    | _ => none
  | _ => none
def rowLen (H : List AObj) (l : Nat) : Nat := match H[l]? with
  | some (.row _ _ xs) => xs.length
  | _ => 0
def sliceK (dr : Bool) (st : St) (t : TypeId) (p : PV) (lo hi mx : Option PV) (K : PV → St → Res β) : Res β :=
  match E.P.underlying t with
  | some .string => match p, mx with
    | .t x, none => strT x fun s => boundK s.size s.size hi fun h => boundK h 0 lo fun l => K (.t (.str (s.extract l h))) st
    | _, _ => .stuck
  | some (.slice e) => match szP E.P e with
    | none => .stuck
    | some k => match rowView st.heap p with
     | some (l, k', a, b, full) => bif !(k' == k) then .stuck else (match mx with
      | none => boundK (rowLen st.heap l - a) (b - a) hi fun h => boundK h 0 lo fun l' => K (.view l k (a + l') (a + h)) st
      | some m => bif hi.isNone || !full then .stuck else boundK b b (some m) fun m => boundK m b hi fun h => boundK h 0 lo fun _ => K .junk st)
     | none => bif dr && !p.rows.isEmpty then .stuck else elemsK st k p fun xs =>
      let H := freezeRows p.rows st.heap
      match mx with
      | none => boundK xs.length xs.length hi fun h => boundK h 0 lo fun l => K (.t (.sl k ((xs.take h).drop l))) ⟨st.tmps, H⟩
      | some m => bif hi.isNone then .stuck else boundK xs.length xs.length (some m) fun m => boundK m xs.length hi fun h => boundK h 0 lo fun l =>
          bif decide (m = h) then K (.full k ((xs.take h).drop l)) ⟨st.tmps, H⟩ else K (.t (.sl k ((xs.take h).drop l))) ⟨st.tmps, H⟩
  | _ => .stuck

/-- Elements of a row of one's own are written anew: from place a on. -/
def spliceT (xs : List T) (a : Nat) (ys : List T) : List T := xs.take a ++ ys ++ xs.drop (a + ys.length)
/-- Is a type's zero known, and has it so many cells? -/
def zeroOk (P : Program) (e : TypeId) (k : Nat) : Bool := match (P.info? e).bind (·.zero) with | some z => z.cells.size == k | none => false
def appendK (st : St) (t t' : TypeId) (s x : PV) (K : PV → St → Res β) : Res β :=
  match elP E.P t with
  | some e => match szP E.P e, byP E.P e with
    | some (k + 1), some (b + 1) => bif t == t' && zeroOk E.P e (k + 1) then elemsK st (k + 1) x fun ys => match s with
      | .nil _ _ => chk (decide (ys.length * (b + 1) ≤ big)) (K (.own st.heap.length) ⟨st.tmps, st.heap ++ [.row e (k + 1) ys]⟩)
      | .own l => match st.heap[l]? with
        | some (.row e₀ k₀ xs) => bif e₀ == e && k₀ == k + 1 then
            chk (decide ((xs.length + ys.length) * (b + 1) ≤ big)) (K (.own l) ⟨PV.kills (· == l) st.tmps, (st.heap.map (AObj.kill (· == l))).set l (.row e (k + 1) (xs ++ ys))⟩) else .stuck
        | _ => .stuck
      | .view l k0 lo hi => match st.heap[l]? with
        | some (.row e₀ k₀ xs) => bif e₀ == e && k₀ == k + 1 && k0 == k + 1 then
            chk (decide (lo ≤ hi) && decide (hi + ys.length ≤ xs.length)) (K (.view l k0 lo (hi + ys.length)) ⟨st.tmps, st.heap.set l (.row e (k + 1) (spliceT xs hi ys))⟩) else .stuck
        | _ => .stuck
      | .full k₀ xs => bif k₀ == k + 1 then chk (decide ((xs.length + ys.length) * (b + 1) ≤ big)) (K (.t (.sl (k + 1) (xs ++ ys))) st) else .stuck
      | _ => .stuck
      else .stuck
    | _, _ => .stuck
  | _ => .stuck

def clearK (st : St) (t : TypeId) (p : PV) (K : St → Res β) : Res β :=
  match elP E.P t with
  | some e => match szP E.P e, ((E.P.info? e).bind (·.zero)).bind (pvConst E.P e) with
    | some (k + 1), some z => someK (z.frz []) fun z => chk (zeroOk E.P e (k + 1) && z.okE (k + 1)) <|
      match rowView st.heap p with
      | some (l, k', a, b, _) => match st.heap[l]? with
        | some (.row e₀ k₀ xs) => bif e₀ == e && k₀ == k + 1 && k' == k + 1 then chk (decide (a ≤ b) && decide (b ≤ xs.length)) (K ⟨st.tmps, st.heap.set l (.row e (k + 1) (spliceT xs a (List.replicate (b - a) z)))⟩) else .stuck
        | _ => .stuck
      | none => .stuck
    | _, _ => .stuck
  | none => .stuck
/-- copy, onto a row of one's own. -/
def copyK (st : St) (t t' : TypeId) (p x : PV) (K : PV → St → Res β) : Res β :=
  match elP E.P t with
  | some e => match szP E.P e with
    | some (k + 1) => bif t == t' then elemsK st (k + 1) x fun ys =>
      match rowView st.heap p with
      | some (l, k', a, b, _) => match st.heap[l]? with
        | some (.row e₀ k₀ xs) => bif e₀ == e && k₀ == k + 1 && k' == k + 1 then chk (decide (a ≤ b) && decide (b ≤ xs.length))
            (K (.t (.int .i64 (min ys.length (b - a) : Nat))) ⟨st.tmps, st.heap.set l (.row e (k + 1) (spliceT xs a (ys.take (b - a))))⟩) else .stuck
        | _ => .stuck
      | none => .stuck
      else .stuck
    | _ => .stuck
  | none => .stuck
def makeSliceK (st : St) (t : TypeId) (n c : PV) (K : PV → St → Res β) : Res β :=
  match elP E.P t, n, c with
  | some e, .t n, .t c => match szP E.P e, byP E.P e, ((E.P.info? e).bind (·.zero)).bind (pvConst E.P e) with
    | some (k + 1), some (b + 1), some z => someK (z.frz []) fun z => iT .i64 n fun n => iT .i64 c fun c =>
      chk (zeroOk E.P e (k + 1) && z.okE (k + 1)) <| chk (decide (0 ≤ n) && decide (n ≤ c) && decide (c.toNat * (b + 1) ≤ big)) (K (.own st.heap.length) ⟨st.tmps, st.heap ++ [.row e (k + 1) (List.replicate n.toNat z)]⟩)
    | _, _, _ => .stuck
  | _, _, _ => .stuck

/-! ### maps -/
def mapP (P : Program) (t : TypeId) : Option (TypeId × TypeId) := match P.underlying t with | some (.map k e) => some (k, e) | _ => none
/-- Keys are whole numbers, or structs of whole numbers: the kinds of their cells. -/
def keyP (P : Program) (t : TypeId) : Option (List Nat) := match P.underlying t with
  | some (.int _) => some [0]
  | some (.struct fs) => bif fs.toList.all (fun f => (kindP P f.type).isSome) then someO (flatP P t) fun l => bif decide (2 ≤ l.length) && l.all (· == 0) then some l else none else none
  | _ => none
def keyS : List Nat → T → Bool
  | [_], .int _ _ => true
  | _ :: _ :: _, .agg _ => true
  | _, _ => false
def T.isInt : T → Bool
  | .int _ _ => true
  | _ => false
def keyT (l : List Nat) (k : T) : Bool := keyS l k && ((k.flat l).length == l.length && (k.flat l).all T.isInt)
/-- The place of a key, what is there, and its stamp. -/
def findE (l : List Nat) (k : T) : List (T × T × Nat) → Nat → Option (Option (Nat × T × Nat))
  | [], _ => some none
  | e :: r, i => match T.eqLs l (k.flat l) (e.1.flat l) with
    | some true => some (some (i, e.2.1, e.2.2))
    | some false => findE l k r (i + 1)
    | none => none
def entK (l : List Nat) (k : T) (es : List (T × T × Nat)) (Kn : Res β) (K : Nat → T → Nat → Res β) : Res β := match findE l k es 0 with
  | some none => Kn
  | some (some (i, v, b)) => K i v b
  | none => .stuck
def zeroT (P : Program) (t : TypeId) : Option T := (((P.info? t).bind (·.zero)).bind (pvConst P t)).bind (PV.frz [])
/-- A map of one's own, and a key. -/
def mapK (st : St) (t : TypeId) (p ix : PV) (K : List Nat → Nat → List (T × T × Nat) → Nat → T → Res β) : Res β := match mapP E.P t with
  | some (kt, _) => someK (keyP E.P kt) fun l => match p, ix with
    | .mp m, .t k => match st.heap[m]? with
      | some (.map es c) => chk (keyT l k) (K l m es c k)
      | _ => .stuck
    | _, _ => .stuck
  | none => .stuck
def lookR (ok : Bool) (v : T) (b : Bool) : PV := bif ok then .t (.tup [v, .bool b]) else .t v
def elT (P : Program) (t : TypeId) : Option T := match mapP P t with | some (_, e) => zeroT P e | none => none
def lookupK (st : St) (t : TypeId) (p ix : PV) (ok : Bool) (K : PV → Res β) : Res β :=
  someK (elT E.P t) fun z => mapK E st t p ix fun l _ es _ k => entK l k es (K (lookR ok z false)) fun _ v _ => K (lookR ok v true)
def mapSetK (st : St) (t : TypeId) (p ix v : PV) (K : St → Res β) : Res β :=
  mapK E st t p ix fun l m es c k => someK (v.frz st.heap) fun x => bif v.rows.isEmpty then
    entK l k es (K ⟨st.tmps, st.heap.set m (.map (es ++ [(k, x, c)]) (c + 1))⟩) fun i _ b => K ⟨st.tmps, st.heap.set m (.map (es.set i (k, x, b)) c)⟩ else .stuck
def mapEntryK (st : St) (t : TypeId) (p ix : PV) (K : PV → St → Res β) : Res β :=
  someK (elT E.P t) fun z => mapK E st t p ix fun l m es c k =>
    entK l k es (chk (decide (c ≤ big)) (K (.t (.tup [z, .int .i64 (c : Int)])) ⟨st.tmps, st.heap.set m (.map (es ++ [(k, z, c)]) (c + 1))⟩)) fun _ v b => chk (decide (b ≤ big)) (K (.t (.tup [v, .int .i64 (b : Int)])) st)
def stampE (es : List (T × T × Nat)) (n : Int) : Option Nat := es.findIdx? fun e => (e.2.2 : Int) == n
def entryStoreK (st : St) (p s v : PV) (K : St → Res β) : Res β := match p, s with
  | .mp m, .t n => iT .i64 n fun n => match st.heap[m]? with
    | some (.map es c) => someK (v.frz st.heap) fun x => bif v.rows.isEmpty then someK (stampE es n) fun i => match es[i]? with
      | some (k, _, b) => K ⟨st.tmps, st.heap.set m (.map (es.set i (k, x, b)) c)⟩
      | none => .stuck
      else .stuck
    | _ => .stuck
  | _, _ => .stuck
def deleteK (st : St) (t : TypeId) (p ix : PV) (K : St → Res β) : Res β :=
  mapK E st t p ix fun l m es c k => entK l k es (K st) fun i _ _ => K ⟨st.tmps, st.heap.set m (.map (es.eraseIdx i) c)⟩

/-! ### literals -/
/-- The parts of a struct or array laid into cells. -/
def fillK (n : Nat) (place : Nat → Option (Nat × Nat)) : List PV → List (Nat × PV) → (List PV → Res β) → Res β
  | cs, [], K => K cs
  | cs, (i, p) :: r, K => match place i with
    | some (o, s) => bif decide (o + s ≤ n) then chk (p.okS s) (fillK n place (cs.take o ++ p.cells s ++ cs.drop (o + s)) r K) else .stuck
    | none => .stuck
def placesP (P : Program) (t : TypeId) : Option (Nat → Option (Nat × Nat)) := match P.underlying t with
  | some (.struct fs) => (fs.toList.mapM (fun f => (P.info? f.type).map fun i => (f.offset, i.size))).map fun places i => places[i]?
  | some (.array _ e) => (P.info? e).map fun ie i => some (i * ie.size, ie.size)
  | _ => none
def buildK (t : TypeId) (parts : List (Nat × PV)) (K : PV → Res β) : Res β :=
  match szP E.P t, ((E.P.info? t).bind (·.zero)).bind (pvConst E.P t) with
  | some n, some z => someK (placesP E.P t) fun place => chk (z.okS n) (fillK n place (z.cells n) parts fun cs => K (mkAgg cs))
  | _, _ => .stuck
def buildSliceK (dr : Bool) (st : St) (t : TypeId) (n : Nat) (parts : List (Nat × PV)) (K : PV → St → Res β) : Res β :=
  match elP E.P t with
  | some e => match szP E.P e with
    | some (k + 1) =>
      bif !(decide (n * (k + 1) ≤ 1024) && zeroOk E.P e (k + 1) && parts.map (·.1) == List.range n) then .stuck else
      let els := parts.map (·.2)
      match PV.frzs st.heap els with
      | some xs => bif dr && !(PV.rowss els).isEmpty then .stuck else
        chkAll (T.okE (k + 1)) xs (bif dr then K (.full (k + 1) xs) st else K (.own st.heap.length) ⟨st.tmps, freezeRows (PV.rowss els) st.heap ++ [.row e (k + 1) xs]⟩)
      | none => bif k == 0 && !dr then chkAll (fun p => p.okS 1 && !(p matches .agg _) && !(match p with | .t x => x.isAgg | _ => false)) els (K (.own st.heap.length) ⟨st.tmps, st.heap ++ [.vec e 1 els.length els]⟩) else .stuck
    | _ => .stuck
  | none => .stuck
end ops

end Go.Sim

/- The interpreter: one operation, regions, code, calls. -/
namespace Go.Sim
open Go.RowKit

structure Caller where
  pure : FuncId → List T → Res T
  go : (β : Type) → FuncId → List PV → List AObj → (PV → List AObj → Res β) → Res β

section
variable {β : Type} (E : Env) (rc : Caller)

/-- Do a function's results lead to no memory? -/
def retFree (f : FuncId) : Bool := match E.P.funcs[f]? with
  | some fn => fn.resultTypes.toList.all (freeP E.P 20)
  | none => false
/-- The element type of a function's first result, and its cells. -/
def retRow (f : FuncId) : Option (TypeId × Nat) := match E.P.funcs[f]? with
  | some fn => (fn.resultTypes[0]?).bind fun t => (elP E.P t).bind fun e => (szP E.P e).map fun k => (e, k)
  | none => none
def retCount (f : FuncId) : Nat := match E.P.funcs[f]? with | some fn => fn.resultTypes.size | none => 0

def compsK (x : T) (i : Nat) : Nat → (List PV → Res β) → Res β
  | 0, K => K []
  | n + 1, K => compT x i fun y => compsK x (i + 1) n fun ys => K (.t y :: ys)

/-- What a callee may come to: the rows that its arguments and the boxes name. -/
def exposed (args : List PV) (H : List AObj) : List Nat := PV.rowss args ++ H.flatMap AObj.rows
def hideRows (ex : List Nat) (H : List AObj) : List AObj := H.zipIdx.map fun (o, i) => match o with
  | .row e k xs => bif ex.contains i then .row e k xs else .dead
  | o => o
def showRows (ex : List Nat) (H H' : List AObj) : List AObj := H'.zipIdx.map fun (o, i) => match H[i]? with
  | some (.row e k xs) => bif ex.contains i then o else .row e k xs
  | _ => o

/-- A part of a row that comes of a call, and begins where the row does, becomes the row itself. -/
def trimK (p : PV) (st : St) (K : PV → St → Res β) : Res β := match p with
  | .view l k 0 hi => (match st.heap[l]? with
    | some (.row e k' xs) => bif k' == k && decide (hi ≤ xs.length) then K (.own l) ⟨PV.kills (· == l) st.tmps, (st.heap.map (AObj.kill (· == l))).set l (.row e k (xs.take hi))⟩ else K p st
    | _ => K p st)
  | _ => K p st

/-- A call that writes on a row of the caller's own; nil is an own row of no elements. -/
def inplO (dr : Bool) (f : FuncId) (g : List AObj → List T → List PV → Res (List T)) (l : Nat) (rest : List PV) (st : St) (K : PV → St → Res β) : Res β := match st.heap[l]? with
  | some (.row e k xs) => bif !dr && retRow E f == some (e, k) && !(PV.rowss rest).contains l then
      (g st.heap xs rest).bind fun ys => K (.own l) ⟨PV.kills (· == l) st.tmps, ((freezeRows (PV.rowss rest) st.heap).map (AObj.kill (· == l))).set l (.row e k ys)⟩ else .stuck
  | _ => .stuck
def inplK (dr : Bool) (f : FuncId) (g : List AObj → List T → List PV → Res (List T)) (args : List PV) (st : St) (K : PV → St → Res β) : Res β := match args with
  | .own l :: rest => inplO E dr f g l rest st K
  | .nil _ _ :: rest => match retRow E f with
    | some (e, k) => inplO E dr f g st.heap.length rest ⟨st.tmps, st.heap ++ [.row e k []]⟩ K
    | none => .stuck
  | _ => .stuck

def callK (dr : Bool) (f : FuncId) (args : List PV) (st : St) (K : PV → St → Res β) : Res β :=
  match E.inpl f with
  | some g => inplK E dr f g args st K
  | none =>
  match bif E.mode f == 3 then none else PV.frzs st.heap args with
  | some ts =>
    let rows := PV.rowss args
    match E.mode f with
    | 0 => (rc.pure f ts).bind fun x =>
      bif rows.isEmpty then K (.t x) st else bif retFree E f then chk x.plain (K (.t x) st) else bif dr then .stuck else K (.t x) ⟨st.tmps, freezeRows rows st.heap⟩
    | 1 => bif dr then .stuck else someK (retRow E f) fun (e, k) => (rc.pure f ts).bind fun x => slT k x fun xs =>
      K (.own st.heap.length) ⟨st.tmps, freezeRows rows st.heap ++ [.row e k xs]⟩
    | _ => bif dr then .stuck else someK (retRow E f) fun (e, k) => (rc.pure f ts).bind fun x => compT x 0 fun y => slT k y fun xs => compsK x 1 (retCount E f - 1) fun ys =>
      K (.tup (.own st.heap.length :: ys)) ⟨st.tmps, freezeRows rows st.heap ++ [.row e k xs]⟩
  | none => bif dr || (E.ext f).isSome then .stuck else
    let ex := exposed args st.heap
    rc.go β f args (hideRows ex st.heap) fun r H' => trimK r ⟨PV.kills (ex.contains ·) st.tmps, showRows ex st.heap H'⟩ K

/-- A call through a function value that is a tree. -/
def apK (x : T) (ts : List T) (K : T → Res β) : Res β := match x with
  | .fn g fs cs => bif E.mode g == 0 then (rc.pure g (fs ++ ts ++ cs)).bind K else .stuck
  | _ => .stuck

def funcOf : Fn → Option FuncId
  | .func f => some f
  | _ => none

/-- A captured variable, frozen. -/
def capture (H : List AObj) : PV → Option (T × List AObj)
  | .ptr l 0 => match H[l]? with
    | some (.box e n v) => match v.frz H with
      | some x => bif x.cells.length == n && (!(n == 1) || !x.isAgg) then some (.ref x, (freezeRows v.rows H).set l (.fbox e n x)) else none
      | none => none
    | some (.fbox _ _ x) => some (.ref x, H)
    | _ => none
  | .t x => some (x, H)
  | _ => none
def captures (H : List AObj) : List PV → Option (List T × List AObj)
  | [] => some ([], H)
  | p :: r => match capture H p with
    | some (x, H1) => match captures H1 r with
      | some (xs, H2) => some (x :: xs, H2)
      | none => none
    | none => none

def minmax (mx : Bool) : List Int → Int → Int
  | [], m => m
  | x :: r, m => minmax mx r (bif mx then (if x > m then x else m) else (if x < m then x else m))
def intsK (k : IntKind) : List PV → (List Int → Res β) → Res β
  | [], K => K []
  | .t x :: r, K => iT k x fun n => intsK k r fun ns => K (n :: ns)
  | _ :: _, _ => .stuck

def builtinK (b : Builtin) (tys : List TypeId) (args : List PV) (st : St) (K : PV → St → Res β) : Res β :=
  match b, tys, args with
  | .len, [t], [p] => match E.P.underlying t with
    | some (.slice _) => (match p with
      | .nil _ _ => K (.t (.int .i64 0)) st
      | .own l => match st.heap[l]? with
        | some (.row _ _ xs) => K (.t (.int .i64 xs.length)) st
        | some (.frow _ _ xs) => K (.t (.int .i64 xs.length)) st
        | some (.vec _ _ n _) => K (.t (.int .i64 n)) st
        | _ => .stuck
      | .view _ _ lo hi => K (.t (.int .i64 ((hi - lo : Nat) : Int))) st
      | .full _ xs => K (.t (.int .i64 xs.length)) st
      | .t x => sllT x fun n => K (.t (.int .i64 n)) st
      | _ => .stuck)
    | some .string => (match p with
      | .t x => strT x fun s => K (.t (.int .i64 s.size)) st
      | _ => .stuck)
    | some (.map _ _) => (match p with
      | .mp l => (match st.heap[l]? with
        | some (.map es _) => chk (decide (es.length ≤ big)) (K (.t (.int .i64 es.length)) st)
        | _ => .stuck)
      | _ => .stuck)
    | _ => .stuck
  | .append, [t, t'], [s, x] => appendK E st t t' s x K
  | .delete, [t, _], [p, i] => deleteK E st t p i fun st => K undefV st
  | .clear, [t], [p] => clearK E st t p fun st => K undefV st
  | .copy, [t, t'], [p, x] => copyK E st t t' p x K
  | .max, t :: _, .t x :: r => someK (kindP E.P t) fun k => iT k x fun n => intsK k r fun ns => K (.t (.int k (minmax true ns n))) st
  | .min, t :: _, .t x :: r => someK (kindP E.P t) fun k => iT k x fun n => intsK k r fun ns => K (.t (.int k (minmax false ns n))) st
  | _, _, _ => .stuck

/-- No interface. -/
def concP (P : Program) (t : TypeId) : Bool := match P.underlying t with | some (.interface _) => false | some _ => true | none => false
def partsOf (P : Program) (tm : List PV) (ty : Nat → TypeId) : List (Nat × Operand) → Option (List (Nat × PV))
  | [] => some []
  | (i, o) :: r => match evalO P tm (ty i) o, partsOf P tm ty r with | some p, some ps => some ((i, p) :: ps) | _, _ => none
def optO (P : Program) (tm : List PV) : Option Operand → Option (Option PV)
  | none => some none
  | some o => (evalO P tm 0 o).map some

def opK (dr : Bool) (o : Oper) (st : St) (K : PV → St → Res β) : Res β :=
  match o.op with
  | .move x => someK (evalO E.P st.tmps o.type x) fun p => K p st
  | .assign x => someK (evalO E.P st.tmps o.type x) fun p => K p st
  | .pick c a b => someK (evalO E.P st.tmps 0 c) fun c => match c with
    | .t x => bT x fun c => bif c then someK (evalO E.P st.tmps o.type a) fun p => K p st else someK (evalO E.P st.tmps o.type b) fun p => K p st
    | _ => .stuck
  | .alloc e => someK (szP E.P e) fun n => someK (((E.P.info? e).bind (·.zero)).bind (pvConst E.P e)) fun z =>
    chk (zeroOk E.P e n && z.okS n) (K (.ptr st.heap.length 0) ⟨st.tmps, st.heap ++ [.box e n z]⟩)
  | .box e x => someK (szP E.P e) fun n => someK (evalO E.P st.tmps e x) fun p =>
    chk (p.okS n) (K (.ptr st.heap.length 0) ⟨st.tmps, st.heap ++ [.box e n p]⟩)
  | .build t parts => someK (partsOf E.P st.tmps (fun i => (match E.P.underlying t with | some (.array _ e) => e | _ => ((fieldP E.P t i).map (·.2)).getD 0)) parts.toList) fun ps =>
    buildK E t ps fun p => K p st
  | .buildSlice t n parts => someK (partsOf E.P st.tmps (fun _ => (elP E.P t).getD 0) parts.toList) fun ps =>
    buildSliceK E dr st t n ps K
  | .load t a => someK (evalO E.P st.tmps 0 a) fun p => loadK E st t p fun v => K v st
  | .store t a x => someK (evalO E.P st.tmps 0 a) fun p => someK (evalO E.P st.tmps t x) fun v => storeK E st t p v fun st => K undefV st
  | .makeMap _ r => bif r.isNone then K (.mp st.heap.length) ⟨st.tmps, st.heap ++ [.map [] 0]⟩ else .stuck
  | .lookup t x ix ok => someK (evalO E.P st.tmps t x) fun p => someK (evalO E.P st.tmps 0 ix) fun i => lookupK E st t p i ok fun q => K q st
  | .mapUpdate t m k x => someK (evalO E.P st.tmps t m) fun p => someK (evalO E.P st.tmps 0 k) fun i => someK (evalO E.P st.tmps 0 x) fun v => mapSetK E st t p i v fun st => K undefV st
  | .insert t m k x => someK (evalO E.P st.tmps t m) fun p => someK (evalO E.P st.tmps 0 k) fun i => someK (evalO E.P st.tmps 0 x) fun v => mapSetK E st t p i v fun st => K undefV st
  | .mapEntry t m k => someK (evalO E.P st.tmps t m) fun p => someK (evalO E.P st.tmps 0 k) fun i => mapEntryK E st t p i K
  | .entryStore t m s x => someK (evalO E.P st.tmps t m) fun p => someK (evalO E.P st.tmps 0 s) fun i => someK (evalO E.P st.tmps 0 x) fun v => entryStoreK st p i v fun st => K undefV st
  | .nilCheck x => someK (evalO E.P st.tmps 0 x) fun p => match p with
    | .ptr _ _ => K p st
    | .eptr _ _ _ _ => K p st
    | .rp _ _ _ => K p st
    | .t x => ptrT x .stuck fun _ => K p st
    | _ => .stuck
  | .binOp op t x y t' => someK (evalO E.P st.tmps t x) fun px => someK (evalO E.P st.tmps t' y) fun py => binK E op t t' x y px py fun p => K p st
  | .unOp op t x => someK (evalO E.P st.tmps t x) fun p => unK E op t p fun p => K p st
  | .convert s d x => someK (evalO E.P st.tmps s x) fun p => convK E s d p fun p => K p st
  | .makeInterface t x => bif !concP E.P t then .stuck else someK (evalO E.P st.tmps t x) fun p => someK (p.frz st.heap) fun x => bif p.rows.isEmpty then K (.t (.iface t x)) st else bif dr then .stuck else K (.t (.iface t x)) ⟨st.tmps, freezeRows p.rows st.heap⟩
  | .makeFunc fn first captured => someK (funcOf fn) fun f =>
    someK (evalOs E.P st.tmps (fun _ => 0) 0 first.toList) fun fs => someK (evalOs E.P st.tmps (fun _ => 0) 0 captured.toList) fun cs =>
      bif E.mcap f then K (.fn f fs cs) st else someK (captures st.heap fs) fun (xs, H1) => someK (captures H1 cs) fun (ys, H2) => K (.t (.fn f xs ys)) ⟨st.tmps, H2⟩
  | .makeSlice t n c => someK (evalO E.P st.tmps 0 n) fun n => someK (evalO E.P st.tmps 0 c) fun c => makeSliceK E st t n c K
  | .slice t x lo hi mx => someK (evalO E.P st.tmps t x) fun p => someK (optO E.P st.tmps lo) fun lo => someK (optO E.P st.tmps hi) fun hi => someK (optO E.P st.tmps mx) fun mx =>
    sliceK E dr st t p lo hi mx K
  | .fieldAddr t x f => someK (evalO E.P st.tmps 0 x) fun p => fieldAddrK E t f p fun p => K p st
  | .indexAddr t x ix => someK (evalO E.P st.tmps t x) fun p => someK (evalO E.P st.tmps 0 ix) fun i => indexK E st t p i fun p => K p st
  | .index t x ix => someK (evalO E.P st.tmps t x) fun p => someK (evalO E.P st.tmps 0 ix) fun i => arrK E t p i fun q => K q st
  | .field t x f => someK (evalO E.P st.tmps t x) fun p => fldK E t f p fun q => K q st
  | .extract x i => someK (evalO E.P st.tmps 0 x) fun p => match p with
    | .tup ps => someK ps[i]? fun q => K q st
    | .t x => compT x i fun y => K (.t y) st
    | _ => .stuck
  | .call c => match c.callee with
    | .builtin b => someK (evalOs E.P st.tmps (fun i => c.argTypes.getD i 0) 0 c.args.toList) fun args => builtinK E b c.argTypes.toList args st K
    | .value (.func f) => someK (evalOs E.P st.tmps (fun i => c.argTypes.getD i 0) 0 c.args.toList) fun args => callK E rc dr f args st K
    | .value fo => someK (evalO E.P st.tmps 0 fo) fun p => someK (evalOs E.P st.tmps (fun i => c.argTypes.getD i 0) 0 c.args.toList) fun args => match p with
      | .t x => someK (PV.frzs st.heap args) fun ts => bif (PV.rowss args).isEmpty then apK E rc x ts fun r => K (.t r) st else .stuck
      | .fn f fs cs => callK E rc dr f (fs ++ args ++ cs) st K
      | _ => .stuck
    | _ => .stuck
  | _ => .stuck

def setT (tm : List PV) (d : Option Tmp) (p : PV) : List PV := match d with | some d => tm.set d p | none => tm

/-- Operations in the text's order; a flag with each: it may come up beside another one. -/
def opsK (ops : Array Oper) : List (Oper × Bool) → St → (St → Res β) → Res β
  | [], st, K => K st
  | (o, dr) :: r, st, K =>
    match o.guard with
    | none => opK E rc dr o st fun p st' => opsK ops r ⟨setT st'.tmps o.dst p, st'.heap⟩ K
    | some (j, want) =>
      match (ops[j]?).bind (·.dst) with
      | none => opsK ops r ⟨setT st.tmps o.dst undefV, st.heap⟩ K
      | some d => match st.tmps.getD d .junk with
        | .tup [] => opsK ops r ⟨setT st.tmps o.dst undefV, st.heap⟩ K
        | .t x => bT x fun b =>
          bif b then (bif want then opK E rc dr o ⟨st.tmps.set d (.t (.bool true)), st.heap⟩ fun p st' => opsK ops r ⟨setT st'.tmps o.dst p, st'.heap⟩ K
            else opsK ops r ⟨setT (st.tmps.set d (.t (.bool true))) o.dst undefV, st.heap⟩ K)
          else (bif want then opsK ops r ⟨setT (st.tmps.set d (.t (.bool false))) o.dst undefV, st.heap⟩ K
            else opK E rc dr o ⟨st.tmps.set d (.t (.bool false)), st.heap⟩ fun p st' => opsK ops r ⟨setT st'.tmps o.dst p, st'.heap⟩ K)
        | _ => .stuck
end

/-! ### orders that are left open -/
/-- An operation that leaves memory as it is (in a region that draws its order). -/
def quietOp : Op → Bool
  | .move _ | .assign _ | .pick .. | .build .. | .buildSlice .. | .load .. | .lookup .. | .nilCheck _ | .binOp .. | .unOp .. | .convert .. | .makeInterface .. | .slice .. | .fieldAddr ..
  | .indexAddr .. | .index .. | .field .. | .extract .. => true
  | .call c => match c.callee with
    | .builtin b => !(b matches .append) && !(b matches .clear) && !(b matches .copy) && !(b matches .delete)
    | _ => true
  | _ => false
/-- Does not look at memory. -/
def heapless : Op → Bool
  | .move _ | .assign _ | .pick .. | .binOp .. | .unOp .. | .convert .. | .extract .. => true
  | _ => false
def lookSame (t : TypeId) (m k : Nat) : Op → Bool
  | .lookup t' (.tmp m') (.tmp k') ok => !ok && t' == t && m' == m && k' == k
  | _ => false
/-- 'x' may stand on either side of 'y', which makes an entry of a map. -/
def entryPair (x y : Op) : Bool := match y with
  | .mapEntry t (.tmp m) (.tmp k) => heapless x || lookSame t m k x
  | _ => false
/-- Writes on memory; copy too. -/
def isStore : Op → Bool
  | .store .. => true
  | .call c => match c.callee with
    | .builtin b => (b matches .copy)
    | _ => false
  | _ => false
/-- Reads at most what is there already. -/
def plainOp : Op → Bool
  | .move _ | .assign _ | .pick .. | .build .. | .load .. | .nilCheck _ | .binOp .. | .unOp .. | .convert .. | .fieldAddr .. | .indexAddr .. | .index .. | .field .. | .extract .. => true
  | .call c => match c.callee with
    | .value (.func _) => true
    | _ => false
  | _ => false
def isAlloc : Op → Bool
  | .alloc _ => true
  | _ => false
/-- Two of which either may come first. -/
def besidePair (x y : Op) : Bool := entryPair x y || (isStore y && heapless x || isStore x && heapless y) || (isAlloc y && plainOp x)
/-- In a region that draws its order: which operations have no place of their own; 'none': one of them is not quiet, or names what another one names. -/
def ordered (b : Array Nat) (i j : Nat) : Bool := (b.getD j 0).testBit i || (b.getD i 0).testBit j
def beside (b : Array Nat) (n i : Nat) : Bool := (List.range n).any fun j => !(i == j) && !ordered b i j
def drawOk (ops : Array Oper) : Bool :=
  let b := Region.before ops
  let l := ops.toList.zipIdx
  (l.all fun (o, i) => o.after.all fun e => !Region.binds .any e || decide (e.on < i)) && l.all fun (y, j) => l.all fun (x, i) => !decide (i < j) || (b.getD j 0).testBit i || (!(b.getD i 0).testBit j && (quietOp x.op && quietOp y.op || besidePair x.op y.op) && x.apart ops y)
def drawFlags (ops : Array Oper) : List (Oper × Bool) := let b := Region.before ops; ops.toList.zipIdx.map fun (o, i) => (o, beside b ops.size i)

def firstRegion : Code → Nat
  | .region id _ _ => id
  | .seq a _ => firstRegion a
  | .block _ c => firstRegion c
  | .loop c => firstRegion c
  | .cond _ a _ => firstRegion a
  | .scope c => firstRegion c
  | _ => 0

def iterR (B : St → Res (Ex × St)) : Nat → St → Res (Ex × St)
  | 0, _ => .stuck
  | n + 1, st => (B st).bind fun p => p.1.k (iterR B n p.2) (fun i => .ok (.exit i, p.2)) (.ok (.ret, p.2))

def resTmps (fn : Func) : List Nat := fn.results.toList.map fun | .tmp t => t | .cell a _ => a

/-- What a function hands back. -/
def resultsK {β : Type} (E : Env) (st : St) : List ResultVar → (List PV → Res β) → Res β
  | [], K => K []
  | .tmp t :: r, K => resultsK E st r fun ps => K (st.tmps.getD t undefV :: ps)
  | .cell a t :: r, K => loadK E st t (st.tmps.getD a undefV) fun p => resultsK E st r fun ps => K (p :: ps)

section
variable (E : Env) (rc : Caller) (f : FuncId) (fn : Func) (n : Nat) (base : Nat)

def codeK : {β : Type} → Code → St → (Ex → St → Res β) → Res β
  | _, .skip, st, K => K .norm st
  | _, .region _ ops dr, st, K => bif dr then (bif drawOk ops then opsK E rc ops (drawFlags ops) st fun st => K .norm st else .stuck) else opsK E rc ops (ops.toList.map fun o => (o, false)) st fun st => K .norm st
  | _, .seq a b, st, K => codeK a st fun e st => e.k (codeK b st K) (fun i => K (.exit i) st) (K .ret st)
  | _, .cond c a b, st, K => someK (evalO E.P st.tmps 0 c) fun p => match p with
    | .t x => bT x fun v => bif v then codeK a st K else codeK b st K
    | _ => .stuck
  | _, .block id c, st, K => codeK c st fun e st => e.k (K .norm st) (fun i => if i = id then K .norm st else K (.exit i) st) (K .ret st)
  | _, .loop c, st, K =>
    (iterR (fun st => codeK c st fun e st => e.k (.ok (.norm, canon base (E.hint f (firstRegion c)).1 st))
      (fun i => .ok (.exit i, canon base (E.hint f (firstRegion c)).2 st)) (.ok (.ret, canon base (resTmps fn) st))) n (canon base (E.hint f (firstRegion c)).1 st)).bind fun p => K p.1 p.2
  | _, .exit id, st, K => K (.exit id) st
  | _, .scope c, st, K => codeK c st K
  | _, .label _, st, K => K .norm st
  | _, .ret, st, K => K .ret st
  | _, _, _, _ => .stuck
end

/-- One result is itself, several are a tuple. -/
def pvRes : List PV → PV
  | [p] => p
  | ps => .tup ps

def funK {β : Type} (E : Env) (rc : Caller) (n : Nat) (f : FuncId) (args : List PV) (H : List AObj) (K : PV → List AObj → Res β) : Res β :=
  match E.P.funcs[f]? with
  | none => .stuck
  | some fn => match fn.body with
    | none => .stuck
    | some c => codeK E rc f fn n H.length c ⟨args ++ List.replicate (fn.ntmps - args.length) undefV, H⟩ fun e st =>
      e.k (resultsK E st fn.results.toList fun ps => K (pvRes ps) st.heap) (fun _ => .stuck) (resultsK E st fn.results.toList fun ps => K (pvRes ps) st.heap)

/-- What comes of a call whose arguments are trees, at a heap of its own. -/
def outK (E : Env) (f : FuncId) (p : PV) (H : List AObj) : Res T := match E.mode f with
  | 0 => someK (p.frz H) fun x => .ok x
  | 1 => match p with
    | .own l => match H[l]? with
      | some (.row e k xs) => bif retRow E f == some (e, k) then .ok (.sl k xs) else .stuck
      | _ => .stuck
    | .nil e k => bif retRow E f == some (e, k) then .ok (.sl k []) else .stuck
    | .view l k lo hi => match H[l]? with
      | some (.row e k' xs) => bif retRow E f == some (e, k) && k' == k && lo == 0 && decide (hi ≤ xs.length) then .ok (.sl k (xs.take hi)) else .stuck
      | _ => .stuck
    | _ => .stuck
  | _ => match p with
    | .tup (.own l :: ps) => match H[l]? with
      | some (.row e k xs) => bif (PV.rowss ps).contains l then .stuck else someK (PV.frzs H ps) fun ys => bif retRow E f == some (e, k) && ys.length + 1 == retCount E f then .ok (.tup (.sl k xs :: ys)) else .stuck
      | _ => .stuck
    | .tup (.nil e k :: ps) => someK (PV.frzs H ps) fun ys => bif retRow E f == some (e, k) && ys.length + 1 == retCount E f then .ok (.tup (.sl k [] :: ys)) else .stuck
    | _ => .stuck

def callPof (E : Env) (run : (β : Type) → FuncId → List PV → List AObj → (PV → List AObj → Res β) → Res β) (f : FuncId) (ts : List T) : Res T :=
  bif T.wfs ts then (match E.ext f with
    | some e => e ts
    | none => run T f (ts.map .t) [] (outK E f)) else .absurd

def runK (E : Env) : Nat → (β : Type) → FuncId → List PV → List AObj → (PV → List AObj → Res β) → Res β
  | 0, _, _, _, _, _ => .stuck
  | n + 1, _, f, args, H, K => funK E ⟨callPof E (runK E n), runK E n⟩ n f args H K

/-- A call whose arguments are trees. -/
def callP (E : Env) (n : Nat) (f : FuncId) (ts : List T) : Res T := callPof E (runK E n) f ts
def recOf (E : Env) (n : Nat) : Caller := ⟨callP E n, runK E n⟩

end Go.Sim

/- What trees, slot values and objects say of a world; what lets them live on. -/
namespace Go.Sim
open Go.RowKit
set_option linter.unusedVariables false

inductive Rd (F : Nat → Prop) (w : World) : T → Value → Prop
  | int {k : IntKind} {n : Int} (h : kindOk k n = true) : Rd F w (.int k n) (.int k n)
  | bool {b : Bool} : Rd F w (.bool b) (.bool b)
  | str {s : ByteArray} (h : s.size ≤ big) : Rd F w (.str s) (.string s)
  | nilp : Rd F w .nilp (.pointer none)
  | nilfn : Rd F w .nilfn .nilFunc
  | nilif : Rd F w .nilif .nilIface
  | ref {x : T} {b o : Nat} (val : Nat → Value) (hF : F b) (hs : x.cells.length = 1 → x.isAgg = false) (h1 : ∀ j, j < x.cells.length → (val j).oneCell' = true)
      (hc : ∀ j, j < x.cells.length → w.cell? ⟨b, o + j, none⟩ = some (val j)) (hr : ∀ j y, x.cells[j]? = some y → Rd F w y (val j)) : Rd F w (.ref x) (.pointer (some ⟨b, o, none⟩))
  | sl {k : Nat} {xs : List T} {A : Option Addr} {c : Nat} (b o : Nat) (val : Nat → Nat → Value) (hn : xs.length ≤ c) (hb : xs.length ≤ big)
      (hk : ∀ x ∈ xs, x.cells.length = k ∧ (k = 1 → x.isAgg = false)) (hA : 0 < xs.length → A = some ⟨b, o, none⟩ ∧ F b)
      (h1 : ∀ i j, i < xs.length → j < k → (val i j).oneCell' = true)
      (hc : ∀ i j, i < xs.length → j < k → w.cell? ⟨b, o + i * k + j, none⟩ = some (val i j))
      (hr : ∀ i x j y, xs[i]? = some x → x.cells[j]? = some y → Rd F w y (val i j)) : Rd F w (.sl k xs) (.slice A xs.length c)
  | agg {cs : List T} {vs : List Value} (hl : vs.length = cs.length) (h1 : ∀ v ∈ vs, v.oneCell' = true) (hr : ∀ (i : Nat) (x : T) (v : Value), cs[i]? = some x → vs[i]? = some v → Rd F w x v) : Rd F w (.agg cs) (.agg vs.toArray)
  | tup {cs : List T} {vs : List Value} (hl : vs.length = cs.length) (hr : ∀ (i : Nat) (x : T) (v : Value), cs[i]? = some x → vs[i]? = some v → Rd F w x v) : Rd F w (.tup cs) (.tuple vs.toArray)
  | fn {f : FuncId} {fs cs : List T} {vf vc : List Value} (hlf : vf.length = fs.length) (hlc : vc.length = cs.length)
      (hrf : ∀ (i : Nat) (x : T) (v : Value), fs[i]? = some x → vf[i]? = some v → Rd F w x v) (hrc : ∀ (i : Nat) (x : T) (v : Value), cs[i]? = some x → vc[i]? = some v → Rd F w x v) :
      Rd F w (.fn f fs cs) (.func (.func f) vf.toArray vc.toArray)
  | iface {t : TypeId} {x : T} {v : Value} (h : Rd F w x v) : Rd F w (.iface t x) (.iface t v)

theorem cell_same {w w' : World} {b o : Nat} (h : w'.heap[b]? = w.heap[b]?) : w'.cell? ⟨b, o, none⟩ = w.cell? ⟨b, o, none⟩ := World.cell?_of_block (a := ⟨b, o, none⟩) h

theorem Rd.mono {F F' : Nat → Prop} {w w' : World} (hF : ∀ b, F b → F' b) (hw : ∀ b, F b → w'.heap[b]? = w.heap[b]?) {x : T} {v : Value} (h : Rd F w x v) : Rd F' w' x v := by
  induction h with
  | int h => exact .int h
  | bool => exact .bool
  | str h => exact .str h
  | nilp => exact .nilp
  | nilfn => exact .nilfn
  | nilif => exact .nilif
  | ref val hFb hs h1 hc _ ih => exact .ref val (hF _ hFb) hs h1 (fun j hj => (cell_same (hw _ hFb)).trans (hc j hj)) ih
  | @sl k xs A c b o val hn hb hk hA h1 hc _ ih =>
    refine .sl b o val hn hb hk (fun h => ⟨(hA h).1, hF _ (hA h).2⟩) h1 (fun i j hi hj => ?_) ih
    exact (cell_same (hw _ (hA (by omega)).2)).trans (hc i j hi hj)
  | agg hl h1 _ ih => exact .agg hl h1 ih
  | tup hl _ ih => exact .tup hl ih
  | fn h1 h2 _ _ i1 i2 => exact .fn h1 h2 i1 i2
  | iface _ ih => exact .iface ih

/-- A tree that leads to no memory is the same in every world. -/
theorem Rd.scalar {F F' : Nat → Prop} {w w' : World} {x : T} {v : Value} (hx : x.scalar = true) (h : Rd F w x v) : Rd F' w' x v := by
  cases h <;> simp [T.scalar] at hx <;> constructor <;> assumption
theorem Rd.plain {F F' : Nat → Prop} {w w' : World} {x : T} {v : Value} (hx : x.plain = true) (h : Rd F w x v) : Rd F' w' x v := by
  cases h with
  | agg hl h1 hr =>
    simp only [T.plain, List.all_eq_true] at hx
    exact .agg hl h1 fun i x v h1 h2 => (hr i x v h1 h2).scalar (hx x (List.mem_of_getElem? h1))
  | tup hl hr =>
    simp only [T.plain, List.all_eq_true] at hx
    exact .tup hl fun i x v h1 h2 => (hr i x v h1 h2).scalar (hx x (List.mem_of_getElem? h1))
  | int h => exact .int h
  | bool => exact .bool
  | str h => exact .str h
  | nilp => exact .nilp
  | nilfn => exact .nilfn
  | nilif => exact .nilif
  | ref => simp [T.plain, T.scalar] at hx
  | sl => simp [T.plain, T.scalar] at hx
  | fn => simp [T.plain, T.scalar] at hx
  | iface => simp [T.plain, T.scalar] at hx

theorem Rd.wf {F : Nat → Prop} {w : World} {x : T} {v : Value} (h : Rd F w x v) : x.wf = true := by
  induction h with
  | int h => simpa [T.wf] using h
  | bool | nilp | nilfn | nilif => simp [T.wf]
  | str h => simpa [T.wf] using h
  | @ref x b o val hFb hs h1 hc hr ih =>
    simp only [T.wf]
    cases x with
    | agg cs =>
      simp only [T.wf, T.wfs_iff]
      intro y hy
      obtain ⟨j, hj⟩ := List.getElem?_of_mem hy
      exact ih j y hj
    | _ => exact ih 0 _ rfl
  | @sl k xs A c b o val hn hb hk hA h1 hc hr ih =>
    simp only [T.wf, Bool.and_eq_true, decide_eq_true_eq, T.wfs_iff]
    refine ⟨hb, fun x hx => ?_⟩
    obtain ⟨i, hi⟩ := List.getElem?_of_mem hx
    cases x with
    | agg cs =>
      simp only [T.wf, T.wfs_iff]
      intro y hy
      obtain ⟨j, hj⟩ := List.getElem?_of_mem hy
      exact ih i _ j y hi hj
    | _ => exact ih i _ 0 _ hi rfl
  | @agg cs vs hl h1 hr ih =>
    simp only [T.wf, T.wfs_iff]
    intro y hy
    obtain ⟨j, hj⟩ := List.getElem?_of_mem hy
    have hlt : j < vs.length := by rw [hl]; exact (List.getElem?_eq_some_iff.1 hj).1
    exact ih j y vs[j] hj (List.getElem?_eq_getElem hlt)
  | @tup cs vs hl hr ih =>
    simp only [T.wf, T.wfs_iff]
    intro y hy
    obtain ⟨j, hj⟩ := List.getElem?_of_mem hy
    have hlt : j < vs.length := by rw [hl]; exact (List.getElem?_eq_some_iff.1 hj).1
    exact ih j y vs[j] hj (List.getElem?_eq_getElem hlt)
  | @fn f fs cs vf vc h1 h2 r1 r2 i1 i2 =>
    simp only [T.wf, Bool.and_eq_true, T.wfs_iff]
    constructor
    · intro y hy
      obtain ⟨j, hj⟩ := List.getElem?_of_mem hy
      have hlt : j < vf.length := by rw [h1]; exact (List.getElem?_eq_some_iff.1 hj).1
      exact i1 j y vf[j] hj (List.getElem?_eq_getElem hlt)
    · intro y hy
      obtain ⟨j, hj⟩ := List.getElem?_of_mem hy
      have hlt : j < vc.length := by rw [h2]; exact (List.getElem?_eq_some_iff.1 hj).1
      exact i2 j y vc[j] hj (List.getElem?_eq_getElem hlt)
  | iface _ ih => simpa [T.wf] using ih

/-- The value of a part of a row whose own value is r. -/
def ViewV (r v : Value) (k lo hi : Nat) : Prop := ∃ A n c A', (r = .slice A n c ∧ n ≤ big) ∧ v = .slice A' (hi - lo) (c - lo) ∧ lo ≤ hi ∧ hi ≤ n ∧ ((A = none ∧ A' = none) ∨ ∃ b o, A = some ⟨b, 0, none⟩ ∧ A' = some ⟨b, o, none⟩ ∧ (lo < c ∨ lo = 0 → o = lo * k))

inductive RP (F : Nat → Prop) (κ : Nat → Value) (N : Nat) (w : World) : PV → Value → Prop
  | t {x : T} {v : Value} (h : Rd F w x v) : RP F κ N w (.t x) v
  | nil {e : TypeId} {k : Nat} : RP F κ N w (.nil e k) (.slice none 0 0)
  | agg {cs : List PV} {vs : List Value} (hl : vs.length = cs.length) (h1 : ∀ v ∈ vs, v.oneCell' = true) (hr : ∀ (i : Nat) (p : PV) (v : Value), cs[i]? = some p → vs[i]? = some v → RP F κ N w p v) : RP F κ N w (.agg cs) (.agg vs.toArray)
  | tup {cs : List PV} {vs : List Value} (hl : vs.length = cs.length) (hr : ∀ (i : Nat) (p : PV) (v : Value), cs[i]? = some p → vs[i]? = some v → RP F κ N w p v) : RP F κ N w (.tup cs) (.tuple vs.toArray)
  | fn {f : FuncId} {fs cs : List PV} {vf vc : List Value} (hlf : vf.length = fs.length) (hlc : vc.length = cs.length)
      (hrf : ∀ (i : Nat) (p : PV) (v : Value), fs[i]? = some p → vf[i]? = some v → RP F κ N w p v) (hrc : ∀ (i : Nat) (p : PV) (v : Value), cs[i]? = some p → vc[i]? = some v → RP F κ N w p v) :
      RP F κ N w (.fn f fs cs) (.func (.func f) vf.toArray vc.toArray)
  | ptr {l o b : Nat} (hN : l < N) (h : κ l = .pointer (some ⟨b, 0, none⟩)) : RP F κ N w (.ptr l o) (.pointer (some ⟨b, o, none⟩))
  | own {l : Nat} {A : Option Addr} {n c : Nat} (hN : l < N) (h : κ l = .slice A n c) : RP F κ N w (.own l) (.slice A n c)
  | eptr {l k i o b n c : Nat} (hN : l < N) (h : κ l = .slice (some ⟨b, 0, none⟩) n c) (hi : i < n) : RP F κ N w (.eptr l k i o) (.pointer (some ⟨b, i * k + o, none⟩))
  | view {l k lo hi : Nat} {A : Option Addr} {n c : Nat} (hN : l < N) (h : ViewV (κ l) (.slice A n c) k lo hi) : RP F κ N w (.view l k lo hi) (.slice A n c)
  | full {k : Nat} {xs : List T} {A : Option Addr} (h : Rd F w (.sl k xs) (.slice A xs.length xs.length)) : RP F κ N w (.full k xs) (.slice A xs.length xs.length)
  | rp {k : Nat} {x : T} {o b p : Nat} (val : Nat → Value) (hF : F b) (hk : x.cells.length = k) (hs : k = 1 → x.isAgg = false) (h1 : ∀ j, j < k → (val j).oneCell' = true)
      (hc : ∀ j, j < k → w.cell? ⟨b, p + j, none⟩ = some (val j)) (hr : ∀ j y, x.cells[j]? = some y → Rd F w y (val j)) : RP F κ N w (.rp k x o) (.pointer (some ⟨b, p + o, none⟩))
  | mp {l b : Nat} (hN : l < N) (h : κ l = .map (some b)) : RP F κ N w (.mp l) (.map (some b))
  | junk {v : Value} : RP F κ N w .junk v

mutual
theorem PV.locs_kill_sub (p : Nat → Bool) : ∀ q : PV, ∀ l ∈ (q.kill p).locs, l ∈ q.locs
  | .own l' => by intro l h; simp only [PV.kill] at h; cases hp : p l' <;> simp [hp, PV.locs] at h ⊢; exact h
  | .eptr l' _ _ _ => by intro l h; simp only [PV.kill] at h; cases hp : p l' <;> simp [hp, PV.locs] at h ⊢; exact h
  | .view l' _ _ _ => by intro l h; simp only [PV.kill] at h; cases hp : p l' <;> simp [hp, PV.locs] at h ⊢; exact h
  | .agg cs => by intro l h; simp only [PV.kill, PV.locs] at h ⊢; exact PV.locss_kills_sub p cs l h
  | .tup cs => by intro l h; simp only [PV.kill, PV.locs] at h ⊢; exact PV.locss_kills_sub p cs l h
  | .fn f fs cs => by
    intro l h
    simp only [PV.kill, PV.locs, List.mem_append] at h ⊢
    exact h.imp (PV.locss_kills_sub p fs l) (PV.locss_kills_sub p cs l)
  | .t _ | .nil _ _ | .ptr _ _ | .mp _ | .full _ _ | .rp _ _ _ | .junk => by intro l h; simpa [PV.kill] using h
theorem PV.locss_kills_sub (p : Nat → Bool) : ∀ qs : List PV, ∀ l ∈ PV.locss (PV.kills p qs), l ∈ PV.locss qs
  | [] => by intro l h; simpa [PV.kills] using h
  | q :: r => by
    intro l h
    simp only [PV.kills, PV.locss, List.mem_append] at h ⊢
    exact h.imp (PV.locs_kill_sub p q l) (PV.locss_kills_sub p r l)
end

theorem mem_locss {q : PV} {qs : List PV} {l : Nat} (hq : q ∈ qs) (hl : l ∈ q.locs) : l ∈ PV.locss qs := by
  induction qs with
  | nil => cases hq
  | cons a r ih =>
    simp only [PV.locss, List.mem_append]
    rcases List.mem_cons.1 hq with rfl | h
    · exact .inl hl
    · exact .inr (ih h)
theorem mem_rowss {q : PV} {qs : List PV} {l : Nat} (hq : q ∈ qs) (hl : l ∈ q.rows) : l ∈ PV.rowss qs := by
  induction qs with
  | nil => cases hq
  | cons a r ih =>
    simp only [PV.rowss, List.mem_append]
    rcases List.mem_cons.1 hq with rfl | h
    · exact .inl hl
    · exact .inr (ih h)

theorem RP.bound {F : Nat → Prop} {κ : Nat → Value} {N : Nat} {w : World} {p : PV} {v : Value} (h : RP F κ N w p v) : ∀ l ∈ p.locs, l < N := by
  have aux : ∀ (cs : List PV) (vs : List Value), vs.length = cs.length → (∀ (i : Nat) (p : PV) (v : Value), cs[i]? = some p → vs[i]? = some v → ∀ l ∈ p.locs, l < N) → ∀ l ∈ PV.locss cs, l < N := by
    intro cs
    induction cs with
    | nil => intro vs _ _ l hl; simp [PV.locss] at hl
    | cons p r ih =>
      intro vs hl hr l hm
      cases vs with
      | nil => simp at hl
      | cons v vs =>
        simp only [PV.locss, List.mem_append] at hm
        rcases hm with hm | hm
        · exact hr 0 p v rfl rfl l hm
        · exact ih vs (by simpa using hl) (fun i p v h1 h2 => hr (i + 1) p v (by simpa using h1) (by simpa using h2)) l hm
  induction h with
  | agg hl _ _ ih => intro l hm; exact aux _ _ hl ih l (by simpa [PV.locs] using hm)
  | tup hl _ ih => intro l hm; exact aux _ _ hl ih l (by simpa [PV.locs] using hm)
  | fn h1 h2 _ _ i1 i2 =>
    intro l hm
    simp only [PV.locs, List.mem_append] at hm
    exact hm.elim (aux _ _ h1 i1 l) (aux _ _ h2 i2 l)
  | ptr hN _ => intro l hm; simp [PV.locs] at hm; omega
  | mp hN _ => intro l hm; simp [PV.locs] at hm; omega
  | own hN _ => intro l hm; simp [PV.locs] at hm; omega
  | eptr hN _ _ => intro l hm; simp [PV.locs] at hm; omega
  | view hN _ => intro l hm; simp [PV.locs] at hm; omega
  | _ => intro l hm; simp [PV.locs] at hm

/-- A slot's value lives on where what it names is where it was. -/
theorem RP.mono {F F' : Nat → Prop} {κ κ' : Nat → Value} {N N' : Nat} {w w' : World} (hF : ∀ b, F b → F' b) (hw : ∀ b, F b → w'.heap[b]? = w.heap[b]?) {p : PV} {v : Value} (h : RP F κ N w p v) :
    (∀ l ∈ p.locs, κ' l = κ l ∧ l < N') → RP F' κ' N' w' p v := by
  induction h with
  | t h => exact fun _ => .t (h.mono hF hw)
  | nil => exact fun _ => .nil
  | agg hl h1 _ ih => exact fun hk => .agg hl h1 fun i p v h1 h2 => ih i p v h1 h2 fun l hl => hk l (mem_locss (List.mem_of_getElem? h1) hl)
  | tup hl _ ih => exact fun hk => .tup hl fun i p v h1 h2 => ih i p v h1 h2 fun l hl => hk l (mem_locss (List.mem_of_getElem? h1) hl)
  | fn h1 h2 _ _ i1 i2 =>
    refine fun hk => .fn h1 h2 (fun i p v a b => i1 i p v a b fun l hl => hk l ?_) (fun i p v a b => i2 i p v a b fun l hl => hk l ?_)
    · simp only [PV.locs, List.mem_append]; exact .inl (mem_locss (List.mem_of_getElem? a) hl)
    · simp only [PV.locs, List.mem_append]; exact .inr (mem_locss (List.mem_of_getElem? a) hl)
  | ptr _ h => exact fun hk => .ptr (hk _ (by simp [PV.locs])).2 ((hk _ (by simp [PV.locs])).1.trans h)
  | own _ h => exact fun hk => .own (hk _ (by simp [PV.locs])).2 ((hk _ (by simp [PV.locs])).1.trans h)
  | mp _ h => exact fun hk => .mp (hk _ (by simp [PV.locs])).2 ((hk _ (by simp [PV.locs])).1.trans h)
  | eptr _ h hi => exact fun hk => .eptr (hk _ (by simp [PV.locs])).2 ((hk _ (by simp [PV.locs])).1.trans h) hi
  | view _ h => exact fun hk => .view (hk _ (by simp [PV.locs])).2 (by rw [(hk _ (by simp [PV.locs])).1]; exact h)
  | full h => exact fun _ => .full (h.mono hF hw)
  | rp val hFb hk hs h1 hc hr => exact fun _ => .rp val (hF _ hFb) hk hs h1 (fun j hj => (cell_same (hw _ hFb)).trans (hc j hj)) fun j y hy => (hr j y hy).mono hF hw
  | junk => exact fun _ => .junk

end Go.Sim

/- The tape is never asked less: what runs draws on. -/
namespace Go.Sim
open Go.RowKit
set_option linter.unusedVariables false

theorem ask_drawn {α : Type} : ∀ (k : Ask α) (w : World), w.drawn ≤ (w.ask k).2.drawn
  | .done a, w => Nat.le_refl _
  | .ask what range k, w => by
    unfold World.ask
    simp only []
    split
    · exact ask_drawn _ _
    · exact Nat.le_trans (Nat.le_succ _) (ask_drawn (k _) { w with drawn := w.drawn + 1 })
theorem sys_drawn (w : World) (c : Sys) : w.drawn ≤ (w.sys c).2.drawn := by
  have h := ask_drawn (Kernel.perform c w.os) w
  unfold World.sys
  split
  · exact Nat.le_refl _
  · rename_i r os w' hne heq
    rw [heq] at h
    exact h
theorem view_drawn {p : Program} {w : World} {at_ : Addr} {u : TypeId} {k : Addr} {v : Value} {atomic : Bool} {r : World × List Addr} (h : w.viewStore p at_ u k v atomic = .ok r) : r.1.drawn = w.drawn := by
  unfold World.viewStore at h
  simp only [bind, Except.bind, pure, Except.pure, throw, throwThe, MonadExceptOf.throw] at h
  repeat' split at h
  all_goals first | (cases h; rfl) | (cases h; done)
theorem run_drawn {α : Type} (p : Program) : ∀ (m : Sem α) (w : World) {v : α} {w' : World}, m.run p w = .ok v w' → w.drawn ≤ w'.drawn
  | .pure a, w, v, w', h => by
    simp only [Sem.run, Result.ok.injEq] at h
    rw [h.2]; exact Nat.le_refl _
  | .load m a k, w, v, w', h => by
    simp only [Sem.run] at h
    split at h
    · exact run_drawn p _ _ h
    · split at h
      · exact run_drawn p _ _ h
      · cases h
  | .store m a u k, w, v, w', h => by
    have key : (match w.cell? a with
      | some _ => if w.frozen? a then (.halt (.unsupported (.unsafePointer "a write to bytes that a string shares")) w : Result α) else k.run p (w.setCell a u)
      | none => match w.farStore p a u (m == Mode.atomic) with
        | .ok (w, _) => k.run p w
        | .error h => .halt h w) = .ok v w' → w.drawn ≤ w'.drawn := by
      intro h
      split at h
      · split at h
        · cases h
        · exact run_drawn p k (w.setCell a u) h
      · split at h
        · rename_i w2 l heq
          have h2 := run_drawn p k w2 h
          unfold World.farStore at heq
          split at heq
          · split at heq
            · rename_i r hr
              injection heq with heq
              have := view_drawn hr
              rw [heq] at this
              simp only at this
              omega
            · cases heq
          · cases heq
        · cases h
    cases u <;> simp only [Sem.run] at h <;> first | exact key h | cases h
  | .new o k, w, v, w', h => by simp only [Sem.run] at h; exact run_drawn p (k w.heap.size) { w with heap := w.heap.push o } h
  | .shape r k, w, v, w', h => by simp only [Sem.run] at h; exact run_drawn p _ _ h
  | .freeze a n k, w, v, w', h => by
    simp only [Sem.run] at h
    have h2 := run_drawn p k (w.freeze a n) h
    have : (w.freeze a n).drawn = w.drawn := by unfold World.freeze; split <;> rfl
    omega
  | .frozen a k, w, v, w', h => by simp only [Sem.run] at h; exact run_drawn p _ _ h
  | .getObj r k, w, v, w', h => by
    simp only [Sem.run] at h
    split at h
    · cases h
    · exact run_drawn p _ _ h
    · cases h
  | .setObj r o k, w, v, w', h => by
    simp only [Sem.run] at h
    split at h
    · cases h
    · exact run_drawn p k { w with heap := w.heap.setIfInBounds r o } h
    · cases h
  | .choose q k, w, v, w', h => by
    simp only [Sem.run] at h
    split at h
    · exact run_drawn p _ _ h
    · exact Nat.le_trans (Nat.le_succ _) (run_drawn p (k _) { w with drawn := w.drawn + 1 } h)
  | .sys c k, w, v, w', h => by simp only [Sem.run] at h; exact Nat.le_trans (sys_drawn w c) (run_drawn p _ _ h)
  | .program k, w, v, w', h => by simp only [Sem.run] at h; exact run_drawn p _ _ h
  | .mark _ k, w, v, w', h => by simp only [Sem.run] at h; exact run_drawn p k w h
  | .halt _, w, v, w', h => by simp only [Sem.run] at h; cases h
end Go.Sim

/- Objects, states, and what a step may turn. -/
namespace Go.Sim
open Go.RowKit
set_option linter.unusedVariables false
set_option linter.unusedSimpArgs false

/-- What an object says of a world: the value by which it is named is 'κ l'. -/
def RO (F : Nat → Prop) (κ : Nat → Value) (N : Nat) (w : World) (l : Nat) : AObj → Prop
  | .box e n v => ∃ b vs vv, κ l = .pointer (some ⟨b, 0, none⟩) ∧ w.heap[b]? = some (.cells vs e (0, 0)) ∧ vs = vv.cells ∧ vs.size = n ∧ (∀ c ∈ vs, c.oneCell' = true) ∧ RP F κ N w v vv
  | .fbox e n v => ∃ b, κ l = .pointer (some ⟨b, 0, none⟩) ∧ Rd F w (.ref v) (κ l) ∧ v.cells.length = n
  | .row e k xs => ∃ cs, w.ownsRow 0 e k (κ l) xs.length cs ∧ xs.length ≤ big ∧ (∀ x ∈ xs, x.cells.length = k ∧ (k = 1 → x.isAgg = false)) ∧ (∀ c ∈ cs, c.oneCell' = true) ∧
      (∀ (i : Nat) (x : T) (j : Nat) (y : T) (v : Value), xs[i]? = some x → x.cells[j]? = some y → cs[i * k + j]? = some v → Rd F w y v)
  | .frow e k xs => Rd F w (.sl k xs) (κ l) ∧ (∀ ad n c, κ l = .slice (some ad) n c → ∃ b, ad = ⟨b, 0, none⟩)
  | .vec e k n xs => ∃ cs, w.ownsRow 0 e k (κ l) n cs ∧ n ≤ big ∧ xs.length = n * k ∧ (∀ c ∈ cs, c.oneCell' = true) ∧
      (∀ (i : Nat) (p : PV) (v : Value), xs[i]? = some p → cs[i]? = some v → RP F κ N w p v)
  | .map es c => ∃ b ms, κ l = .map (some b) ∧ w.heap[b]? = some (.map ms c) ∧ ms.size = es.length ∧
      (∀ (i : Nat) (x : T × T × Nat) (m : MapEntry), es[i]? = some x → ms[i]? = some m → Rd F w x.1 m.key ∧ Rd F w x.2.1 m.val ∧ m.born = x.2.2)
  | .iter m since seen last => ∃ b bm, κ l = .pointer (some ⟨b, 0, none⟩) ∧ κ m = .map (some bm) ∧ m < N ∧ w.heap[b]? = some (.mapIter (some bm) since seen.toArray last)
  | .dead => True

def ptrBlock : Value → Option Nat
  | .pointer (some a) => some a.block
  | .map r => r
  | _ => none
/-- The block that an object owns. -/
def blk (κ : Nat → Value) (l : Nat) : AObj → Option Nat
  | .box _ _ _ => ptrBlock (κ l)
  | .row _ _ _ => (κ l).ownBlock
  | .vec _ _ _ _ => (κ l).ownBlock
  | .map _ _ => ptrBlock (κ l)
  | .iter _ _ _ _ => ptrBlock (κ l)
  | _ => none
def Own (κ : Nat → Value) (H : List AObj) (b : Nat) : Prop := ∃ l o, H[l]? = some o ∧ blk κ l o = some b

structure SI (F : Nat → Prop) (κ : Nat → Value) (w : World) (H : List AObj) : Prop where
  ro : ∀ l o, H[l]? = some o → RO F κ H.length w l o
  lt : ∀ l o b, H[l]? = some o → blk κ l o = some b → b < w.heap.size ∧ ¬ F b
  ne : ∀ l l' o o' b, H[l]? = some o → H[l']? = some o' → blk κ l o = some b → blk κ l' o' = some b → l = l'
  fl : ∀ b, F b → b < w.heap.size

theorem RO.mono {F F' : Nat → Prop} {κ κ' : Nat → Value} {N N' : Nat} {w w' : World} (hF : ∀ b, F b → F' b) (hw : ∀ b, F b → w'.heap[b]? = w.heap[b]?) {l : Nat} {o : AObj}
    (h : RO F κ N w l o) (hb : ∀ b, blk κ l o = some b → w'.heap[b]? = w.heap[b]?) (hk : κ' l = κ l) (hl : ∀ l' ∈ o.locs, κ' l' = κ l' ∧ l' < N') : RO F' κ' N' w' l o := by
  cases o with
  | box e n v =>
    obtain ⟨b, vs, vv, h1, h2, h3, h4, h5, h6⟩ := h
    exact ⟨b, vs, vv, hk.trans h1, (hb b (by simp [blk, h1, ptrBlock])).trans h2, h3, h4, h5, h6.mono hF hw hl⟩
  | fbox e n v =>
    obtain ⟨b, h1, h2, h3⟩ := h
    exact ⟨b, hk.trans h1, by rw [hk]; exact h2.mono hF hw, h3⟩
  | row e k xs =>
    obtain ⟨cs, h1, h2, h3, h4, h5⟩ := h
    refine ⟨cs, ?_, h2, h3, h4, fun i x j y v a b c => (h5 i x j y v a b c).mono hF hw⟩
    rw [hk]
    refine ⟨h1.1, h1.2.imp id ?_⟩
    rintro ⟨g, cap, cur, e1, e2, e3, e4⟩
    exact ⟨g, cap, cur, e1, e2, (hb g (by simp [blk, e1, Value.ownBlock])).trans e3, e4⟩
  | frow e k xs =>
    obtain ⟨h1, h2⟩ := h
    exact ⟨by rw [hk]; exact h1.mono hF hw, by rw [hk]; exact h2⟩
  | vec e k n xs =>
    obtain ⟨cs, h1, h2, h3, h4, h5⟩ := h
    refine ⟨cs, ?_, h2, h3, h4, fun i p v a b => (h5 i p v a b).mono hF hw fun l' hl' => hl l' ?_⟩
    · rw [hk]
      refine ⟨h1.1, h1.2.imp id ?_⟩
      rintro ⟨g, cap, cur, e1, e2, e3, e4⟩
      exact ⟨g, cap, cur, e1, e2, (hb g (by simp [blk, e1, Value.ownBlock])).trans e3, e4⟩
    · simp only [AObj.locs]
      exact mem_locss (List.mem_of_getElem? a) hl'
  | map es c =>
    obtain ⟨b, ms, h1, h2, h3, h4⟩ := h
    refine ⟨b, ms, hk.trans h1, (hb b (by simp [blk, h1, ptrBlock])).trans h2, h3, fun i x m a d => ?_⟩
    obtain ⟨r1, r2, r3⟩ := h4 i x m a d
    exact ⟨r1.mono hF hw, r2.mono hF hw, r3⟩
  | iter m since seen last =>
    obtain ⟨b, bm, h1, h2, h3, h4⟩ := h
    obtain ⟨g1, g2⟩ := hl m (by simp [AObj.locs])
    exact ⟨b, bm, hk.trans h1, g1.trans h2, g2, (hb b (by simp [blk, h1, ptrBlock])).trans h4⟩
  | dead => trivial

theorem RO.bound {F : Nat → Prop} {κ : Nat → Value} {N : Nat} {w : World} {l : Nat} {o : AObj} (h : RO F κ N w l o) : ∀ l' ∈ o.locs, l' < N := by
  cases o with
  | box e n v => obtain ⟨b, vs, vv, h1, h2, h3, h4, h5, h6⟩ := h; exact h6.bound
  | vec e k n xs =>
    obtain ⟨cs, h1, h2, h3, h4, h5⟩ := h
    have aux : RP F κ N w (.tup xs) (.tuple cs.toArray) := .tup (by rw [h1.1, h3]) h5
    simpa [AObj.locs, PV.locs] using aux.bound
  | iter m since seen last => obtain ⟨b, bm, h1, h2, h3, h4⟩ := h; intro l' hl; simp [AObj.locs] at hl; omega
  | _ => intro l' hl; simp [AObj.locs] at hl

/-- What a step, or a call, from (w, H) to (w', H') may turn; N0: objects below it are the caller's. -/
structure Ev (N0 : Nat) (F : Nat → Prop) (κ : Nat → Value) (w : World) (H : List AObj) (F' : Nat → Prop) (κ' : Nat → Value) (w' : World) (H' : List AObj) : Prop where
  os : w'.os = w.os
  tape : w'.tape = w.tape
  output : w'.output = w.output
  size : w.heap.size ≤ w'.heap.size
  frame : ∀ b, b < w.heap.size → ¬ Own κ H b → w'.heap[b]? = w.heap[b]?
  fm : ∀ b, F b → F' b
  fn : ∀ b, F' b → F b ∨ Own κ H b ∨ w.heap.size ≤ b
  on : ∀ b, Own κ' H' b → Own κ H b ∨ w.heap.size ≤ b
  hl : N0 ≤ H'.length
  kp : ∀ l o, l < N0 → H[l]? = some o → (∀ e k xs, o ≠ .row e k xs) → κ' l = κ l ∧ ∃ o', H'[l]? = some o' ∧ ∀ e k xs, o' ≠ .row e k xs

theorem Ev.refl {N0 : Nat} {F : Nat → Prop} {κ : Nat → Value} {w : World} {H : List AObj} (h : N0 ≤ H.length) : Ev N0 F κ w H F κ w H :=
  ⟨rfl, rfl, rfl, Nat.le_refl _, fun _ _ _ => rfl, fun _ h => h, fun _ h => .inl h, fun _ h => .inl h, h, fun l o _ h1 h2 => ⟨rfl, o, h1, h2⟩⟩

theorem Ev.trans {N0 : Nat} {F F1 F2 : Nat → Prop} {κ κ1 κ2 : Nat → Value} {w w1 w2 : World} {H H1 H2 : List AObj} (a : Ev N0 F κ w H F1 κ1 w1 H1) (b : Ev N0 F1 κ1 w1 H1 F2 κ2 w2 H2) : Ev N0 F κ w H F2 κ2 w2 H2 where
  os := b.os.trans a.os
  tape := b.tape.trans a.tape
  output := b.output.trans a.output
  size := Nat.le_trans a.size b.size
  frame := fun c hc ho => by
    refine (b.frame c (by have := a.size; omega) fun h => ?_).trans (a.frame c hc ho)
    rcases a.on c h with h | h
    · exact ho h
    · omega
  fm := fun c h => b.fm c (a.fm c h)
  fn := fun c h => by
    rcases b.fn c h with h | h | h
    · exact a.fn c h
    · exact (a.on c h).imp id id |>.elim (fun x => .inr (.inl x)) (fun x => .inr (.inr x))
    · exact .inr (.inr (by have := a.size; omega))
  on := fun c h => by
    rcases b.on c h with h | h
    · exact a.on c h
    · exact .inr (by have := a.size; omega)
  hl := b.hl
  kp := fun l o hl h1 h2 => by
    obtain ⟨e1, o1, g1, g2⟩ := a.kp l o hl h1 h2
    obtain ⟨e2, o2, g3, g4⟩ := b.kp l o1 hl g1 g2
    exact ⟨e2.trans e1, o2, g3, g4⟩

/-- The same, and the tape has been asked no less. -/
structure EvD (N0 : Nat) (F : Nat → Prop) (κ : Nat → Value) (w : World) (H : List AObj) (F' : Nat → Prop) (κ' : Nat → Value) (w' : World) (H' : List AObj) : Prop extends Ev N0 F κ w H F' κ' w' H' where
  drawn : w.drawn ≤ w'.drawn
theorem EvD.refl {N0 : Nat} {F : Nat → Prop} {κ : Nat → Value} {w : World} {H : List AObj} (h : N0 ≤ H.length) : EvD N0 F κ w H F κ w H := ⟨Ev.refl h, Nat.le_refl _⟩
theorem EvD.trans {N0 : Nat} {F F1 F2 : Nat → Prop} {κ κ1 κ2 : Nat → Value} {w w1 w2 : World} {H H1 H2 : List AObj} (a : EvD N0 F κ w H F1 κ1 w1 H1) (b : EvD N0 F1 κ1 w1 H1 F2 κ2 w2 H2) : EvD N0 F κ w H F2 κ2 w2 H2 := ⟨a.toEv.trans b.toEv, Nat.le_trans a.drawn b.drawn⟩

/-- A frozen block lives on. -/
theorem Ev.frozen {N0 : Nat} {F F' : Nat → Prop} {κ κ' : Nat → Value} {w w' : World} {H H' : List AObj} (h : Ev N0 F κ w H F' κ' w' H') (s : SI F κ w H) : ∀ b, F b → w'.heap[b]? = w.heap[b]? :=
  fun b hb => h.frame b (s.fl b hb) fun ⟨l, o, h1, h2⟩ => (s.lt l o b h1 h2).2 hb

structure Rel (F : Nat → Prop) (κ : Nat → Value) (st : St) (a : Act) (w : World) : Prop where
  tl : a.tmps.size = st.tmps.length
  tr : ∀ (i : Nat) (p : PV) (v : Value), st.tmps[i]? = some p → a.tmps[i]? = some v → RP F κ st.heap.length w p v
  dn : a.defers = []
  si : SI F κ w st.heap

def upd (κ : Nat → Value) (l : Nat) (v : Value) : Nat → Value := fun i => if i = l then v else κ i
theorem upd_same (κ : Nat → Value) (l : Nat) (v : Value) : upd κ l v l = v := by simp [upd]
theorem upd_other (κ : Nat → Value) {l i : Nat} (v : Value) (h : i ≠ l) : upd κ l v i = κ i := by simp [upd, h]

theorem heap_alloc_old' (w : World) (o : Obj) (b : Nat) (h : b < w.heap.size) : (w.alloc o).heap[b]? = w.heap[b]? := Below.heap_alloc w o b h
theorem heap_alloc_new' (w : World) (o : Obj) : (w.alloc o).heap[w.heap.size]? = some o := by
  show (w.heap.push o)[w.heap.size]? = some o
  simp

theorem blk_upd {κ : Nat → Value} {l i : Nat} {v : Value} {o : AObj} (h : i ≠ l) : blk (upd κ l v) i o = blk κ i o := by
  cases o <;> simp [blk, upd_other κ v h]

/-- A NEW OBJECT at the end: 'w1' has grown by blocks that nobody owned; the object's own block, if it has one, is new. -/
theorem SI.push {F F1 : Nat → Prop} {κ : Nat → Value} {w w1 : World} {H : List AObj} (s : SI F κ w H) (o : AObj) (v : Value)
    (hsz : w.heap.size ≤ w1.heap.size) (hold : ∀ b, b < w.heap.size → w1.heap[b]? = w.heap[b]?) (hF : ∀ b, F b → F1 b) (hF1 : ∀ b, F1 b → F b ∨ w.heap.size ≤ b) (hfl : ∀ b, F1 b → b < w1.heap.size)
    (ho : RO F1 (upd κ H.length v) (H.length + 1) w1 H.length o)
    (hb : ∀ b, blk (upd κ H.length v) H.length o = some b → w.heap.size ≤ b ∧ b < w1.heap.size ∧ ¬ F1 b) : SI F1 (upd κ H.length v) w1 (H ++ [o]) := by
  have hget : ∀ l o', (H ++ [o])[l]? = some o' → (l < H.length ∧ H[l]? = some o') ∨ (l = H.length ∧ o' = o) := by
    intro l o' h
    rcases Nat.lt_or_ge l H.length with h1 | h1
    · rw [List.getElem?_append_left h1] at h; exact .inl ⟨h1, h⟩
    · rw [List.getElem?_append_right h1] at h
      have : l - H.length = 0 := by have := (List.getElem?_eq_some_iff.1 h).1; simp at this; omega
      rw [this] at h
      simp at h
      exact .inr ⟨by omega, h.symm⟩
  have hblk : ∀ l o' b, l < H.length → H[l]? = some o' → blk (upd κ H.length v) l o' = some b → b < w.heap.size ∧ ¬ F1 b := by
    intro l o' b h1 h2 h3
    rw [blk_upd (by omega)] at h3
    obtain ⟨a, c⟩ := s.lt l o' b h2 h3
    exact ⟨a, fun hf => (hF1 b hf).elim c (fun h => by omega)⟩
  refine ⟨fun l o' h => ?_, fun l o' b h1 h2 => ?_, fun l l' o1 o2 b h1 h2 h3 h4 => ?_, hfl⟩
  · rw [List.length_append, List.length_singleton]
    rcases hget l o' h with ⟨h1, h2⟩ | ⟨rfl, rfl⟩
    · refine (s.ro l o' h2).mono hF (fun b hb' => hold b (s.fl b hb')) (fun b hb' => hold b (s.lt l o' b h2 hb').1) (upd_other κ v (by omega)) (fun l' hl' => ?_)
      have := (s.ro l o' h2).bound l' hl'
      exact ⟨upd_other κ v (by omega), by omega⟩
    · exact ho
  · rcases hget l o' h1 with ⟨h3, h4⟩ | ⟨rfl, rfl⟩
    · obtain ⟨a, c⟩ := hblk l o' b h3 h4 h2
      exact ⟨by omega, c⟩
    · exact (hb b h2).2
  · rcases hget l o1 h1 with ⟨a1, a2⟩ | ⟨rfl, rfl⟩ <;> rcases hget l' o2 h2 with ⟨b1, b2⟩ | ⟨rfl, rfl⟩
    · rw [blk_upd (by omega)] at h3 h4
      exact s.ne l l' o1 o2 b a2 b2 h3 h4
    · have := (hblk l o1 b a1 a2 h3).1; have := (hb b h4).1; omega
    · have := (hblk l' o2 b b1 b2 h4).1; have := (hb b h3).1; omega
    · rfl

theorem Own.push {κ : Nat → Value} {H : List AObj} {o : AObj} {v : Value} {b : Nat} (h : Own (upd κ H.length v) (H ++ [o]) b) : Own κ H b ∨ blk (upd κ H.length v) H.length o = some b := by
  obtain ⟨l, o', h1, h2⟩ := h
  rcases Nat.lt_or_ge l H.length with h3 | h3
  · rw [List.getElem?_append_left h3] at h1
    rw [blk_upd (by omega)] at h2
    exact .inl ⟨l, o', h1, h2⟩
  · rw [List.getElem?_append_right h3] at h1
    have : l - H.length = 0 := by have := (List.getElem?_eq_some_iff.1 h1).1; simp at this; omega
    rw [this] at h1
    simp at h1
    obtain rfl : l = H.length := by omega
    subst h1
    exact .inr h2

/-- Slots live on beside a new object. -/
theorem RP.push {F F1 : Nat → Prop} {κ : Nat → Value} {w w1 : World} {H : List AObj} (s : SI F κ w H) (v0 : Value) (hold : ∀ b, b < w.heap.size → w1.heap[b]? = w.heap[b]?) (hF : ∀ b, F b → F1 b)
    {p : PV} {v : Value} (h : RP F κ H.length w p v) : RP F1 (upd κ H.length v0) (H.length + 1) w1 p v :=
  h.mono hF (fun b hb => hold b (s.fl b hb)) fun l hl => by
    have := h.bound l hl
    exact ⟨upd_other κ v0 (by omega), by omega⟩

end Go.Sim

/- Reading: loads, fields, elements. -/
namespace Go.Sim
open Go.RowKit
set_option linter.unusedVariables false
set_option linter.unusedSimpArgs false

section
variable {P : Program}

theorem info_of_sz {t : TypeId} {s : Nat} (h : szP P t = some s) : ∃ i, P.info? t = some i ∧ i.size = s := by
  simpa [szP, Option.map_eq_some_iff] using h
theorem run_sizeOf' {t : TypeId} {s : Nat} (h : szP P t = some s) (w : World) : (sizeOf t).run P w = .ok s w := by
  obtain ⟨i, h1, h2⟩ := info_of_sz h
  simp [sizeOf, typeInfo, h1, h2]
theorem run_isAgg' {t : TypeId} {a : Bool} (h : aggP P t = some a) (w : World) : (isAgg t).run P w = .ok a w := by
  unfold aggP at h
  unfold isAgg
  rw [Sem.run_bind]
  cases hu : P.underlying t with
  | none => simp [hu] at h
  | some d =>
    rw [run_underlying hu w]
    cases d <;> simp_all

theorem add_mid (b o j : Nat) : (⟨b, o, none⟩ : Addr).add j = ⟨b, o + j, none⟩ := by unfold Addr.add; split <;> simp_all

theorem run_load_cells {t : TypeId} {s : Nat} {a : Bool} (hs : szP P t = some s) (ha : aggP P t = some a) (w : World) (b o : Nat) (vs : List Value) (hl : vs.length = s) (h1 : a = false → s = 1)
    (hc : ∀ j v, vs[j]? = some v → w.cell? ⟨b, o + j, none⟩ = some v) :
    (Instr.loadAt t (.pointer (some ⟨b, o, none⟩))).run P w = .ok (if a then .agg vs.toArray else vs.getD 0 undef) w := by
  simp only [Instr.loadAt, Instr.sureAddr, Sem.run_bind, Sem.run_pure, Result.andThen_ok, loadVar, run_isAgg' ha]
  cases a with
  | true =>
    simp only [if_true, Sem.run_bind, run_sizeOf' hs, Result.andThen_ok]
    rw [← hl, run_loadCells_list (P := P) w ⟨b, o, none⟩ vs (fun j v hv => by rw [add_mid]; exact hc j v hv)]
    rfl
  | false =>
    have h0 := h1 rfl
    subst h0
    match vs, hl with
    | [v], _ =>
      have := hc 0 v rfl
      simp at this
      simp [run_load, this]

theorem eq_zero_cells {x : T} (h : x.isAgg = false) : x.cells = [x] := by cases x <;> simp_all [T.isAgg, T.cells]
theorem agg_of_two {x : T} (h : 2 ≤ x.cells.length) : ∃ cs, x = .agg cs := by cases x <;> simp_all [T.cells]

/-- Parts of a tree, read off cells. -/
theorem Rd.part_of {F : Nat → Prop} {w : World} {x : T} {k o s : Nat} {a : Bool} {val : Nat → Value} (hk : x.cells.length = k) (h1 : ∀ j, j < k → (val j).oneCell' = true)
    (hr : ∀ j y, x.cells[j]? = some y → Rd F w y (val j)) (ho : o + s ≤ k) (hs : a = false → s = 1) :
    Rd F w (x.partD o s a) (if a then .agg ((List.range s).map fun j => val (o + j)).toArray else val o) := by
  cases a with
  | true =>
    simp only [if_true, T.partD, cond_true]
    refine .agg (by simp; omega) (fun v hv => ?_) fun i y v hy hv => ?_
    · simp only [List.mem_map, List.mem_range] at hv
      obtain ⟨j, hj, rfl⟩ := hv
      exact h1 _ (by omega)
    · rw [List.getElem?_take] at hy
      split at hy
      · rename_i hi
        rw [List.getElem?_drop] at hy
        rw [List.getElem?_map, List.getElem?_range hi] at hv
        simp at hv
        subst hv
        exact hr _ _ hy
      · cases hy
  | false =>
    simp only [T.partD, cond_false, T.cell, Bool.false_eq_true, if_false]
    have := hs rfl
    subst this
    have hlt : o < x.cells.length := by omega
    rw [List.getD_eq_getElem?_getD, List.getElem?_eq_getElem hlt]
    exact hr o _ (List.getElem?_eq_getElem hlt)
theorem Rd.whole_of {F : Nat → Prop} {w : World} {x : T} {k : Nat} {a : Bool} {val : Nat → Value} (hk : x.cells.length = k) (hag : k = 1 → x.isAgg = false) (h1 : ∀ j, j < k → (val j).oneCell' = true)
    (hr : ∀ j y, x.cells[j]? = some y → Rd F w y (val j)) (hs : (a = true ∧ 2 ≤ k) ∨ (a = false ∧ k = 1)) :
    Rd F w x (if a then .agg ((List.range k).map fun j => val j).toArray else val 0) := by
  rcases hs with ⟨rfl, h2⟩ | ⟨rfl, rfl⟩
  · obtain ⟨cs, rfl⟩ := agg_of_two (x := x) (by omega)
    simp only [if_true, T.cells] at hk hr ⊢
    refine .agg (by simp [hk]) (fun v hv => ?_) fun i y v hy hv => ?_
    · simp only [List.mem_map, List.mem_range] at hv
      obtain ⟨j, hj, rfl⟩ := hv
      exact h1 _ hj
    · have hi : i < k := by rw [← hk]; exact (List.getElem?_eq_some_iff.1 hy).1
      rw [List.getElem?_map, List.getElem?_range hi] at hv
      simp at hv
      subst hv
      exact hr _ _ hy
  · have := eq_zero_cells (hag rfl)
    simpa using hr 0 x (by rw [this]; rfl)

theorem guard_of {a : Bool} {s : Nat} (h : (!((a && decide (2 ≤ s)) || (!a && s == 1))) = false) : (a = true ∧ 2 ≤ s) ∨ (a = false ∧ s = 1) := by
  cases a <;> simp_all

theorem cells_one {v : Value} (h : v.oneCell' = true) : v.cells = #[v] := by cases v <;> simp_all [Value.oneCell', Value.cells]
theorem Rd.notAgg {F : Nat → Prop} {w : World} {x : T} {v : Value} (h : Rd F w x v) (h1 : v.oneCell' = true) : x.isAgg = false := by
  cases h <;> simp_all [Value.oneCell', T.isAgg]
theorem mkAgg_rp {F : Nat → Prop} {κ : Nat → Value} {N : Nat} {w : World} {cs : List PV} {vs : List Value} (hl : vs.length = cs.length) (h1 : ∀ v ∈ vs, v.oneCell' = true)
    (hr : ∀ (i : Nat) (p : PV) (v : Value), cs[i]? = some p → vs[i]? = some v → RP F κ N w p v) : RP F κ N w (mkAgg cs) (.agg vs.toArray) := by
  have aux : ∀ (cs : List PV) (ts : List T), allT cs = some ts → ts.length = cs.length ∧ ∀ (i : Nat) (x : T), ts[i]? = some x → cs[i]? = some (PV.t x) := by
    intro cs
    induction cs with
    | nil => intro ts h; simp [allT] at h; subst h; simp
    | cons p r ih =>
      intro ts h
      cases p <;> simp [allT, Option.map_eq_some_iff] at h
      obtain ⟨r', h2, rfl⟩ := h
      obtain ⟨a, b⟩ := ih r' h2
      refine ⟨by simp [a], fun i x hx => ?_⟩
      cases i with
      | zero => simpa using hx
      | succ i => simpa using b i x (by simpa using hx)
  unfold mkAgg
  cases h : allT cs with
  | none => exact .agg hl h1 hr
  | some ts =>
    obtain ⟨a, b⟩ := aux cs ts h
    refine .t (.agg (by omega) h1 fun i x v hx hv => ?_)
    have := hr i _ v (b i x hx) hv
    cases this with
    | t h => exact h

/-- The cells of a slot's value. -/
theorem RP.cell_of {F : Nat → Prop} {κ : Nat → Value} {N : Nat} {w : World} {p : PV} {v : Value} (h : RP F κ N w p v) {n o s : Nat} {a : Bool} (hn : v.cells.size = n) (h1 : ∀ c ∈ v.cells, c.oneCell' = true)
    (ho : o + s ≤ n) (hs : (a = true ∧ 2 ≤ s) ∨ (a = false ∧ s = 1)) :
    RP F κ N w (p.part o s a) (if a then .agg ((v.cells.toList.drop o).take s).toArray else v.cells.getD o undef) := by
  have hone : ∀ c ∈ (v.cells.toList.drop o).take s, c.oneCell' = true := fun c hc => h1 c (by simpa using List.mem_of_mem_drop (List.mem_of_mem_take hc))
  by_cases hv : v.oneCell' = true
  · rw [cells_one hv] at hn ⊢
    simp at hn
    rcases hs with ⟨rfl, h2⟩ | ⟨rfl, rfl⟩
    · omega
    · obtain rfl : o = 0 := by omega
      simp only [Bool.false_eq_true, if_false]
      show RP F κ N w (p.part 0 1 false) v
      cases h with
      | t h =>
        have := eq_zero_cells (h.notAgg hv)
        simpa [PV.part, T.partD, T.cell, this] using RP.t h
      | agg hl _ _ => simp [Value.oneCell'] at hv
      | tup hl _ => simp [Value.oneCell'] at hv
      | nil => exact .nil
      | fn a b c d => exact .fn a b c d
      | ptr a b => exact .ptr a b
      | own a b => exact .own a b
      | eptr a b c => exact .eptr a b c
      | view a b => exact .view a b
      | full h => exact .full h
      | rp val a b c d e f => exact .rp val a b c d e f
      | mp a b => exact .mp a b
      | junk => exact .junk
  · cases v with
    | tuple vs => exact absurd (h1 (.tuple vs) (by simp [Value.cells])) (by simp [Value.oneCell'])
    | agg vs =>
      simp only [Value.cells] at hn ho h1 hone ⊢
      cases h with
      | junk => exact .junk
      | @t x _ h =>
        cases h with
        | @agg cs vs hl ha hr =>
          simp only [PV.part]
          refine .t ?_
          simp only [List.size_toArray] at hn
          have := Rd.part_of (F := F) (w := w) (x := .agg cs) (k := n) (o := o) (s := s) (a := a) (val := fun j => vs.getD j undef) (by simp [T.cells]; omega)
            (fun j hj => by rw [List.getD_eq_getElem?_getD, List.getElem?_eq_getElem (by omega)]; exact ha _ (List.getElem_mem _))
            (fun j y hy => by
              have hj : j < vs.length := by rw [hl]; exact (List.getElem?_eq_some_iff.1 hy).1
              rw [List.getD_eq_getElem?_getD, List.getElem?_eq_getElem hj]
              exact hr j y _ hy (List.getElem?_eq_getElem hj)) ho (by rcases hs with ⟨rfl, _⟩ | ⟨rfl, h⟩ <;> simp_all)
          cases a with
          | true =>
            simp only [if_true] at this ⊢
            have e : ((List.range s).map fun j => vs.getD (o + j) undef) = (vs.drop o).take s := by
              apply List.ext_getElem
              · simp; omega
              · intro i h1 h2
                simp at h1
                simp [List.getD_eq_getElem?_getD, List.getElem?_eq_getElem (show o + i < vs.length by omega)]
            rwa [e] at this
          | false =>
            simp only [Bool.false_eq_true, if_false] at this ⊢
            simpa [List.getD_eq_getElem?_getD] using this
      | @agg cs vs hl ha hr =>
        simp only [PV.part]
        simp only [List.size_toArray] at hn
        rcases hs with ⟨rfl, h2⟩ | ⟨rfl, rfl⟩
        · simp only [cond_true, if_true]
          refine mkAgg_rp (by simp; omega) hone fun i p v hp hv => ?_
          rw [List.getElem?_take] at hp hv
          split at hp
          · rename_i hi
            rw [if_pos hi] at hv
            rw [List.getElem?_drop] at hp hv
            exact hr _ _ _ hp (by simpa using hv)
          · cases hp
        · simp only [cond_false, Bool.false_eq_true, if_false]
          have h2 : o < cs.length := by omega
          refine hr o _ _ (by rw [List.getD_eq_getElem?_getD, List.getElem?_eq_getElem h2]; rfl) ?_
          simp [List.getElem?_eq_getElem (show o < vs.length by omega)]
    | _ => exact absurd rfl hv

theorem load_rows {F : Nat → Prop} {w : World} {t : TypeId} {s k : Nat} {a : Bool} (hs : szP P t = some s) (ha : aggP P t = some a) (hg : (a = true ∧ 2 ≤ s) ∨ (a = false ∧ s = 1))
    {x : T} {b p : Nat} {val : Nat → Value} (hk : x.cells.length = k) (hag : k = 1 → x.isAgg = false) (h1 : ∀ j, j < k → (val j).oneCell' = true)
    (hc : ∀ j, j < k → w.cell? ⟨b, p + j, none⟩ = some (val j)) (hr : ∀ j y, x.cells[j]? = some y → Rd F w y (val j)) (o : Nat) (ho : o + s ≤ k) :
    ∃ u, (Instr.loadAt t (.pointer (some ⟨b, p + o, none⟩))).run P w = .ok u w ∧ Rd F w (x.partD o s a) u ∧ (o = 0 → s = k → Rd F w x u) := by
  have hrun := run_load_cells hs ha w b (p + o) ((List.range s).map fun j => val (o + j)) (by simp) (by rcases hg with ⟨rfl, _⟩ | ⟨rfl, h⟩ <;> simp_all) (fun j v hv => by
    have hj : j < s := by have := (List.getElem?_eq_some_iff.1 hv).1; simpa using this
    rw [List.getElem?_map, List.getElem?_range hj] at hv
    simp at hv
    subst hv
    rw [Nat.add_assoc]
    exact hc _ (by omega))
  refine ⟨_, hrun, ?_, fun h0 h2 => ?_⟩
  · have := Rd.part_of (a := a) hk h1 hr ho (by rcases hg with ⟨rfl, _⟩ | ⟨rfl, h⟩ <;> simp_all)
    rcases hg with ⟨rfl, _⟩ | ⟨rfl, rfl⟩
    · simpa using this
    · simpa [List.range_succ] using this
  · subst h0
    subst h2
    have := Rd.whole_of hk hag h1 hr hg
    rcases hg with ⟨rfl, _⟩ | ⟨rfl, rfl⟩
    · simpa using this
    · simpa [List.range_succ] using this
end

/-- A row's cells. -/
theorem row_cells {F : Nat → Prop} {κ : Nat → Value} {N l : Nat} {w : World} {e k : Nat} {xs : List T} (h : RO F κ N w l (.row e k xs)) {b n c : Nat} (hk : κ l = .slice (some ⟨b, 0, none⟩) n c) {i : Nat} (hi : i < xs.length) :
    ∃ val : Nat → Value, (xs.getD i .nilp).cells.length = k ∧ (k = 1 → (xs.getD i .nilp).isAgg = false) ∧ (∀ j, j < k → (val j).oneCell' = true) ∧ (∀ j, j < k → w.cell? ⟨b, i * k + j, none⟩ = some (val j)) ∧
      (∀ j y, (xs.getD i .nilp).cells[j]? = some y → Rd F w y (val j)) := by
  obtain ⟨cs, h1, h2, h3, h4, h5⟩ := h
  have hx : xs.getD i .nilp ∈ xs := by rw [List.getD_eq_getElem?_getD, List.getElem?_eq_getElem hi]; exact List.getElem_mem _
  have hcs : cs.length = xs.length * k := h1.1
  have hin : ∀ j, j < k → i * k + j < cs.length := fun j hj => by
    rw [hcs]
    calc i * k + j < i * k + k := by omega
      _ = (i + 1) * k := by rw [Nat.succ_mul]
      _ ≤ xs.length * k := Nat.mul_le_mul_right _ hi
  refine ⟨fun j => cs.getD (i * k + j) undef, (h3 _ hx).1, (h3 _ hx).2, fun j hj => ?_, fun j hj => ?_, fun j y hy => ?_⟩
  · show (cs.getD (i * k + j) undef).oneCell' = true
    rw [List.getD_eq_getElem?_getD, List.getElem?_eq_getElem (hin j hj)]; exact h4 _ (List.getElem_mem _)
  · have := h1.cells (g := b) (by rw [hk]; rfl) (i * k + j) (cs.getD (i * k + j) undef) (by rw [List.getD_eq_getElem?_getD, List.getElem?_eq_getElem (hin j hj)]; rfl)
    rwa [add_mid, Nat.zero_add] at this
  · have hj : j < k := by rw [← (h3 _ hx).1]; exact (List.getElem?_eq_some_iff.1 hy).1
    refine h5 i _ j y _ ?_ hy ?_
    · rw [List.getD_eq_getElem?_getD, List.getElem?_eq_getElem hi]; rfl
    · simp [List.getElem?_eq_getElem (hin j hj)]

theorem sl_cells {F : Nat → Prop} {w : World} {k : Nat} {xs : List T} {A : Option Addr} {n c : Nat} (h : Rd F w (.sl k xs) (.slice A n c)) {i : Nat} (hi : i < xs.length) :
    ∃ b o, A = some ⟨b, o, none⟩ ∧ F b ∧ ∃ val : Nat → Value, (xs.getD i .nilp).cells.length = k ∧ (k = 1 → (xs.getD i .nilp).isAgg = false) ∧ (∀ j, j < k → (val j).oneCell' = true) ∧ (∀ j, j < k → w.cell? ⟨b, o + i * k + j, none⟩ = some (val j)) ∧
      (∀ j y, (xs.getD i .nilp).cells[j]? = some y → Rd F w y (val j)) := by
  cases h with
  | sl b o val hn hb hk hA h1 hc hr =>
    have hx : xs.getD i .nilp ∈ xs := by rw [List.getD_eq_getElem?_getD, List.getElem?_eq_getElem hi]; exact List.getElem_mem _
    exact ⟨b, o, (hA (by omega)).1, (hA (by omega)).2, val i, (hk _ hx).1, (hk _ hx).2, fun j hj => h1 i j hi hj, fun j hj => hc i j hi hj,
      fun j y hy => hr i _ j y (by rw [List.getD_eq_getElem?_getD, List.getElem?_eq_getElem hi]; rfl) hy⟩
theorem sl_len {F : Nat → Prop} {w : World} {k : Nat} {xs : List T} {A : Option Addr} {n c : Nat} (h : Rd F w (.sl k xs) (.slice A n c)) : n = xs.length ∧ n ≤ c ∧ n ≤ big := by
  cases h with
  | sl b o val hn hb hk hA h1 hc hr => exact ⟨rfl, hn, hb⟩
theorem row_len {F : Nat → Prop} {κ : Nat → Value} {N l : Nat} {w : World} {e k : Nat} {xs : List T} (h : RO F κ N w l (.row e k xs)) : ∃ A c, κ l = .slice A xs.length c ∧ xs.length ≤ big := by
  obtain ⟨cs, h1, h2, _⟩ := h
  rcases h1.2 with ⟨e1, e2⟩ | ⟨g, cap, cur, e1, _⟩
  · exact ⟨none, 0, by rw [e1, e2], h2⟩
  · exact ⟨_, cap, e1, h2⟩
theorem vec_len {F : Nat → Prop} {κ : Nat → Value} {N l : Nat} {w : World} {e k n : Nat} {xs : List PV} (h : RO F κ N w l (.vec e k n xs)) : ∃ A c, κ l = .slice A n c ∧ n ≤ big := by
  obtain ⟨cs, h1, h2, _⟩ := h
  rcases h1.2 with ⟨e1, e2⟩ | ⟨g, cap, cur, e1, _⟩
  · exact ⟨none, 0, by rw [e1, e2], h2⟩
  · exact ⟨_, cap, e1, h2⟩
/-- The cells of an element of a row of slots. -/
theorem vec_cells {F : Nat → Prop} {κ : Nat → Value} {N l : Nat} {w : World} {e k m : Nat} {xs : List PV} (h : RO F κ N w l (.vec e k m xs)) {b n c : Nat} (hk : κ l = .slice (some ⟨b, 0, none⟩) n c) {i : Nat} (hi : i < n) :
    n = m ∧ ∃ val : Nat → Value, (∀ j, j < k → (val j).oneCell' = true) ∧ (∀ j, j < k → w.cell? ⟨b, i * k + j, none⟩ = some (val j)) ∧ ∀ j p, j < k → xs[i * k + j]? = some p → RP F κ N w p (val j) := by
  obtain ⟨cs, h1, h2, h3, h4, h5⟩ := h
  have hn : n = m := by
    rcases h1.2 with ⟨e1, e2⟩ | ⟨g, cap, cur, e1, _⟩
    · rw [hk] at e1; cases e1
    · rw [hk] at e1; injection e1
  subst hn
  have hcs : cs.length = n * k := h1.1
  have hin : ∀ j, j < k → i * k + j < cs.length := fun j hj => by
    rw [hcs]
    calc i * k + j < i * k + k := by omega
      _ = (i + 1) * k := by rw [Nat.succ_mul]
      _ ≤ n * k := Nat.mul_le_mul_right _ hi
  refine ⟨rfl, fun j => cs.getD (i * k + j) undef, fun j hj => ?_, fun j hj => ?_, fun j p hj hp => ?_⟩
  · show (cs.getD (i * k + j) undef).oneCell' = true
    rw [List.getD_eq_getElem?_getD, List.getElem?_eq_getElem (hin j hj)]; exact h4 _ (List.getElem_mem _)
  · have := h1.cells (g := b) (by rw [hk]; rfl) (i * k + j) (cs.getD (i * k + j) undef) (by rw [List.getD_eq_getElem?_getD, List.getElem?_eq_getElem (hin j hj)]; rfl)
    rwa [add_mid, Nat.zero_add] at this
  · exact h5 _ p _ hp (by simp [List.getElem?_eq_getElem (hin j hj)])

end Go.Sim

/- Operations that leave memory as it is: what they come to. -/
namespace Go.Sim
open Go.RowKit
set_option linter.unusedVariables false
set_option linter.unusedSimpArgs false

section
variable {β : Type}

theorem someK_inv {α : Type} {o : Option α} {K : α → Res β} (h : someK o K ≠ .stuck) : ∃ a, o = some a ∧ someK o K = K a := by
  cases o with
  | none => exact absurd rfl h
  | some a => exact ⟨a, rfl, rfl⟩
theorem chk_inv {b : Bool} {r : Res β} (h : chk b r ≠ .stuck) : b = true ∧ chk b r = r := by
  cases b with
  | false => exact absurd rfl h
  | true => exact ⟨rfl, rfl⟩
theorem bT_inv {x : T} {K : Bool → Res β} (h : bT x K ≠ .stuck) : ∃ b, x = .bool b ∧ bT x K = K b := by
  cases x <;> first | exact ⟨_, rfl, rfl⟩ | exact absurd rfl h
theorem iT_inv {k : IntKind} {x : T} {K : Int → Res β} (h : iT k x K ≠ .stuck) : ∃ n, x = .int k n ∧ iT k x K = K n := by
  cases x with
  | int k' n =>
    by_cases e : k' = k
    · subst e; exact ⟨n, rfl, by simp [iT]⟩
    · simp [iT, e] at h
  | _ => exact absurd rfl h
theorem anyT_inv {x : T} {K : Int → Res β} (h : anyT x K ≠ .stuck) : ∃ k n, x = .int k n ∧ anyT x K = K n := by
  cases x <;> first | exact ⟨_, _, rfl, rfl⟩ | exact absurd rfl h
theorem slT_inv {k : Nat} {x : T} {K : List T → Res β} (h : slT k x K ≠ .stuck) : ∃ xs, x = .sl k xs ∧ slT k x K = K xs := by
  cases x with
  | sl k' xs =>
    by_cases e : k' = k
    · subst e; exact ⟨xs, rfl, by simp [slT]⟩
    · simp [slT, e] at h
  | _ => exact absurd rfl h
theorem strT_inv {x : T} {K : ByteArray → Res β} (h : strT x K ≠ .stuck) : ∃ s, x = .str s ∧ strT x K = K s := by
  cases x <;> first | exact ⟨_, rfl, rfl⟩ | exact absurd rfl h
theorem sllT_inv {x : T} {K : Int → Res β} (h : sllT x K ≠ .stuck) : ∃ k xs, x = .sl k xs ∧ sllT x K = K xs.length := by
  cases x <;> first | exact absurd rfl h | exact ⟨_, _, rfl, rfl⟩
theorem compT_inv {x : T} {i : Nat} {K : T → Res β} (h : compT x i K ≠ .stuck) : ∃ l y, x = .tup l ∧ l[i]? = some y ∧ compT x i K = K y := by
  cases x with
  | tup l =>
    cases e : l[i]? with
    | none => simp [compT, e] at h
    | some y => exact ⟨l, y, rfl, e, by simp [compT, e]⟩
  | _ => exact absurd rfl h
theorem atT_inv {xs : List T} {i : Int} {K : T → Res β} (h : atT xs i K ≠ .stuck) : ∃ e, 0 ≤ i ∧ i.toNat < xs.length ∧ xs[i.toNat]? = some e ∧ atT xs i K = K e := by
  unfold atT at h ⊢
  by_cases h0 : 0 ≤ i
  · rw [if_pos h0] at h
    cases e : xs[i.toNat]? with
    | none => simp [e] at h
    | some y => exact ⟨y, h0, (List.getElem?_eq_some_iff.1 e).1, rfl, by simp [h0, e]⟩
  · simp [h0] at h
theorem ptrT_inv {x : T} {K : T → Res β} (h : ptrT x .stuck K ≠ .stuck) : ∃ y, x = .ref y ∧ ptrT x .stuck K = K y := by
  cases x <;> first | exact ⟨_, rfl, rfl⟩ | exact absurd rfl h
theorem cond_inv {b : Bool} {r : Res β} (h : (bif b then .stuck else r) ≠ .stuck) : b = false ∧ (bif b then .stuck else r) = r := by
  cases b with
  | true => exact absurd rfl h
  | false => exact ⟨rfl, rfl⟩
theorem cond_inv' {b : Bool} {r : Res β} (h : (bif b then r else .stuck) ≠ .stuck) : b = true ∧ (bif b then r else .stuck) = r := by
  cases b with
  | false => exact absurd rfl h
  | true => exact ⟨rfl, rfl⟩
end

theorem getD_of {xs : List T} {i : Nat} {e d : T} (h : xs[i]? = some e) : xs.getD i d = e := by rw [List.getD_eq_getElem?_getD, h]; rfl

section
variable {β : Type} {E : Env} {st : St} {F : Nat → Prop} {κ : Nat → Value} {w : World}

theorem loadK_sound {t : TypeId} {p : PV} {K : PV → Res β} {v : Value} (h : loadK E st t p K ≠ .stuck) (s : SI F κ w st.heap) (hp : RP F κ st.heap.length w p v) :
    ∃ q u, loadK E st t p K = K q ∧ (Instr.loadAt t v).run E.P w = .ok u w ∧ RP F κ st.heap.length w q u := by
  unfold loadK at h ⊢
  cases hs : szP E.P t with
  | none => simp [hs] at h
  | some sz =>
    cases ha : aggP E.P t with
    | none => simp [hs, ha] at h
    | some a =>
      simp only [hs, ha] at h ⊢
      obtain ⟨hg, he⟩ := cond_inv h
      rw [he] at h ⊢
      replace hg := guard_of hg
      clear he
      have hrows : ∀ {x : T} {b p k o : Nat} {val : Nat → Value}, x.cells.length = k → (k = 1 → x.isAgg = false) → (∀ j, j < k → (val j).oneCell' = true) → (∀ j, j < k → w.cell? ⟨b, p + j, none⟩ = some (val j)) →
          (∀ j y, x.cells[j]? = some y → Rd F w y (val j)) → (∀ K' : PV → Res β, (bif o == 0 && sz == k then K' (.t x) else bif decide (o + sz ≤ k) then K' (.t (x.partD o sz a)) else .stuck) ≠ .stuck →
          ∃ q u, (bif o == 0 && sz == k then K' (.t x) else bif decide (o + sz ≤ k) then K' (.t (x.partD o sz a)) else .stuck) = K' q ∧ (Instr.loadAt t (.pointer (some ⟨b, p + o, none⟩))).run E.P w = .ok u w ∧ RP F κ st.heap.length w q u) := by
        intro x b p k o val hk hag h1 hc hr K' hne
        cases hw : (o == 0 && sz == k) with
        | true =>
          simp only [Bool.and_eq_true, beq_iff_eq] at hw
          obtain ⟨rfl, rfl⟩ := hw
          obtain ⟨u, h2, _, h3⟩ := load_rows hs ha hg hk hag h1 hc hr 0 (by omega)
          exact ⟨_, u, rfl, h2, .t (h3 rfl rfl)⟩
        | false =>
          rw [hw] at hne
          simp only [cond_false] at hne ⊢
          obtain ⟨h5, h6⟩ := cond_inv' hne
          rw [h6]
          obtain ⟨u, h2, h3, _⟩ := load_rows hs ha hg hk hag h1 hc hr o (by simpa using h5)
          exact ⟨_, u, rfl, h2, .t h3⟩
      cases hp with
      | @ptr l o b hN hl =>
        cases ho : st.heap[l]? with
        | none => simp [ho] at h
        | some obj =>
          have hro := s.ro l obj ho
          cases obj with
          | box e n v =>
            simp only [ho] at h ⊢
            obtain ⟨b', vs, vv, r1, r2, r3, r4, r5, r6⟩ := hro
            rw [hl] at r1
            injection r1 with r1; injection r1 with r1; injection r1 with r1
            subst r1
            subst r3
            have hcell : ∀ j c, vv.cells.toList[j]? = some c → w.cell? ⟨b, j, none⟩ = some c := fun j c hc => by
              simp only [World.cell?, r2]; simpa using hc
            have hpart : o + sz ≤ n → ∃ u, (Instr.loadAt t (.pointer (some ⟨b, o, none⟩))).run E.P w = .ok u w ∧ RP F κ st.heap.length w (v.part o sz a) u := by
              intro hle
              refine ⟨_, run_load_cells hs ha w b o ((vv.cells.toList.drop o).take sz) (by simp; omega) (by rcases hg with ⟨rfl, _⟩ | ⟨rfl, h⟩ <;> simp_all) (fun j c hc => ?_), ?_⟩
              · rw [List.getElem?_take] at hc
                split at hc
                · rw [List.getElem?_drop] at hc; exact hcell _ _ hc
                · cases hc
              · have := r6.cell_of (n := n) (o := o) (s := sz) (a := a) r4 r5 hle hg
                rcases hg with ⟨rfl, h2⟩ | ⟨rfl, rfl⟩
                · simpa using this
                · simpa [List.getD_eq_getElem?_getD, List.getElem?_take] using this
            cases hw : (o == 0 && sz == n && decide (2 ≤ n)) with
            | true =>
              simp only [Bool.and_eq_true, beq_iff_eq, decide_eq_true_eq] at hw
              obtain ⟨⟨rfl, rfl⟩, h2⟩ := hw
              rcases hg with ⟨rfl, _⟩ | ⟨rfl, h3⟩
              · refine ⟨_, _, rfl, run_load_cells hs ha w b 0 vv.cells.toList (by simp [r4]) (by simp) (fun j c hc => by simpa using hcell j c hc), ?_⟩
                simp only [if_true, Array.toArray_toList]
                have : vv = .agg vv.cells := by
                  cases vv <;> first | rfl | (simp [Value.cells] at r4; omega)
                rw [← this]; exact r6
              · omega
            | false =>
              rw [hw] at h
              simp only [cond_false] at h ⊢
              obtain ⟨h5, h6⟩ := cond_inv' h
              rw [h6]
              obtain ⟨u, h7, h8⟩ := hpart (by simpa using h5)
              exact ⟨_, u, rfl, h7, h8⟩
          | fbox e n x =>
            simp only [ho] at h ⊢
            obtain ⟨b', r1, r2, r3⟩ := hro
            rw [r1] at r2
            rw [hl] at r1
            injection r1 with r1; injection r1 with r1; injection r1 with r1
            subst r1
            cases r2 with
            | ref val hF hs' h1 hc hr =>
              have := hrows (b := b) (p := 0) (k := n) (o := o) r3 (fun h => hs' (by omega)) (fun j hj => h1 j (by omega)) (fun j hj => hc j (by omega)) hr K h
              simpa using this
          | _ => simp [ho] at h
      | @eptr l k i o b n c hN hl hi =>
        cases ho : st.heap[l]? with
        | none => simp [ho] at h
        | some obj =>
          have hro := s.ro l obj ho
          cases obj with
          | row e k' xs =>
            simp only [ho] at h ⊢
            obtain ⟨hk, e1⟩ := cond_inv' h
            rw [e1] at h ⊢
            have hk' : k' = k := by simpa using hk
            subst hk'
            obtain ⟨A, c', e2, _⟩ := row_len hro
            rw [hl] at e2
            injection e2 with e2 e3 e4
            obtain ⟨val, g1, g2, g3, g4, g5⟩ := row_cells hro hl (i := i) (by omega)
            exact hrows g1 g2 g3 g4 g5 K h
          | frow e k' xs =>
            simp only [ho] at h ⊢
            obtain ⟨hk, e1⟩ := cond_inv' h
            rw [e1] at h ⊢
            have hk' : k' = k := by simpa using hk
            subst hk'
            obtain ⟨r1, r2⟩ := hro
            rw [hl] at r1
            have hn := (sl_len r1).1
            obtain ⟨b', o', a1, a2, val, g1, g2, g3, g4, g5⟩ := sl_cells r1 (i := i) (by omega)
            injection a1 with a1
            injection a1 with a1 a3
            subst a1
            subst a3
            have := hrows g1 g2 g3 g4 g5 K h
            simpa using this
          | vec e k' m xs =>
            simp only [ho] at h ⊢
            obtain ⟨hk, e1⟩ := cond_inv' h
            rw [e1] at h ⊢
            simp only [Bool.and_eq_true, beq_iff_eq, decide_eq_true_eq] at hk
            obtain ⟨rfl, hos⟩ := hk
            obtain ⟨rfl, val, g1, g2, g3⟩ := vec_cells hro hl hi
            have hxl : xs.length = n * k' := by obtain ⟨_, _, _, h3, _⟩ := hro; exact h3
            have hin : i * k' + k' ≤ n * k' := by
              calc i * k' + k' = (i + 1) * k' := by rw [Nat.succ_mul]
                _ ≤ n * k' := Nat.mul_le_mul_right _ hi
            refine ⟨_, _, rfl, run_load_cells hs ha w b (i * k' + o) ((List.range sz).map fun j => val (o + j)) (by simp) (by rcases hg with ⟨rfl, _⟩ | ⟨rfl, h⟩ <;> simp_all) (fun j v hv => ?_), ?_⟩
            · have hj : j < sz := by have := (List.getElem?_eq_some_iff.1 hv).1; simpa using this
              rw [List.getElem?_map, List.getElem?_range hj] at hv
              simp at hv
              subst hv
              rw [Nat.add_assoc]
              exact g2 _ (by omega)
            · rcases hg with ⟨rfl, _⟩ | ⟨rfl, rfl⟩
              · simp only [if_true, cond_true]
                refine mkAgg_rp (by simp; omega) (fun v hv => ?_) (fun j p v hp hv => ?_)
                · obtain ⟨j, hj, rfl⟩ := List.mem_map.1 hv
                  exact g1 _ (by have := List.mem_range.1 hj; omega)
                · have hj : j < sz := by have := (List.getElem?_eq_some_iff.1 hv).1; simpa using this
                  rw [List.getElem?_map, List.getElem?_range hj] at hv
                  simp only [Option.map_some, Option.some.injEq] at hv
                  subst hv
                  rw [List.getElem?_take, if_pos hj, List.getElem?_drop] at hp
                  exact g3 (o + j) p (by omega) (by rw [← hp]; congr 1; omega)
              · simp only [Bool.false_eq_true, if_false, cond_false]
                have hx : i * k' + o < xs.length := by omega
                have := g3 o (xs.getD (i * k' + o) .junk) (by omega) (by rw [List.getD_eq_getElem?_getD, List.getElem?_eq_getElem hx]; rfl)
                simpa [List.range_succ] using this
          | _ => simp [ho] at h
      | @rp k x o b p val hF hk hs' h1 hc hr =>
        exact hrows hk hs' h1 hc hr K h
      | @t x v hx =>
        simp only [] at h ⊢
        obtain ⟨y, rfl, e⟩ := ptrT_inv h
        rw [e] at h ⊢
        obtain ⟨h5, h6⟩ := chk_inv h
        rw [h6]
        cases hx with
        | ref val hF hs' h1 hc hr =>
          have h5' : y.cells.length = sz := by simpa using h5
          obtain ⟨u, h2, _, h3⟩ := load_rows hs ha hg h5' (fun h => hs' (by omega)) (fun j hj => h1 j (by omega)) (fun j hj => hc j (by omega)) hr 0 (by omega)
          exact ⟨_, u, rfl, by simpa using h2, .t (h3 rfl rfl)⟩
      | _ => exact absurd rfl h
end
end Go.Sim

/- Elements, fields, arithmetic, comparisons, lengths, cuts. -/
namespace Go.Sim
open Go.RowKit
set_option linter.unusedVariables false
set_option linter.unusedSimpArgs false

theorem elP_underlying {P : Program} {t e : TypeId} (h : elP P t = some e) : P.underlying t = some (.slice e) := by
  unfold elP at h
  cases hu : P.underlying t with
  | none => simp [hu] at h
  | some d => cases d <;> simp_all
theorem kindP_underlying {P : Program} {t : TypeId} {k : IntKind} (h : kindP P t = some k) : P.underlying t = some (.int k) := by
  unfold kindP at h
  cases hu : P.underlying t with
  | none => simp [hu] at h
  | some d => cases d <;> simp_all

/-! ### wrapping -/
theorem wrap_ok (k : IntKind) (n : Int) : kindOk k (k.wrap n) = true := by
  cases k <;> (simp only [kindOk, IntKind.wrap, IntKind.min, IntKind.max, IntKind.signed, IntKind.bits, Bool.and_eq_true, decide_eq_true_eq]; simp; omega)
theorem tmod_ok {k : IntKind} {a b : Int} (h : kindOk k a = true) : kindOk k (a.tmod b) = true := by
  have h2 : (a.tmod b).natAbs ≤ a.natAbs := by
    rw [Int.natAbs_tmod]
    exact Nat.mod_le _ _
  have h3 : 0 ≤ a → 0 ≤ a.tmod b := fun h => Int.tmod_nonneg _ h
  have h4 : a ≤ 0 → a.tmod b ≤ 0 := fun h => by
    have := Int.tmod_nonneg b (show 0 ≤ -a by omega)
    rw [Int.neg_tmod] at this
    omega
  simp only [kindOk, Bool.and_eq_true, decide_eq_true_eq] at h ⊢
  cases k <;> simp [IntKind.min, IntKind.max, IntKind.signed, IntKind.bits] at h ⊢ <;> omega
theorem fdiv_ok {k : IntKind} {a : Int} (n : Nat) (h : kindOk k a = true) : kindOk k (a.fdiv (2 ^ n)) = true := by
  have hp : (0 : Int) < 2 ^ n := Int.pow_pos (by omega)
  rw [Int.fdiv_eq_ediv_of_nonneg _ (by omega)]
  have h3 : 0 ≤ a → 0 ≤ a / 2 ^ n ∧ a / 2 ^ n ≤ a := fun h => ⟨Int.ediv_nonneg h (by omega), Int.ediv_le_self _ h⟩
  have h4 : a < 0 → a ≤ a / 2 ^ n ∧ a / 2 ^ n < 0 := fun h => by
    refine ⟨?_, Int.ediv_neg_of_neg_of_pos h hp⟩
    rw [Int.le_ediv_iff_mul_le hp]
    have : (1 : Int) ≤ 2 ^ n := by omega
    have h5 := Int.mul_nonneg (show 0 ≤ -a by omega) (show 0 ≤ (2 : Int) ^ n - 1 by omega)
    rw [Int.mul_sub, Int.neg_mul] at h5
    omega
  simp only [kindOk, Bool.and_eq_true, decide_eq_true_eq] at h ⊢
  cases k <;> simp [IntKind.min, IntKind.max, IntKind.signed, IntKind.bits] at h ⊢ <;> omega
theorem kindOk_nat {n : Nat} (h : n ≤ big) : kindOk .i64 (n : Int) = true := by
  unfold big at h
  simp [kindOk, IntKind.min, IntKind.max, IntKind.signed, IntKind.bits]
  omega

section
variable {β : Type} {E : Env} {st : St} {F : Nat → Prop} {κ : Nat → Value} {w : World}

theorem indexK_sound {t : TypeId} {p ix : PV} {K : PV → Res β} {v vi : Value} (h : indexK E st t p ix K ≠ .stuck) (s : SI F κ w st.heap) (hp : RP F κ st.heap.length w p v) (hi : RP F κ st.heap.length w ix vi) :
    ∃ q u, indexK E st t p ix K = K q ∧ (Instr.indexAt t v vi).run E.P w = .ok u w ∧ RP F κ st.heap.length w q u := by
  unfold indexK at h ⊢
  cases he : elP E.P t with
  | none => simp [he] at h
  | some e =>
    cases hs : szP E.P e with
    | none => simp [he, hs] at h
    | some k =>
      simp only [he, hs] at h ⊢
      have hu := elP_underlying he
      cases hi with
      | @t iv vi hi =>
        simp only [] at h ⊢
        obtain ⟨ki, i, rfl, e1⟩ := anyT_inv h
        rw [e1] at h ⊢
        cases hi with
        | int hik =>
          have hrun : ∀ (ad : Addr) (n c : Nat), 0 ≤ i → i.toNat < n → (Instr.indexAt t (.slice (some ad) n c) (.int ki i)).run E.P w = .ok (.pointer (some (ad.add (i.toNat * k)))) w := by
            intro ad n c h0 h1
            have : 0 ≤ i ∧ i < (n : Int) := ⟨h0, by omega⟩
            simp [Instr.indexAt, asIntOf, run_underlying hu, this, run_sizeOf' hs]
          cases hp with
          | @own l A n c hN hl =>
            simp only [] at h ⊢
            cases ho : st.heap[l]? with
            | none => simp [ho] at h
            | some obj =>
              have hro := s.ro l obj ho
              have fin : ∀ {xs : List T} {k' : Nat} (K' : PV → Res β), n = xs.length → (∀ ad, A = some ad → ∃ b, ad = ⟨b, 0, none⟩) → (0 < n → A ≠ none) →
                  (bif k' == k then chk (decide (0 ≤ i) && decide (i < xs.length)) (K' (.eptr l k i.toNat 0)) else .stuck) ≠ .stuck →
                  ∃ q u, (bif k' == k then chk (decide (0 ≤ i) && decide (i < xs.length)) (K' (.eptr l k i.toNat 0)) else .stuck) = K' q ∧ (Instr.indexAt t (.slice A n c) (.int ki i)).run E.P w = .ok u w ∧ RP F κ st.heap.length w q u := by
                intro xs k' K' hn hA hne h
                obtain ⟨hk, e2⟩ := cond_inv' h
                rw [e2] at h ⊢
                obtain ⟨hb, e3⟩ := chk_inv h
                rw [e3]
                simp only [Bool.and_eq_true, decide_eq_true_eq] at hb
                cases A with
                | none => exact absurd rfl (hne (by omega))
                | some ad =>
                  obtain ⟨b, rfl⟩ := hA ad rfl
                  refine ⟨_, _, rfl, hrun _ n c hb.1 (by omega), ?_⟩
                  rw [add_mid, Nat.zero_add]
                  exact .eptr (n := n) (c := c) hN hl (by omega)
              cases obj with
              | row e' k' xs =>
                simp only [ho] at h ⊢
                obtain ⟨cs, h1, _⟩ := hro
                rw [hl] at h1
                rcases h1.2 with ⟨e2, e3⟩ | ⟨g, cap, cur, e2, _⟩
                · injection e2 with e2 e4 e5
                  exact fin K (by omega) (fun ad h => by rw [e2] at h; cases h) (by omega) h
                · injection e2 with e2 e4 e5
                  exact fin K e4 (fun ad h => by rw [e2] at h; injection h with h; exact ⟨g, h.symm⟩) (by rw [e2]; simp) h
              | frow e' k' xs =>
                simp only [ho] at h ⊢
                obtain ⟨r1, r2⟩ := hro
                rw [hl] at r1
                have hn := (sl_len r1).1
                refine fin K hn (fun ad h => r2 ad n c (by rw [hl, h])) (fun h0 => ?_) h
                obtain ⟨b, o, a1, _⟩ := sl_cells r1 (i := 0) (by omega)
                rw [a1]; simp
              | vec e' k' m xs =>
                simp only [ho] at h ⊢
                obtain ⟨cs, h1, _⟩ := hro
                rw [hl] at h1
                have hrep : (List.replicate m T.nilp).length = m := by simp
                rcases h1.2 with ⟨e2, e3⟩ | ⟨g, cap, cur, e2, _⟩
                · injection e2 with e2 e4 e5
                  have := fin (xs := List.replicate m .nilp) (k' := k') K (by rw [hrep]; omega) (fun ad h => by rw [e2] at h; cases h) (fun h0 => absurd h0 (by omega)) (by rw [hrep]; exact h)
                  rw [hrep] at this
                  exact this
                · injection e2 with e2 e4 e5
                  have := fin (xs := List.replicate m .nilp) (k' := k') K (by rw [hrep]; exact e4) (fun ad h => by rw [e2] at h; injection h with h; exact ⟨g, h.symm⟩) (by rw [e2]; simp) (by rw [hrep]; exact h)
                  rw [hrep] at this
                  exact this
              | _ => simp [ho] at h
          | @view l k0 lo hi A0 n0 c0 hN hl =>
            simp only [] at h ⊢
            cases ho : st.heap[l]? with
            | none => simp [ho] at h
            | some obj =>
              have hro := s.ro l obj ho
              cases obj with
              | row e' k' xs =>
                simp only [ho] at h ⊢
                obtain ⟨hk, e2⟩ := cond_inv' h
                rw [e2] at h ⊢
                obtain ⟨hb, e3⟩ := chk_inv h
                rw [e3]
                simp only [Bool.and_eq_true, beq_iff_eq, decide_eq_true_eq] at hb hk
                obtain ⟨⟨rfl, rfl⟩, hx⟩ := hk
                obtain ⟨A, n, c, A', ⟨v1, vb⟩, v2, v3, v4, v5⟩ := hl
                injection v2 with v2 v7 v8
                subst v2; subst v7; subst v8
                obtain ⟨cs, h1, _⟩ := hro
                rw [v1] at h1
                rcases h1.2 with ⟨q2, q3⟩ | ⟨g, cap, cur, q2, _, _, q5, _⟩
                · injection q2 with q2 q4 q5; omega
                · injection q2 with q2 q4 q5'
                  rcases v5 with ⟨rfl, _⟩ | ⟨b, o, rfl, rfl, v6⟩
                  · cases q2
                  · refine ⟨_, _, rfl, hrun _ _ _ hb.1 (by omega), ?_⟩
                    rw [add_mid, v6 (by omega), ← Nat.add_mul]
                    exact .eptr (n := n) (c := c) (o := 0) hN v1 (by omega)
              | _ => simp [ho] at h
          | @full k' xs A hx =>
            simp only [] at h ⊢
            obtain ⟨hk, e2⟩ := cond_inv' h
            rw [e2] at h ⊢
            have hk' : k' = k := by simpa using hk
            subst hk'
            obtain ⟨y, h0, h1, h2, e3⟩ := atT_inv h
            rw [e3]
            obtain ⟨b, o, a1, a2, val, g1, g2, g3, g4, g5⟩ := sl_cells hx h1
            subst a1
            rw [getD_of h2] at g1 g2 g5
            refine ⟨_, _, rfl, hrun _ _ _ h0 h1, ?_⟩
            rw [add_mid]
            exact .rp (p := o + i.toNat * k') (o := 0) val a2 g1 g2 g3 g4 g5
          | @t x v hx =>
            simp only [] at h ⊢
            obtain ⟨xs, rfl, e2⟩ := slT_inv h
            rw [e2] at h ⊢
            obtain ⟨y, h0, h1, h2, e3⟩ := atT_inv h
            rw [e3]
            cases v with
            | slice A n c =>
              obtain ⟨b, o, a1, a2, val, g1, g2, g3, g4, g5⟩ := sl_cells hx h1
              have hn := (sl_len hx).1
              subst a1
              rw [getD_of h2] at g1 g2 g5
              refine ⟨_, _, rfl, hrun _ _ _ h0 (by omega), ?_⟩
              rw [add_mid]
              exact .rp (p := o + i.toNat * k) (o := 0) val a2 g1 g2 g3 g4 g5
            | _ => cases hx
          | _ => exact absurd rfl h
      | _ => exact absurd rfl h

theorem fieldAddrK_sound {t : TypeId} {f : Nat} {p : PV} {K : PV → Res β} {v : Value} (h : fieldAddrK E t f p K ≠ .stuck) (hp : RP F κ st.heap.length w p v) :
    ∃ q u, fieldAddrK E t f p K = K q ∧ (Instr.fieldAt t v f).run E.P w = .ok u w ∧ RP F κ st.heap.length w q u := by
  unfold fieldAddrK at h ⊢
  cases hf : fieldP E.P t f with
  | none => simp [hf] at h
  | some of =>
    obtain ⟨off, ft⟩ := of
    simp only [hf] at h ⊢
    have hfield : ∃ fs fd, E.P.underlying t = some (.struct fs) ∧ fs[f]? = some fd ∧ fd.offset = off ∧ fd.type = ft := by
      unfold fieldP at hf
      cases hu : E.P.underlying t with
      | none => simp [hu] at hf
      | some d =>
        cases d <;> simp [hu, Option.map_eq_some_iff] at hf
        obtain ⟨fd, h1, h2, h3⟩ := hf
        exact ⟨_, fd, rfl, h1, h2, h3⟩
    obtain ⟨fs, fd, hu, hfd, rfl, rfl⟩ := hfield
    cases hs : szP E.P fd.type with
    | none => simp [hs] at h
    | some sz =>
      cases sz with
      | zero => simp [hs] at h
      | succ sz =>
        simp only [hs] at h ⊢
        have hrun : ∀ b o, (Instr.fieldAt t (.pointer (some ⟨b, o, none⟩)) f).run E.P w = .ok (.pointer (some ⟨b, o + fd.offset, none⟩)) w := by
          intro b o
          simp [Instr.fieldAt, run_underlying hu, hfd, Instr.sureAddr, fieldPlace, run_sizeOf' hs, add_mid]
        cases hp with
        | ptr hN hl => exact ⟨_, _, rfl, hrun _ _, .ptr hN hl⟩
        | @eptr l k i o b n c hN hl hi =>
          refine ⟨_, _, rfl, hrun _ _, ?_⟩
          rw [Nat.add_assoc]
          exact .eptr hN hl hi
        | @rp k x o b p val hF hk hs' h1 hc hr =>
          refine ⟨_, _, rfl, hrun _ _, ?_⟩
          rw [Nat.add_assoc]
          exact .rp val hF hk hs' h1 hc hr
        | @t x v hx =>
          simp only [] at h ⊢
          cases hn : szP E.P t with
          | none => simp [hn] at h
          | some n =>
            simp only [hn] at h ⊢
            obtain ⟨y, rfl, e1⟩ := ptrT_inv h
            rw [e1] at h ⊢
            obtain ⟨h5, e2⟩ := chk_inv h
            rw [e2]
            have h5' : y.cells.length = n := by simpa using h5
            cases hx with
            | ref val hF hs' h1 hc hr =>
              exact ⟨_, _, rfl, hrun _ _, .rp val hF h5' (fun h => hs' (by omega)) (fun j hj => h1 j (by omega)) (fun j hj => hc j (by omega)) hr⟩
        | _ => exact absurd rfl h
end

/-! ### '==' by cells -/
theorem eqLs_append : ∀ (l1 l2 : List Nat) (xs ys : List T) (b : Bool), T.eqLs (l1 ++ l2) xs ys = some b →
    ∃ b1 b2, T.eqLs l1 (xs.take l1.length) (ys.take l1.length) = some b1 ∧ T.eqLs l2 (xs.drop l1.length) (ys.drop l1.length) = some b2 ∧ b = (b1 && b2)
  | [], l2, xs, ys, b, h => ⟨true, b, by simp [T.eqLs], by simpa using h, by simp⟩
  | k :: l1, l2, xs, ys, b, h => by
    have step : ∀ (c : Bool) (xs ys : List T), (T.eqLs (l1 ++ l2) xs ys).map (c && ·) = some b →
        ∃ b1 b2, (T.eqLs l1 (xs.take l1.length) (ys.take l1.length)).map (c && ·) = some b1 ∧ T.eqLs l2 (xs.drop l1.length) (ys.drop l1.length) = some b2 ∧ b = (b1 && b2) := by
      intro c xs ys h
      simp only [Option.map_eq_some_iff] at h
      obtain ⟨b', h1, h2⟩ := h
      obtain ⟨b1, b2, h3, h4, h5⟩ := eqLs_append l1 l2 xs ys b' h1
      exact ⟨c && b1, b2, by simp [h3], h4, by rw [← h2, h5, Bool.and_assoc]⟩
    rw [List.cons_append] at h
    unfold T.eqLs at h
    split at h
    · simp_all
    · rename_i h3
      injection h3 with h1 h1'
      subst h1 h1'
      split at h
      · rename_i hk
        obtain ⟨b1, b2, h3, h4, h5⟩ := step _ _ _ h
        exact ⟨b1, b2, by simpa [T.eqLs, hk] using h3, by simpa using h4, h5⟩
      · cases h
    · rename_i h3
      injection h3 with h1 h1'
      subst h1 h1'
      obtain ⟨b1, b2, h3, h4, h5⟩ := step _ _ _ h
      exact ⟨b1, b2, by simpa [T.eqLs] using h3, by simpa using h4, h5⟩
    · rename_i h3
      injection h3 with h1 h1'
      subst h1 h1'
      obtain ⟨b1, b2, h3, h4, h5⟩ := step _ _ _ h
      exact ⟨b1, b2, by simpa [T.eqLs] using h3, by simpa using h4, h5⟩
    · cases h

/-- A type's value out of its cells. -/
def valOf (a : Bool) (vs : List Value) : Value := if a then .agg vs.toArray else vs.getD 0 undef

section
variable {P : Program}
theorem run_part_of {t : TypeId} {s : Nat} {a : Bool} (hs : szP P t = some s) (ha : aggP P t = some a) (h1 : a = true ∨ s = 1) (w : World) (vs : List Value) (o : Nat) (hl : o + s ≤ vs.length) :
    (part t vs.toArray o).run P w = .ok (valOf a ((vs.drop o).take s)) w := by
  simp only [part, Sem.run_bind, run_isAgg' ha, Result.andThen_ok]
  cases a with
  | true =>
    simp only [if_true, Sem.run_bind, run_sizeOf' hs, Result.andThen_ok, Sem.run_pure, valOf]
    congr 2
    apply Array.ext'
    simp [Array.toList_extract, List.extract_eq_take_drop]
  | false =>
    obtain rfl : s = 1 := by simpa using h1
    have ho : o < vs.length := by omega
    simp [valOf, List.getElem?_eq_getElem ho, List.getD_eq_getElem?_getD, List.getElem?_take]

theorem aggP_struct {t : TypeId} {fs : Array Field} (h : P.underlying t = some (.struct fs)) : aggP P t = some true := by simp [aggP, h]

theorem eq_sound (D : Nat) : ∀ (d : Nat) (t : TypeId) (l : List Nat), eqLv P d t = some l → ∀ (a : Bool), aggP P t = some a → ∀ (F : Nat → Prop) (w : World) (xs ys : List T) (vs us : List Value) (b : Bool),
    vs.length = l.length → us.length = l.length → xs.length = l.length → ys.length = l.length →
    (∀ (i : Nat) (x : T) (v : Value), xs[i]? = some x → vs[i]? = some v → Rd F w x v) → (∀ (i : Nat) (x : T) (v : Value), ys[i]? = some x → us[i]? = some v → Rd F w x v) →
    T.eqLs l xs ys = some b → (Op.equalIn (D + d) t (valOf a vs) (valOf a us)).run P w = .ok b w
  | 0, t, l, h => by simp [eqLv] at h
  | d + 1, t, l, h => by
    intro a ha F w xs ys vs us b hv hu hx hy rx ry he
    unfold eqLv at h
    have one : ∀ {k : Nat}, l = [k] → a = false → ∃ x y v u, xs = [x] ∧ ys = [y] ∧ vs = [v] ∧ us = [u] ∧ Rd F w x v ∧ Rd F w y u := by
      intro k hl _
      subst hl
      match xs, ys, vs, us, hx, hy, hv, hu with
      | [x], [y], [v], [u], _, _, _, _ => exact ⟨x, y, v, u, rfl, rfl, rfl, rfl, rx 0 x v rfl rfl, ry 0 y u rfl rfl⟩
    cases hd : P.underlying t with
    | none => simp [hd] at h
    | some kd =>
      cases kd with
      | int k =>
        simp only [hd, Option.some.injEq] at h
        have ha' : a = false := by simpa [aggP, hd] using ha.symm
        obtain ⟨x, y, v, u, rfl, rfl, rfl, rfl, r1, r2⟩ := one h.symm ha'
        subst h; subst ha'
        cases x <;> cases y <;> simp [T.eqLs] at he
        cases r1; cases r2
        obtain ⟨rfl, he⟩ := he
        simp only [valOf, Bool.false_eq_true, if_false, List.getD_cons_zero]
        rw [show D + (d + 1) = (D + d) + 1 from rfl, run_equalIn_int w (D + d) t _ k _ _ hd, ← he]
      | bool =>
        simp only [hd, Option.some.injEq] at h
        have ha' : a = false := by simpa [aggP, hd] using ha.symm
        obtain ⟨x, y, v, u, rfl, rfl, rfl, rfl, r1, r2⟩ := one h.symm ha'
        subst h; subst ha'
        cases x <;> cases y <;> simp [T.eqLs] at he
        cases r1; cases r2
        simp only [valOf, Bool.false_eq_true, if_false, List.getD_cons_zero]
        rw [show D + (d + 1) = (D + d) + 1 from rfl, run_equalIn_bool' w (D + d) t _ _ hd, ← he]
      | string =>
        simp only [hd, Option.some.injEq] at h
        have ha' : a = false := by simpa [aggP, hd] using ha.symm
        obtain ⟨x, y, v, u, rfl, rfl, rfl, rfl, r1, r2⟩ := one h.symm ha'
        subst h; subst ha'
        cases x <;> cases y <;> simp [T.eqLs] at he
        cases r1; cases r2
        simp only [valOf, Bool.false_eq_true, if_false, List.getD_cons_zero]
        rw [show D + (d + 1) = (D + d) + 1 from rfl, run_equalIn_string w (D + d) t _ _ hd, ← he, beq_toListBytes]
      | struct fs =>
        simp only [hd] at h
        have ha' : a = true := by simpa [aggP, hd] using ha.symm
        subst ha'
        cases hst : P.stoodInHeld t with
        | true => simp [hst] at h
        | false =>
          simp only [hst, cond_false] at h
          have hfs : P.fieldsOf t = fs := by simp [Program.fieldsOf, hd]
          have hrun := run_equalIn_struct w (D + d) t vs.toArray us.toArray (by rw [hfs]; exact hd) hst
          rw [hfs] at hrun
          rw [show D + (d + 1) = (D + d) + 1 from rfl]
          show (Op.equalIn (D + d + 1) t (.agg vs.toArray) (.agg us.toArray)).run P w = _
          rw [hrun]
          clear hrun hfs hd
          have key : ∀ (fl : List Field) (off : Nat) (l : List Nat) (b : Bool), eqLvs P (eqLv P d) fl off = some l → vs.length = off + l.length → us.length = off + l.length → xs.length = off + l.length → ys.length = off + l.length →
              T.eqLs l (xs.drop off) (ys.drop off) = some b → (Op.eqFields (D + d) vs.toArray us.toArray fl).run P w = .ok b w := by
            intro fl
            induction fl with
            | nil =>
              intro off l b h1 _ _ _ _ h2
              simp [eqLvs] at h1
              subst h1
              have : b = true := by
                unfold T.eqLs at h2
                split at h2 <;> simp_all
              subst this
              simp [Op.eqFields]
            | cons f fl ih =>
              intro off l b h1 hv hu hx hy h2
              unfold eqLvs at h1
              cases hg : (f.name == "_" || !(f.offset == off)) with
              | true => simp [hg] at h1
              | false =>
                simp only [hg, cond_false] at h1
                simp only [Bool.or_eq_false_iff, Bool.not_eq_false', beq_iff_eq, beq_eq_false_iff_ne] at hg
                cases e1 : eqLv P d f.type with
                | none => simp [e1] at h1
                | some l1 =>
                  cases e2 : szP P f.type with
                  | none => simp [e1, e2] at h1
                  | some s =>
                    cases e3 : aggP P f.type with
                    | none => simp [e1, e2, e3] at h1
                    | some af =>
                      simp only [e1, e2, e3] at h1
                      cases hc : (l1.length == s && (af || s == 1)) with
                      | false => simp [hc] at h1
                      | true =>
                        simp only [hc, cond_true, Option.map_eq_some_iff] at h1
                        obtain ⟨l2, h3, rfl⟩ := h1
                        simp only [Bool.and_eq_true, Bool.or_eq_true, beq_iff_eq] at hc
                        obtain ⟨rfl, hc2⟩ := hc
                        rw [List.length_append] at hv hu hx hy
                        obtain ⟨b1, b2, h4, h5, rfl⟩ := eqLs_append l1 l2 _ _ _ h2
                        rw [List.drop_drop] at h5
                        rw [List.drop_drop] at h5
                        have r1 := eq_sound D d f.type l1 e1 af e3 F w ((xs.drop off).take l1.length) ((ys.drop off).take l1.length) ((vs.drop off).take l1.length) ((us.drop off).take l1.length) b1
                          (by simp; omega) (by simp; omega) (by simp; omega) (by simp; omega)
                          (fun i x v g1 g2 => by
                            rw [List.getElem?_take] at g1 g2
                            split at g1
                            · rename_i hi
                              rw [if_pos hi] at g2
                              rw [List.getElem?_drop] at g1 g2
                              exact rx _ _ _ g1 g2
                            · cases g1)
                          (fun i x v g1 g2 => by
                            rw [List.getElem?_take] at g1 g2
                            split at g1
                            · rename_i hi
                              rw [if_pos hi] at g2
                              rw [List.getElem?_drop] at g1 g2
                              exact ry _ _ _ g1 g2
                            · cases g1) h4
                        have r2 := ih (off + l1.length) l2 b2 h3 (by omega) (by omega) (by omega) (by omega) h5
                        simp only [Op.eqFields, ne_eq, hg.1, not_false_eq_true, if_true, Sem.run_bind]
                        rw [hg.2, run_part_of e2 e3 hc2 w vs off (by omega)]
                        simp only [Result.andThen_ok]
                        rw [run_part_of e2 e3 hc2 w us off (by omega)]
                        simp only [Result.andThen_ok, r1]
                        cases b1
                        · simp
                        · simpa using r2
          exact key fs.toList 0 l b h (by omega) (by omega) (by omega) (by omega) (by simpa using he)
      | _ => simp [hd] at h
end
end Go.Sim

/- Binary and unary operations, conversions, slices that are read. -/
namespace Go.Sim
open Go.RowKit
set_option linter.unusedVariables false
set_option linter.unusedSimpArgs false

section
variable {β : Type} {E : Env} {st : St} {F : Nat → Prop} {κ : Nat → Value} {w : World}

theorem run_eqGuard_int (op : BinOp) (t : TypeId) (x y : Operand) (k k' : IntKind) (a b : Int) : (eqGuard op t x y (.int k a) (.int k' b)).run E.P w = .ok () w := by
  cases op <;> simp [eqGuard]

theorem arithK_sound {op : BinOp} {k : IntKind} {a b : Int} {K : T → Res β} {t : TypeId} (hop : op ≠ .shl ∧ op ≠ .shr) (h : arithK op k a b K ≠ .stuck) (ha : kindOk k a = true) (hb : kindOk k b = true) :
    ∃ q u, arithK op k a b K = K q ∧ (binOp op t (.int k a) (.int k b)).run E.P w = .ok u w ∧ Rd F w q u := by
  cases op with
  | quo =>
    simp only [arithK] at h ⊢
    obtain ⟨h1, h2⟩ := chk_inv h
    rw [h2]
    have : b ≠ 0 := by simpa using h1
    exact ⟨_, _, rfl, by simp [binOp, Op.intDiv, this], .int (wrap_ok _ _)⟩
  | rem =>
    simp only [arithK] at h ⊢
    obtain ⟨h1, h2⟩ := chk_inv h
    rw [h2]
    have : b ≠ 0 := by simpa using h1
    exact ⟨_, _, rfl, by simp [binOp, Op.intDiv, this], .int (tmod_ok ha)⟩
  | shl => exact absurd rfl hop.1
  | shr => exact absurd rfl hop.2
  | add | sub | mul => exact ⟨_, _, rfl, by simp [binOp, Op.intArith], .int (wrap_ok _ _)⟩
  | and | or | xor | andNot => exact ⟨_, _, rfl, by simp [binOp, Op.intBits], .int (wrap_ok _ _)⟩
  | eql | neq | lss | leq | gtr | geq => exact ⟨_, _, rfl, by simp [binOp, Op.intCmp], .bool⟩

theorem shiftK_sound {op : BinOp} {k k' : IntKind} {a b : Int} {K : T → Res β} {t : TypeId} (h : shiftK op k a b K ≠ .stuck) (ha : kindOk k a = true) :
    ∃ q u, shiftK op k a b K = K q ∧ (binOp op t (.int k a) (.int k' b)).run E.P w = .ok u w ∧ Rd F w q u := by
  cases op with
  | shl =>
    simp only [shiftK] at h ⊢
    obtain ⟨h1, h2⟩ := chk_inv h
    rw [h2]
    have : ¬ b < 0 := by have := of_decide_eq_true h1; omega
    exact ⟨_, _, rfl, by simp [binOp, Op.shift, this], .int (wrap_ok _ _)⟩
  | shr =>
    simp only [shiftK] at h ⊢
    obtain ⟨h1, h2⟩ := chk_inv h
    rw [h2]
    have : ¬ b < 0 := by have := of_decide_eq_true h1; omega
    exact ⟨_, _, rfl, by simp [binOp, Op.shift, this], .int (fdiv_ok _ ha)⟩
  | _ => exact absurd rfl h

def NilV (k : Nat) (v : Value) (b : Bool) : Prop := match k with
  | 0 => ∃ a, v = .pointer a ∧ b = a.isNone
  | 1 => (v = .nilFunc ∧ b = true) ∨ (∃ f fs cs, v = .func f fs cs ∧ b = false)
  | 2 => (v = .nilIface ∧ b = true) ∨ (∃ t x, v = .iface t x ∧ b = false)
  | 3 => v = .slice none 0 0 ∧ b = true
  | _ => False

theorem nilK_sound {k : Nat} {p : PV} {K : Bool → Res β} {v : Value} {N : Nat} (h : nilK k p K ≠ .stuck) (hp : RP F κ N w p v) : ∃ b, nilK k p K = K b ∧ NilV k v b := by
  cases hp with
  | ptr =>
    simp only [nilK] at h ⊢
    obtain ⟨h1, h2⟩ := cond_inv' h
    obtain rfl : k = 0 := by simpa using h1
    exact ⟨false, h2, _, rfl, rfl⟩
  | eptr =>
    simp only [nilK] at h ⊢
    obtain ⟨h1, h2⟩ := cond_inv' h
    obtain rfl : k = 0 := by simpa using h1
    exact ⟨false, h2, _, rfl, rfl⟩
  | rp =>
    simp only [nilK] at h ⊢
    obtain ⟨h1, h2⟩ := cond_inv' h
    obtain rfl : k = 0 := by simpa using h1
    exact ⟨false, h2, _, rfl, rfl⟩
  | fn =>
    simp only [nilK] at h ⊢
    obtain ⟨h1, h2⟩ := cond_inv' h
    obtain rfl : k = 1 := by simpa using h1
    exact ⟨false, h2, .inr ⟨_, _, _, rfl, rfl⟩⟩
  | nil =>
    simp only [nilK] at h ⊢
    obtain ⟨h1, h2⟩ := cond_inv' h
    obtain rfl : k = 3 := by simpa using h1
    exact ⟨true, h2, rfl, rfl⟩
  | t hx =>
    simp only [nilK] at h ⊢
    match k with
    | 0 =>
      cases hx with
      | nilp => exact ⟨true, rfl, _, rfl, rfl⟩
      | ref => exact ⟨false, rfl, _, rfl, rfl⟩
      | _ => exact absurd rfl h
    | 1 =>
      cases hx with
      | nilfn => exact ⟨true, rfl, .inl ⟨rfl, rfl⟩⟩
      | fn => exact ⟨false, rfl, .inr ⟨_, _, _, rfl, rfl⟩⟩
      | _ => exact absurd rfl h
    | 2 =>
      cases hx with
      | nilif => exact ⟨true, rfl, .inl ⟨rfl, rfl⟩⟩
      | iface => exact ⟨false, rfl, .inr ⟨_, _, rfl, rfl⟩⟩
      | _ => exact absurd rfl h
    | k + 3 => exact absurd rfl h
  | _ => exact absurd rfl h

theorem run_equalIn_nil (n : Nat) {t : TypeId} {k : Nat} (hk : nilKind E.P t = some k) {c v : Value} {b : Bool} (hv : NilV k v b) (hc : (k = 0 ∧ c = .pointer none) ∨ (k = 1 ∧ c = .nilFunc) ∨ (k = 2 ∧ c = .nilIface) ∨ (k = 3 ∧ c = .slice none 0 0)) :
    (Op.equalIn (n + 1) t v c).run E.P w = .ok b w ∧ (Op.equalIn (n + 1) t c v).run E.P w = .ok b w := by
  unfold nilKind at hk
  cases hd : E.P.underlying t with
  | none => simp [hd] at hk
  | some d =>
    cases d <;> simp [hd] at hk <;> subst hk <;> simp at hc <;> subst hc
    · obtain ⟨a, rfl, rfl⟩ := hv
      cases a <;> simp [Op.equalIn, run_underlying hd]
    · obtain ⟨rfl, rfl⟩ := hv
      simp [Op.equalIn, run_underlying hd]
    · rcases hv with ⟨rfl, rfl⟩ | ⟨f, fs, cs, rfl, rfl⟩ <;> simp [Op.equalIn, run_underlying hd]
    · rcases hv with ⟨rfl, rfl⟩ | ⟨f, fs, rfl, rfl⟩ <;> simp [Op.equalIn, run_underlying hd]
theorem run_equal_nil {t : TypeId} {k : Nat} (hk : nilKind E.P t = some k) {c v : Value} {b : Bool} (hv : NilV k v b) (hc : (k = 0 ∧ c = .pointer none) ∨ (k = 1 ∧ c = .nilFunc) ∨ (k = 2 ∧ c = .nilIface) ∨ (k = 3 ∧ c = .slice none 0 0)) :
    (Op.equal t v c).run E.P w = .ok b w ∧ (Op.equal t c v).run E.P w = .ok b w := by
  unfold Op.equal Op.maxDepth
  exact run_equalIn_nil 9999 hk hv hc

theorem isNilC_eval {k : Nat} {o : Operand} (h : isNilC k o = true) : ∃ c, o = .const c ∧ ((k = 0 ∧ c = .pointer none) ∨ (k = 1 ∧ c = .nilFunc) ∨ (k = 2 ∧ c = .nilIface) ∨ (k = 3 ∧ c = .slice none 0 0)) := by
  unfold isNilC at h
  split at h <;> simp at h <;> subst h <;> simp

theorem eqLs_len : ∀ (l : List Nat) (xs ys : List T) (b : Bool), T.eqLs l xs ys = some b → xs.length = l.length ∧ ys.length = l.length := by
  intro l
  induction l with
  | nil => intro xs ys b h; unfold T.eqLs at h; split at h <;> simp_all
  | cons k l ih =>
    intro xs ys b h
    unfold T.eqLs at h
    split at h
    · simp_all
    · rename_i h3
      injection h3 with h1 h1'
      subst h1 h1'
      split at h
      · simp only [Option.map_eq_some_iff] at h
        obtain ⟨b', h, _⟩ := h
        have := ih _ _ _ h
        simp [this.1, this.2]
      · cases h
    · rename_i h3
      injection h3 with h1 h1'
      subst h1 h1'
      simp only [Option.map_eq_some_iff] at h
      obtain ⟨b', h, _⟩ := h
      have := ih _ _ _ h
      simp [this.1, this.2]
    · rename_i h3
      injection h3 with h1 h1'
      subst h1 h1'
      simp only [Option.map_eq_some_iff] at h
      obtain ⟨b', h, _⟩ := h
      have := ih _ _ _ h
      simp [this.1, this.2]
    · cases h

theorem run_equal_flat {t : TypeId} {l : List Nat} {s : Nat} {a : Bool} (e1 : eqLv E.P 20 t = some l) (e2 : aggP E.P t = some a) (hls : l.length = s) (hc : (a = true ∧ 2 ≤ s) ∨ (a = false ∧ s = 1)) {x y : T} {vx vy : Value} {b : Bool}
    (r1 : Rd F w x vx) (r2 : Rd F w y vy) (he : T.eqLs l (x.flat l) (y.flat l) = some b) :
    ∃ vs us, vs.length = l.length ∧ us.length = l.length ∧ vx = valOf a vs ∧ vy = valOf a us ∧ (Op.equal t (valOf a vs) (valOf a us)).run E.P w = .ok b w := by
  obtain ⟨hx1, hy1⟩ := eqLs_len _ _ _ _ he
  have hcells : ∀ {x : T} {v : Value}, Rd F w x v → (x.flat l).length = l.length → ∃ vs, v = valOf a vs ∧ vs.length = l.length ∧ ∀ (i : Nat) (y : T) (u : Value), (x.flat l)[i]? = some y → vs[i]? = some u → Rd F w y u := by
    intro x v r hl
    rcases hc with ⟨rfl, h2⟩ | ⟨rfl, rfl⟩
    · have hf : x.flat l = x.cells := by
        unfold T.flat
        split
        · simp at hls; omega
        · rfl
      rw [hf] at hl ⊢
      obtain ⟨cs, rfl⟩ := agg_of_two (x := x) (by omega)
      cases r with
      | @agg _ vs hl' h1 hr => exact ⟨vs, rfl, by simp [T.cells] at hl; omega, hr⟩
    · obtain ⟨k, rfl⟩ := List.length_eq_one_iff.1 hls
      refine ⟨[v], rfl, rfl, fun i y u g1 g2 => ?_⟩
      cases i with
      | zero => simp [T.flat] at g1 g2; subst g1 g2; exact r
      | succ i => simp at g2
  obtain ⟨vs, rfl, hv1, rv⟩ := hcells r1 hx1
  obtain ⟨us, rfl, hu1, ru⟩ := hcells r2 hy1
  have hrun := eq_sound 9980 20 t l e1 a e2 F w _ _ vs us b hv1 hu1 hx1 hy1 rv ru he
  refine ⟨vs, us, hv1, hu1, rfl, rfl, ?_⟩
  unfold Op.equal Op.maxDepth
  exact hrun

set_option maxHeartbeats 1000000 in
theorem flat_sound {t : TypeId} {l : List Nat} {s : Nat} {a : Bool} (e1 : eqLv E.P 20 t = some l) (e2 : aggP E.P t = some a) (hls : l.length = s) (hc : (a = true ∧ 2 ≤ s) ∨ (a = false ∧ s = 1)) (hg : E.P.eqGuardType E.P.depth t = false) (hkind : kindP E.P t = none)
    {x y : T} {vx vy : Value} {b : Bool} (r1 : Rd F w x vx) (r2 : Rd F w y vy) (he : T.eqLs l (x.flat l) (y.flat l) = some b) (ox oy : Operand) :
    (do eqGuard .eql t ox oy vx vy; binOp .eql t vx vy : Sem Value).run E.P w = .ok (.bool b) w ∧ (do eqGuard .neq t ox oy vx vy; binOp .neq t vx vy : Sem Value).run E.P w = .ok (.bool !b) w := by
  obtain ⟨vs, us, hv1, hu1, rfl, rfl, hrun⟩ := run_equal_flat e1 e2 hls hc r1 r2 he
  rcases hc with ⟨rfl, h2⟩ | ⟨rfl, rfl⟩
  · have hgd := fun op => run_eqGuard_agg (P := E.P) w op t ox oy vs.toArray us.toArray hg
    have hrun' : (Op.equal t (.agg vs.toArray) (.agg us.toArray)).run E.P w = .ok b w := hrun
    constructor
    · show (do eqGuard .eql t ox oy (.agg vs.toArray) (.agg us.toArray); binOp .eql t (.agg vs.toArray) (.agg us.toArray) : Sem Value).run E.P w = _
      simp only [Sem.run_bind, hgd, Result.andThen_ok, binOp, hrun', Sem.run_pure]
    · show (do eqGuard .neq t ox oy (.agg vs.toArray) (.agg us.toArray); binOp .neq t (.agg vs.toArray) (.agg us.toArray) : Sem Value).run E.P w = _
      simp only [Sem.run_bind, hgd, Result.andThen_ok, binOp, hrun', Sem.run_pure]
  · obtain ⟨k, rfl⟩ := List.length_eq_one_iff.1 hls
    obtain ⟨v, rfl⟩ := List.length_eq_one_iff.1 hv1
    obtain ⟨u, rfl⟩ := List.length_eq_one_iff.1 hu1
    have q1 : Rd F w x v := r1
    have q2 : Rd F w y u := r2
    simp only [T.flat] at he
    have hrun' : (Op.equal t v u).run E.P w = .ok b w := hrun
    show (do eqGuard .eql t ox oy v u; binOp .eql t v u : Sem Value).run E.P w = _ ∧ (do eqGuard .neq t ox oy v u; binOp .neq t v u : Sem Value).run E.P w = _
    match k, he with
    | 0, he =>
      exfalso
      unfold eqLv at e1
      cases hd : E.P.underlying t with
      | none => simp [hd] at e1
      | some kd =>
        cases kd with
        | int k => simp [kindP, hd] at hkind
        | bool => simp [hd] at e1
        | string => simp [hd] at e1
        | struct fs => simp [aggP, hd] at e2
        | _ => simp [hd] at e1
    | 1, he =>
      cases q1 <;> cases q2 <;> simp [T.eqLs] at he
      constructor
      · simp [eqGuard, binOp, hrun']
      · simp [eqGuard, binOp, hrun']
    | 2, he =>
      cases q1 <;> cases q2 <;> simp [T.eqLs] at he
      subst he
      constructor
      · simp [eqGuard, binOp, Op.stringOp, beq_toListBytes]
      · simp [eqGuard, binOp, Op.stringOp, beq_toListBytes]
    | k + 3, he => simp [T.eqLs] at he

set_option maxHeartbeats 1000000 in
def Is (o : Operand) (v : Value) : Prop := ∀ c, o = .const c → v = c

theorem eqK_sound {t : TypeId} {x y : Operand} {px py : PV} {K : Bool → Res β} {vx vy : Value} {N : Nat} (h : eqK E t x y px py K ≠ .stuck) (hx : RP F κ N w px vx) (hy : RP F κ N w py vy) (ix : Is x vx) (iy : Is y vy) (hkind : kindP E.P t = none) :
    ∃ b, eqK E t x y px py K = K b ∧ (do eqGuard .eql t x y vx vy; binOp .eql t vx vy : Sem Value).run E.P w = .ok (.bool b) w ∧ (do eqGuard .neq t x y vx vy; binOp .neq t vx vy : Sem Value).run E.P w = .ok (.bool !b) w := by
  unfold eqK at h ⊢
  cases hk : nilKind E.P t with
  | some k =>
    simp only [hk] at h ⊢
    have fin : ∀ {b : Bool}, (Op.equal t vx vy).run E.P w = .ok b w → (∀ op, (eqGuard op t x y vx vy).run E.P w = .ok () w) → (∀ k a k' a', ¬ (vx = .int k a ∧ vy = .int k' a')) → (∀ k a k' a', ¬ (vx = .float k a ∧ vy = .float k' a')) →
        (∀ k a a2 k' a' a2', ¬ (vx = .complex k a a2 ∧ vy = .complex k' a' a2')) → (∀ a b, ¬ (vx = .string a ∧ vy = .string b)) →
        (do eqGuard .eql t x y vx vy; binOp .eql t vx vy : Sem Value).run E.P w = .ok (.bool b) w ∧ (do eqGuard .neq t x y vx vy; binOp .neq t vx vy : Sem Value).run E.P w = .ok (.bool !b) w := by
      intro b he hg n1 n2 n3 n4
      have e1 : binOp .eql t vx vy = (do pure (.bool (← Op.equal t vx vy))) := by
        cases vx <;> cases vy <;> first | rfl | exact absurd ⟨rfl, rfl⟩ (n1 _ _ _ _) | exact absurd ⟨rfl, rfl⟩ (n2 _ _ _ _) | exact absurd ⟨rfl, rfl⟩ (n3 _ _ _ _ _ _) | exact absurd ⟨rfl, rfl⟩ (n4 _ _)
      have e2 : binOp .neq t vx vy = (do pure (.bool (!(← Op.equal t vx vy)))) := by
        cases vx <;> cases vy <;> first | rfl | exact absurd ⟨rfl, rfl⟩ (n1 _ _ _ _) | exact absurd ⟨rfl, rfl⟩ (n2 _ _ _ _) | exact absurd ⟨rfl, rfl⟩ (n3 _ _ _ _ _ _) | exact absurd ⟨rfl, rfl⟩ (n4 _ _)
      rw [e1, e2]
      simp [hg, he]
    have guardOf : ∀ {c : Value}, ((k = 0 ∧ c = .pointer none) ∨ (k = 1 ∧ c = .nilFunc) ∨ (k = 2 ∧ c = .nilIface) ∨ (k = 3 ∧ c = .slice none 0 0)) → (x = .const c ∧ vx = c ∨ y = .const c ∧ vy = c) → ∀ op, (eqGuard op t x y vx vy).run E.P w = .ok () w := by
      intro c hc hxy op
      have hn : ∀ cs, c ≠ .agg cs := by rintro cs rfl; simp at hc
      unfold eqGuard
      rcases hxy with ⟨rfl, rfl⟩ | ⟨rfl, rfl⟩
      · cases op <;> (cases vx <;> cases vy <;> first | (simp; done) | exact absurd rfl (hn _))
      · cases op <;> (cases vx <;> cases vy <;> first | (simp; done) | exact absurd rfl (hn _))
    cases hc1 : isNilC k y with
    | true =>
      simp only [hc1, cond_true] at h ⊢
      obtain ⟨b, e1, hv⟩ := nilK_sound h hx
      obtain ⟨c, rfl, hc⟩ := isNilC_eval hc1
      obtain rfl := iy c rfl
      refine ⟨b, e1, fin (run_equal_nil hk hv hc).1 (guardOf hc (.inr ⟨rfl, rfl⟩)) ?_ ?_ ?_ ?_⟩ <;> (intros; rintro ⟨-, rfl⟩; simp at hc)
    | false =>
      simp only [hc1, cond_false] at h ⊢
      obtain ⟨hc2, e0⟩ := cond_inv' h
      rw [e0] at h ⊢
      obtain ⟨b, e1, hv⟩ := nilK_sound h hy
      obtain ⟨c, rfl, hc⟩ := isNilC_eval hc2
      obtain rfl := ix c rfl
      refine ⟨b, e1, fin (run_equal_nil hk hv hc).2 (guardOf hc (.inl ⟨rfl, rfl⟩)) ?_ ?_ ?_ ?_⟩ <;> (intros; rintro ⟨rfl, -⟩; simp at hc)
  | none =>
    simp only [hk] at h ⊢
    obtain ⟨l, hl, e0⟩ := someK_inv h
    rw [e0] at h ⊢
    unfold flatP at hl
    cases hg : E.P.eqGuardType E.P.depth t with
    | true => simp [hg] at hl
    | false =>
      simp only [hg, cond_false] at hl
      cases e1 : eqLv E.P 20 t with
      | none => simp [e1] at hl
      | some l' =>
        cases e2 : aggP E.P t with
        | none => simp [e1, e2] at hl
        | some a =>
          cases e3 : szP E.P t with
          | none => simp [e1, e2, e3] at hl
          | some s =>
            simp only [e1, e2, e3] at hl
            cases hc : (l'.length == s && ((a && decide (2 ≤ s)) || (!a && s == 1))) with
            | false => simp [hc] at hl
            | true =>
              simp only [hc, cond_true, Option.some.injEq] at hl
              subst hl
              cases hx with
              | @t a1 _ r1 =>
                cases hy with
                | @t a2 _ r2 =>
                  simp only [eqT] at h ⊢
                  cases he : T.eqLs l' (a1.flat l') (a2.flat l') with
                  | none => simp [he] at h
                  | some b =>
                    simp only [he] at h ⊢
                    simp only [Bool.and_eq_true, beq_iff_eq] at hc
                    obtain ⟨hls, hc⟩ := hc
                    exact ⟨b, rfl, flat_sound e1 e2 hls (by cases a <;> simp_all) hg hkind r1 r2 he x y⟩
                | _ => exact absurd rfl h
              | _ => exact absurd rfl h
end
end Go.Sim

/- binOp, unOp, convert; slices that are read, cut, measured. -/
namespace Go.Sim
open Go.RowKit
set_option linter.unusedVariables false
set_option linter.unusedSimpArgs false

section
variable {β : Type} {E : Env} {st : St} {F : Nat → Prop} {κ : Nat → Value} {w : World}

theorem binK_sound {op : BinOp} {t t' : TypeId} {x y : Operand} {px py : PV} {K : PV → Res β} {vx vy : Value} {N : Nat} (h : binK E op t t' x y px py K ≠ .stuck) (hx : RP F κ N w px vx) (hy : RP F κ N w py vy) (ix : Is x vx) (iy : Is y vy) :
    ∃ q u, binK E op t t' x y px py K = K q ∧ (do eqGuard op t x y vx vy; binOp op t vx vy : Sem Value).run E.P w = .ok u w ∧ RP F κ N w q u := by
  unfold binK at h ⊢
  cases hk : kindP E.P t with
  | some k =>
    simp only [hk] at h ⊢
    have hsh : (op = .shl ∨ op = .shr) → ∃ q u, binK E op t t' x y px py K = K q ∧ (do eqGuard op t x y vx vy; binOp op t vx vy : Sem Value).run E.P w = .ok u w ∧ RP F κ N w q u := by
      intro ho
      unfold binK
      simp only [hk]
      have key : ∀ k', kindP E.P t' = some k' → (match px, py with
          | .t a, .t b => iT k a fun a => iT k' b fun b => shiftK op k a b fun r => K (.t r)
          | _, _ => .stuck) ≠ .stuck → ∃ q u, (match px, py with
          | .t a, .t b => iT k a fun a => iT k' b fun b => shiftK op k a b fun r => K (.t r)
          | _, _ => .stuck) = K q ∧ (do eqGuard op t x y vx vy; binOp op t vx vy : Sem Value).run E.P w = .ok u w ∧ RP F κ N w q u := by
        intro k' hk' h
        cases hx with
        | @t a _ r1 =>
          cases hy with
          | @t b _ r2 =>
            simp only [] at h ⊢
            obtain ⟨n, rfl, e1⟩ := iT_inv h
            rw [e1] at h ⊢
            obtain ⟨m, rfl, e2⟩ := iT_inv h
            rw [e2] at h ⊢
            cases r1 with
            | int h1 =>
              cases r2 with
              | int h2 =>
                obtain ⟨q, u, e3, e4, e5⟩ := shiftK_sound (E := E) (F := F) (w := w) (t := t) (k' := k') h h1
                exact ⟨_, u, e3, by simp only [Sem.run_bind, run_eqGuard_int, Result.andThen_ok, e4], .t e5⟩
          | _ => exact absurd rfl h
        | _ => exact absurd rfl h
      rcases ho with rfl | rfl
      · simp only [] at h ⊢
        cases hk' : kindP E.P t' with
        | none => simp [hk'] at h
        | some k' => simp only [hk'] at h ⊢; exact key k' hk' h
      · simp only [] at h ⊢
        cases hk' : kindP E.P t' with
        | none => simp [hk'] at h
        | some k' => simp only [hk'] at h ⊢; exact key k' hk' h
    have har : (op ≠ .shl ∧ op ≠ .shr) → (match px, py with
          | .t a, .t b => iT k a fun a => iT k b fun b => arithK op k a b fun r => K (.t r)
          | _, _ => .stuck) ≠ .stuck → ∃ q u, (match px, py with
          | .t a, .t b => iT k a fun a => iT k b fun b => arithK op k a b fun r => K (.t r)
          | _, _ => .stuck) = K q ∧ (do eqGuard op t x y vx vy; binOp op t vx vy : Sem Value).run E.P w = .ok u w ∧ RP F κ N w q u := by
      intro ho h
      cases hx with
      | @t a _ r1 =>
        cases hy with
        | @t b _ r2 =>
          simp only [] at h ⊢
          obtain ⟨n, rfl, e1⟩ := iT_inv h
          rw [e1] at h ⊢
          obtain ⟨m, rfl, e2⟩ := iT_inv h
          rw [e2] at h ⊢
          cases r1 with
          | int h1 =>
            cases r2 with
            | int h2 =>
              obtain ⟨q, u, e3, e4, e5⟩ := arithK_sound (E := E) (F := F) (w := w) (t := t) ho h h1 h2
              exact ⟨_, u, e3, by simp only [Sem.run_bind, run_eqGuard_int, Result.andThen_ok, e4], .t e5⟩
        | _ => exact absurd rfl h
      | _ => exact absurd rfl h
    cases op with
    | shl => have := hsh (.inl rfl); unfold binK at this; simpa only [hk] using this
    | shr => have := hsh (.inr rfl); unfold binK at this; simpa only [hk] using this
    | _ => exact har ⟨by simp, by simp⟩ h
  | none =>
    simp only [hk] at h ⊢
    cases op with
    | eql =>
      obtain ⟨b, e1, e2, _⟩ := eqK_sound h hx hy ix iy hk
      exact ⟨_, _, e1, e2, .t .bool⟩
    | neq =>
      obtain ⟨b, e1, _, e2⟩ := eqK_sound h hx hy ix iy hk
      exact ⟨_, _, e1, e2, .t .bool⟩
    | _ => exact absurd rfl h

theorem unK_sound {op : UnOp} {t : TypeId} {p : PV} {K : PV → Res β} {v : Value} {N : Nat} (h : unK E op t p K ≠ .stuck) (hp : RP F κ N w p v) :
    ∃ q u, unK E op t p K = K q ∧ (Op.unary op v).run E.P w = .ok u w ∧ RP F κ N w q u := by
  unfold unK at h ⊢
  cases hp with
  | @t x _ r =>
    cases op with
    | not =>
      simp only [] at h ⊢
      obtain ⟨b, rfl, e⟩ := bT_inv h
      rw [e]
      cases r
      exact ⟨_, _, rfl, by simp [Op.unary], .t .bool⟩
    | neg =>
      simp only [] at h ⊢
      obtain ⟨k, hk, e⟩ := someK_inv h
      rw [e] at h ⊢
      obtain ⟨n, rfl, e2⟩ := iT_inv h
      rw [e2]
      cases r
      exact ⟨_, _, rfl, by simp [Op.unary, Op.intArith], .t (.int (wrap_ok _ _))⟩
    | _ => exact absurd rfl h
  | _ => cases op <;> exact absurd rfl h

theorem convK_sound {s d : TypeId} {p : PV} {K : PV → Res β} {v : Value} {N : Nat} (h : convK E s d p K ≠ .stuck) (hp : RP F κ N w p v) :
    ∃ q u, convK E s d p K = K q ∧ (convert s d v).run E.P w = .ok u w ∧ RP F κ N w q u := by
  unfold convK at h ⊢
  cases hp with
  | @t x _ r =>
    simp only [] at h ⊢
    obtain ⟨k, hk, e⟩ := someK_inv h
    rw [e] at h ⊢
    obtain ⟨k', hk', e'⟩ := someK_inv h
    rw [e'] at h ⊢
    obtain ⟨n, rfl, e2⟩ := iT_inv h
    rw [e2]
    cases r
    exact ⟨_, _, rfl, by simp [convert, run_underlying (kindP_underlying hk), run_underlying (kindP_underlying hk'), Conv.intToInt], .t (.int (wrap_ok _ _))⟩
  | _ => exact absurd rfl h

/-! ### slices -/
/-- What is known of a slice whose elements are read. -/
def SlV (F : Nat → Prop) (κ : Nat → Value) (w : World) (H : List AObj) (k : Nat) (xs : List T) (p : PV) (v : Value) : Prop :=
  ∃ A n c, v = .slice A n c ∧ n = xs.length ∧ n ≤ c ∧ xs.length ≤ big ∧ (∀ x ∈ xs, x.cells.length = k ∧ (k = 1 → x.isAgg = false)) ∧
    (∃ (b o : Nat) (val : Nat → Nat → Value), (0 < n → A = some ⟨b, o, none⟩ ∧ (F b ∨ ∃ l e xs', l ∈ p.rows ∧ H[l]? = some (.row e k xs') ∧ (κ l).ownBlock = some b)) ∧
      (∀ i j, i < xs.length → j < k → (val i j).oneCell' = true) ∧ (∀ i j, i < xs.length → j < k → w.cell? ⟨b, o + i * k + j, none⟩ = some (val i j)) ∧
      (∀ (i : Nat) (x : T) (j : Nat) (y : T), xs[i]? = some x → x.cells[j]? = some y → Rd F w y (val i j)))

theorem SlV.of_sl {H : List AObj} {k : Nat} {xs : List T} {p : PV} {v : Value} (h : Rd F w (.sl k xs) v) : SlV F κ w H k xs p v := by
  cases h with
  | @sl _ _ A c b o val hn hb hk hA h1 hc hr => exact ⟨A, _, c, rfl, rfl, hn, hb, hk, b, o, val, fun h => ⟨(hA h).1, .inl (hA h).2⟩, h1, hc, hr⟩
theorem SlV.of_row {H : List AObj} {N l e k : Nat} {xs : List T} (h : RO F κ N w l (.row e k xs)) (ho : H[l]? = some (.row e k xs)) : SlV F κ w H k xs (.own l) (κ l) := by
  obtain ⟨cs, h1, h2, h3, h4, h5⟩ := h
  have hcs : cs.length = xs.length * k := h1.1
  have hin : ∀ i j, i < xs.length → j < k → i * k + j < cs.length := fun i j hi hj => by
    rw [hcs]
    calc i * k + j < i * k + k := by omega
      _ = (i + 1) * k := by rw [Nat.succ_mul]
      _ ≤ xs.length * k := Nat.mul_le_mul_right _ hi
  rcases h1.2 with ⟨e1, e2⟩ | ⟨g, cap, cur, e1, e2, e3, e4, e5, e6, e7⟩
  · refine ⟨none, 0, 0, e1, by omega, by omega, h2, h3, 0, 0, fun _ _ => undef, fun h => by omega, fun i j hi => by omega, fun i j hi => by omega, fun i x j y hx => ?_⟩
    have := (List.getElem?_eq_some_iff.1 hx).1
    omega
  · refine ⟨_, _, cap, e1, rfl, e4, h2, h3, g, 0, fun i j => cs.getD (i * k + j) undef, fun _ => ⟨rfl, .inr ⟨l, e, xs, by simp [PV.rows], ho, by rw [e1]; rfl⟩⟩, fun i j hi hj => ?_, fun i j hi hj => ?_, fun i x j y hx hy => ?_⟩
    · show (cs.getD (i * k + j) undef).oneCell' = true
      rw [List.getD_eq_getElem?_getD, List.getElem?_eq_getElem (hin i j hi hj)]; exact h4 _ (List.getElem_mem _)
    · have := h1.cells (g := g) (by rw [e1]; rfl) (i * k + j) (cs.getD (i * k + j) undef) (by rw [List.getD_eq_getElem?_getD, List.getElem?_eq_getElem (hin i j hi hj)]; rfl)
      rw [add_mid, Nat.zero_add] at this
      rwa [Nat.zero_add]
    · have hi : i < xs.length := (List.getElem?_eq_some_iff.1 hx).1
      have hj : j < k := by rw [← (h3 x (List.mem_of_getElem? hx)).1]; exact (List.getElem?_eq_some_iff.1 hy).1
      exact h5 i x j y _ hx hy (by show cs[i * k + j]? = some (cs.getD (i * k + j) undef); rw [List.getD_eq_getElem?_getD, List.getElem?_eq_getElem (hin i j hi hj)]; rfl)

/-- A part of a row. -/
theorem SlV.view {H : List AObj} {k lo hi l : Nat} {xs : List T} {p : PV} {r v : Value} (hv : ViewV r v k lo hi) (h : SlV F κ w H k xs p r) (hp : p.rows = [l]) (hh : hi ≤ xs.length) :
    SlV F κ w H k ((xs.take hi).drop lo) (.view l k lo hi) v := by
  obtain ⟨A, n, c, A', ⟨rfl, vb⟩, rfl, h1, h2, h3⟩ := hv
  obtain ⟨B, n', c', e1, rfl, e3, e4, e5, b, o, val, e6, e7, e8, e9⟩ := h
  injection e1 with q1 q2 q3
  subst q1; subst q2; subst q3
  have hlen : ((xs.take hi).drop lo).length = hi - lo := by simp; omega
  have hget : ∀ (i : Nat) (x : T), ((xs.take hi).drop lo)[i]? = some x → xs[lo + i]? = some x := by
    intro i x hx
    rw [List.getElem?_drop, List.getElem?_take] at hx
    split at hx
    · exact hx
    · cases hx
  refine ⟨_, _, _, rfl, hlen.symm, by omega, by omega, fun x hx => e5 x (List.mem_of_mem_take (List.mem_of_mem_drop hx)), b, o + lo * k, fun i j => val (lo + i) j, fun h0 => ?_, fun i j hi' hj => e7 _ _ (by omega) hj, fun i j hi' hj => ?_, fun i x j y hx hy => e9 _ x j y (hget i x hx) hy⟩
  · obtain ⟨a1, a2⟩ := e6 (by omega)
    refine ⟨?_, ?_⟩
    · rcases h3 with ⟨rfl, _⟩ | ⟨b', o', rfl, rfl, h4⟩
      · cases a1
      · injection a1 with a1; injection a1 with a1 a3 a4; subst a1
        rw [h4 (by omega)]
        rw [show o = 0 from a3.symm]; simp
    · rcases a2 with a2 | ⟨l', e', xs', b1, b2, b3⟩
      · exact .inl a2
      · rw [hp] at b1
        exact .inr ⟨l', e', xs', by simpa [PV.rows] using b1, b2, b3⟩
  · have := e8 (lo + i) j (by omega) hj
    rw [Nat.add_mul] at this
    rw [show o + lo * k + i * k + j = o + (lo * k + i * k) + j by omega]
    exact this

theorem elemsK_sound {k : Nat} {p : PV} {K : List T → Res β} {v : Value} (h : elemsK st k p K ≠ .stuck) (s : SI F κ w st.heap) (hp : RP F κ st.heap.length w p v) :
    ∃ xs, elemsK st k p K = K xs ∧ SlV F κ w st.heap k xs p v := by
  unfold elemsK at h ⊢
  cases hp with
  | nil => exact ⟨[], rfl, none, 0, 0, rfl, rfl, by omega, by simp, by simp, 0, 0, fun _ _ => undef, by omega, fun i j hi => by simp at hi, fun i j hi => by simp at hi, fun i x j y hx => by simp at hx⟩
  | @own l A n c hN hl =>
    simp only [] at h ⊢
    cases ho : st.heap[l]? with
    | none => simp [ho] at h
    | some obj =>
      have hro := s.ro l obj ho
      cases obj with
      | row e k' xs =>
        simp only [ho] at h ⊢
        obtain ⟨h1, h2⟩ := cond_inv' h
        obtain rfl : k' = k := by simpa using h1
        exact ⟨xs, h2, by rw [← hl]; exact SlV.of_row hro ho⟩
      | frow e k' xs =>
        simp only [ho] at h ⊢
        obtain ⟨h1, h2⟩ := cond_inv' h
        obtain rfl : k' = k := by simpa using h1
        exact ⟨xs, h2, by rw [← hl]; exact SlV.of_sl hro.1⟩
      | _ => simp [ho] at h
  | @view l k0 lo hi _ _ _ hN hl =>
    simp only [] at h ⊢
    cases ho : st.heap[l]? with
    | none => simp [ho] at h
    | some obj =>
      have hro := s.ro l obj ho
      cases obj with
      | row e k' xs =>
        simp only [ho] at h ⊢
        obtain ⟨h1, h2⟩ := cond_inv' h
        simp only [Bool.and_eq_true, beq_iff_eq, decide_eq_true_eq] at h1
        obtain ⟨⟨⟨rfl, rfl⟩, _⟩, h3⟩ := h1
        exact ⟨_, h2, SlV.view hl (SlV.of_row hro ho) (by simp [PV.rows]) h3⟩
      | frow e k' xs =>
        simp only [ho] at h ⊢
        obtain ⟨h1, h2⟩ := cond_inv' h
        simp only [Bool.and_eq_true, beq_iff_eq, decide_eq_true_eq] at h1
        obtain ⟨⟨⟨rfl, rfl⟩, _⟩, h3⟩ := h1
        exact ⟨_, h2, SlV.view (p := .own l) hl (SlV.of_sl hro.1) (by simp [PV.rows]) h3⟩
      | _ => simp [ho] at h
  | @full k' xs A hx =>
    simp only [] at h ⊢
    obtain ⟨h1, h2⟩ := cond_inv' h
    obtain rfl : k' = k := by simpa using h1
    exact ⟨xs, h2, SlV.of_sl hx⟩
  | @t x _ hx =>
    simp only [] at h ⊢
    obtain ⟨xs, rfl, e⟩ := slT_inv h
    exact ⟨xs, e, SlV.of_sl hx⟩
  | _ => exact absurd rfl h
end
end Go.Sim

/- Steps that turn memory: freezing, new objects. -/
namespace Go.Sim
open Go.RowKit
set_option linter.unusedVariables false
set_option linter.unusedSimpArgs false

section
variable {F : Nat → Prop} {κ : Nat → Value} {w : World} {H : List AObj}

theorem set_get {α : Type} {H : List α} {l i : Nat} {o o' : α} (hl : l < H.length) (h : (H.set l o)[i]? = some o') : (i = l ∧ o' = o) ∨ (i ≠ l ∧ H[i]? = some o') := by
  by_cases e : i = l
  · subst e
    rw [List.getElem?_set_self hl] at h
    exact .inl ⟨rfl, by simpa using h.symm⟩
  · rw [List.getElem?_set_ne (by omega)] at h
    exact .inr ⟨e, h⟩

/-- A row that nobody writes any more. -/
theorem freeze1 (s : SI F κ w H) {l : Nat} {e k : Nat} {xs : List T} (h : H[l]? = some (.row e k xs)) :
    ∃ F', SI F' κ w (H.set l (.frow e k xs)) ∧ (∀ b, F b → F' b) ∧ (∀ b, F' b → F b ∨ Own κ H b) ∧ (∀ b, Own κ (H.set l (.frow e k xs)) b → Own κ H b) ∧ (∀ b, (κ l).ownBlock = some b → F' b) ∧
      (∀ b, F' b → F b ∨ (κ l).ownBlock = some b) := by
  have hl : l < H.length := (List.getElem?_eq_some_iff.1 h).1
  have hro := s.ro l _ h
  refine ⟨fun b => F b ∨ (κ l).ownBlock = some b, ⟨fun i o hi => ?_, fun i o b hi hb => ?_, fun i j o o' b hi hj hb hb' => ?_, fun b hb => ?_⟩, fun b hb => .inl hb, ?_, ?_, fun b hb => .inr hb, fun b hb => hb⟩
  · rw [List.length_set]
    rcases set_get hl hi with ⟨rfl, rfl⟩ | ⟨hne, ho⟩
    · obtain ⟨cs, h1, h2, h3, h4, h5⟩ := hro
      have hv := SlV.of_row (F := F) (κ := κ) (w := w) (N := H.length) (l := i) (e := e) ⟨cs, h1, h2, h3, h4, h5⟩ h
      obtain ⟨A, n, c, e1, e2, e3, e4, e5, b, o, val, e6, e7, e8, e9⟩ := hv
      subst e2
      refine ⟨?_, ?_⟩
      · rw [e1]
        refine .sl b o val e3 e4 e5 (fun h => ?_) e7 e8 fun i x j y a c => (e9 i x j y a c).mono (fun b hb => .inl hb) (fun _ _ => rfl)
        obtain ⟨a1, a2⟩ := e6 h
        refine ⟨a1, ?_⟩
        rcases a2 with a2 | ⟨l', e', xs', b1, b2, b3⟩
        · exact .inl a2
        · simp [PV.rows] at b1
          subst b1
          rw [e1] at b3
          exact .inr b3
      · intro ad n' c' hk
        rcases h1.2 with ⟨q1, _⟩ | ⟨g, cap, cur, q1, _⟩
        · rw [q1] at hk; cases hk
        · rw [q1] at hk; injection hk with hk; injection hk with hk; exact ⟨g, hk.symm⟩
    · exact (s.ro i o ho).mono (fun b hb => .inl hb) (fun _ _ => rfl) (fun _ _ => rfl) rfl fun l' hl' => ⟨rfl, (s.ro i o ho).bound l' hl'⟩
  · rcases set_get hl hi with ⟨rfl, rfl⟩ | ⟨hne, ho⟩
    · simp [blk] at hb
    · refine ⟨(s.lt i o b ho hb).1, ?_⟩
      rintro (h1 | h1)
      · exact (s.lt i o b ho hb).2 h1
      · exact hne (s.ne i l o _ b ho h hb (by simpa [blk] using h1))
  · rcases set_get hl hi with ⟨rfl, rfl⟩ | ⟨hne, ho⟩
    · simp [blk] at hb
    · rcases set_get hl hj with ⟨rfl, rfl⟩ | ⟨hne', ho'⟩
      · simp [blk] at hb'
      · exact s.ne i j o o' b ho ho' hb hb'
  · rcases hb with hb | hb
    · exact s.fl b hb
    · exact (s.lt l _ b h (by simpa [blk] using hb)).1
  · rintro b (hb | hb)
    · exact .inl hb
    · exact .inr ⟨l, _, h, by simpa [blk] using hb⟩
  · rintro b ⟨i, o, hi, hb⟩
    rcases set_get hl hi with ⟨rfl, rfl⟩ | ⟨hne, ho⟩
    · simp [blk] at hb
    · exact ⟨i, o, ho, hb⟩

theorem freezeRows_length (ls : List Nat) : ∀ (H : List AObj), (freezeRows ls H).length = H.length := by
  unfold freezeRows
  induction ls with
  | nil => intro H; rfl
  | cons l ls ih =>
    intro H
    simp only [List.foldl_cons]
    rw [ih]
    split <;> simp

/-- Rows that nobody writes any more. -/
theorem freeze_sound (ls : List Nat) : ∀ {F : Nat → Prop} {H : List AObj}, SI F κ w H →
    ∃ F', SI F' κ w (freezeRows ls H) ∧ (∀ b, F b → F' b) ∧ (∀ b, F' b → F b ∨ Own κ H b) ∧ (∀ b, Own κ (freezeRows ls H) b → Own κ H b) ∧
      (∀ l ∈ ls, ∀ (e : TypeId) (k : Nat) (xs : List T) (b : Nat), H[l]? = some (.row e k xs) → (κ l).ownBlock = some b → F' b) ∧
      (∀ (l : Nat) (o : AObj), H[l]? = some o → (∀ (e : TypeId) (k : Nat) (xs : List T), o ≠ .row e k xs) → (freezeRows ls H)[l]? = some o) ∧
      (∀ (l : Nat) (e : TypeId) (k : Nat) (xs : List T), H[l]? = some (.row e k xs) → (freezeRows ls H)[l]? = some (.row e k xs) ∨ (freezeRows ls H)[l]? = some (.frow e k xs)) := by
  induction ls with
  | nil => intro F H s; exact ⟨F, s, fun _ h => h, fun _ h => .inl h, fun _ h => h, (fun l hl => absurd hl (by simp)), fun l o h _ => h, fun l e k xs h => .inl h⟩
  | cons l ls ih =>
    intro F H s
    have hdef : freezeRows (l :: ls) H = freezeRows ls (match H[l]? with | some (AObj.row e k xs) => H.set l (AObj.frow e k xs) | _ => H) := rfl
    by_cases hr : ∃ (e : TypeId) (k : Nat) (xs : List T), H[l]? = some (.row e k xs)
    · obtain ⟨e, k, xs, hr⟩ := hr
      rw [hdef]
      simp only [hr]
      have hl : l < H.length := (List.getElem?_eq_some_iff.1 hr).1
      obtain ⟨F1, s1, a1, a2, a3, a4, _⟩ := freeze1 s hr
      obtain ⟨F2, s2, b1, b2, b3, b4, b5, b6⟩ := ih s1
      refine ⟨F2, s2, fun b h => b1 b (a1 b h), fun b h => (b2 b h).elim (a2 b) (fun h => .inr (a3 b h)), fun b h => a3 b (b3 b h), fun l' hl' e' k' xs' b h1 h2 => ?_, fun l' o h1 h2 => ?_, fun l' e' k' xs' h1 => ?_⟩
      · by_cases e0 : l' = l
        · subst e0; exact b1 b (a4 b h2)
        · rcases List.mem_cons.1 hl' with rfl | hl'
          · exact absurd rfl e0
          · exact b4 l' hl' e' k' xs' b (by rw [List.getElem?_set_ne (by omega)]; exact h1) h2
      · refine b5 l' o ?_ h2
        rw [List.getElem?_set_ne (fun e0 => by subst e0; rw [hr] at h1; injection h1 with h1; exact h2 e k xs h1.symm)]
        exact h1
      · by_cases e0 : l' = l
        · subst e0
          rw [hr] at h1
          injection h1 with h1
          cases h1
          exact .inr (b5 l' _ (List.getElem?_set_self hl) (by simp))
        · exact b6 l' e' k' xs' (by rw [List.getElem?_set_ne (by omega)]; exact h1)
    · have hm : (match H[l]? with | some (AObj.row e k xs) => H.set l (AObj.frow e k xs) | _ => H) = H := by
        cases ho : H[l]? with
        | none => rfl
        | some o => cases o <;> first | rfl | exact absurd ⟨_, _, _, ho⟩ hr
      rw [hdef]
      rw [hm]
      obtain ⟨F2, s2, b1, b2, b3, b4, b5, b6⟩ := ih s
      refine ⟨F2, s2, b1, b2, b3, fun l' hl' e' k' xs' b h1 h2 => ?_, b5, b6⟩
      rcases List.mem_cons.1 hl' with rfl | hl'
      · exact absurd ⟨_, _, _, h1⟩ hr
      · exact b4 l' hl' e' k' xs' b h1 h2

theorem Ev.freeze {N0 : Nat} (ls : List Nat) {F' : Nat → Prop} (h0 : N0 ≤ H.length) (a : ∀ b, F b → F' b) (b : ∀ b, F' b → F b ∨ Own κ H b) (c : ∀ b, Own κ (freezeRows ls H) b → Own κ H b)
    (d : ∀ (l : Nat) (o : AObj), H[l]? = some o → (∀ (e : TypeId) (k : Nat) (xs : List T), o ≠ .row e k xs) → (freezeRows ls H)[l]? = some o) : Ev N0 F κ w H F' κ w (freezeRows ls H) :=
  ⟨rfl, rfl, rfl, Nat.le_refl _, fun _ _ _ => rfl, a, fun x hx => (b x hx).imp id .inl, fun x hx => .inl (c x hx), by rw [freezeRows_length]; exact h0, fun l o _ h1 h2 => ⟨rfl, o, d l o h1 h2, h2⟩⟩

/-- Slots live on beside what has been frozen. -/
theorem RP.freeze {F' : Nat → Prop} {N : Nat} {p : PV} {v : Value} (a : ∀ b, F b → F' b) (h : RP F κ N w p v) : RP F' κ N w p v := h.mono a (fun _ _ => rfl) fun l hl => ⟨rfl, h.bound l hl⟩

/-- What was read is a tree where its rows are frozen. -/
theorem SlV.frozen {F' : Nat → Prop} {k : Nat} {xs : List T} {p : PV} {v : Value} (h : SlV F κ w H k xs p v) (a : ∀ b, F b → F' b)
    (hr : ∀ l ∈ p.rows, ∀ (e : TypeId) (k : Nat) (xs : List T) (b : Nat), H[l]? = some (.row e k xs) → (κ l).ownBlock = some b → F' b) : Rd F' w (.sl k xs) v := by
  obtain ⟨A, n, c, rfl, rfl, h3, h4, h5, b, o, val, h6, h7, h8, h9⟩ := h
  refine .sl b o val h3 h4 h5 (fun h => ?_) h7 h8 fun i x j y g1 g2 => (h9 i x j y g1 g2).mono a (fun _ _ => rfl)
  obtain ⟨a1, a2⟩ := h6 h
  refine ⟨a1, ?_⟩
  rcases a2 with a2 | ⟨l', e', xs', b1, b2, b3⟩
  · exact a b a2
  · exact hr l' b1 e' k xs' b b2 b3

/-- A frozen slice, cut. -/
theorem Rd.cut {k : Nat} {xs : List T} {A : Option Addr} {n c l h m : Nat} (hr : Rd F w (.sl k xs) (.slice A n c)) (hl : l ≤ h) (hh : h ≤ xs.length) (hm : h ≤ m) (hmc : m ≤ c) :
    Rd F w (.sl k ((xs.take h).drop l)) (.slice (if m = l then A else A.map (·.add (l * k))) (h - l) (m - l)) := by
  cases hr with
  | sl b o val hn hb hk hA h1 hc hr =>
    have hlen : ((xs.take h).drop l).length = h - l := by simp; omega
    have hget : ∀ (i : Nat) (x : T), ((xs.take h).drop l)[i]? = some x → xs[l + i]? = some x := by
      intro i x hx
      rw [List.getElem?_drop, List.getElem?_take] at hx
      split at hx
      · exact hx
      · cases hx
    rw [← hlen]
    refine .sl b (o + l * k) (fun i j => val (l + i) j) (by omega) (by omega) (fun x hx => hk x ?_) (fun h0 => ?_) (fun i j hi hj => h1 _ _ (by omega) hj) (fun i j hi hj => ?_) (fun i x j y hx hy => hr _ x j y (hget i x hx) hy)
    · exact List.mem_of_mem_take (List.mem_of_mem_drop hx)
    · obtain ⟨a1, a2⟩ := hA (by omega)
      subst a1
      rw [if_neg (by omega)]
      exact ⟨by simp [add_mid], a2⟩
    · have := hc (l + i) j (by omega) hj
      rw [Nat.add_mul] at this
      rw [show o + l * k + i * k + j = o + (l * k + i * k) + j by omega]
      exact this
end

section
variable {β : Type} {E : Env} {st : St} {F : Nat → Prop} {κ : Nat → Value} {w : World}

def OptR (F : Nat → Prop) (κ : Nat → Value) (N : Nat) (w : World) : Option PV → Option Value → Prop
  | none, none => True
  | some p, some v => RP F κ N w p v
  | _, _ => False
/-- A bound of a cut: its value, and what it comes to. -/
theorem boundK_sound {n d : Nat} {p : Option PV} {K : Nat → Res β} {v : Option Value} {N : Nat} (h : boundK n d p K ≠ .stuck) (hp : OptR F κ N w p v) :
    ∃ i, boundK n d p K = K i ∧ ((v = none ∧ i = d) ∨ (i ≤ n ∧ ∃ ki, v = some (.int ki i))) := by
  cases p with
  | none =>
    cases v with
    | none => exact ⟨d, rfl, .inl ⟨rfl, rfl⟩⟩
    | some v => exact hp.elim
  | some p =>
    cases v with
    | none => exact hp.elim
    | some v =>
    replace hp : RP F κ N w p v := hp
    cases hp with
    | @t x _ r =>
      simp only [boundK] at h ⊢
      obtain ⟨k, i, rfl, e⟩ := anyT_inv h
      rw [e] at h ⊢
      obtain ⟨h1, h2⟩ := chk_inv h
      rw [h2]
      simp only [Bool.and_eq_true, decide_eq_true_eq] at h1
      cases r
      exact ⟨_, rfl, .inr ⟨by omega, k, by rw [Int.toNat_of_nonneg h1.1]⟩⟩
    | _ => exact absurd rfl h
end
end Go.Sim

/- Cuts, appends, makes: operations on slices that turn memory. -/
namespace Go.Sim
open Go.RowKit
set_option linter.unusedVariables false
set_option linter.unusedSimpArgs false

/-- A step from st to st', which hands back p. -/
structure Next' (N0 : Nat) (F : Nat → Prop) (κ : Nat → Value) (w : World) (st : St) (tm : Array Value) (p : PV) (u : Value) (F' : Nat → Prop) (κ' : Nat → Value) (w' : World) (st' : St) : Prop where
  si : SI F' κ' w' st'.heap
  ev : Ev N0 F κ w st.heap F' κ' w' st'.heap
  rp : RP F' κ' st'.heap.length w' p u
  tl : st'.tmps.length = st.tmps.length
  tr : ∀ (i : Nat) (q : PV) (v : Value), st'.tmps[i]? = some q → tm[i]? = some v → RP F' κ' st'.heap.length w' q v

def TR (F : Nat → Prop) (κ : Nat → Value) (w : World) (st : St) (tm : Array Value) : Prop := ∀ (i : Nat) (q : PV) (v : Value), st.tmps[i]? = some q → tm[i]? = some v → RP F κ st.heap.length w q v

section
variable {β : Type} {E : Env} {st : St} {F : Nat → Prop} {κ : Nat → Value} {w : World} {N0 : Nat} {tm : Array Value}

theorem Next'.same (h0 : N0 ≤ st.heap.length) (s : SI F κ w st.heap) (ht : TR F κ w st tm) {p : PV} {u : Value} (hp : RP F κ st.heap.length w p u) : Next' N0 F κ w st tm p u F κ w st :=
  ⟨s, Ev.refl h0, hp, rfl, ht⟩

theorem run_sliceBound' (P : Program) (k : IntKind) (i y : Nat) (code : BoundsCode) (h : i ≤ y) (w : World) : (Instr.sliceBound (.int k (i : Int)) y code).run P w = .ok i w := by
  have : (0 : Int) ≤ i ∧ (i : Int) ≤ y := ⟨by omega, by omega⟩
  simp [Instr.sliceBound, asIntOf, this]

theorem rowView_sound {H : List AObj} {p : PV} {v : Value} {l k a b : Nat} {full : Bool} (h : rowView H p = some (l, k, a, b, full)) (s : SI F κ w H) (hp : RP F κ H.length w p v) :
    ∃ e kr xs A c, H[l]? = some (.row e kr xs) ∧ κ l = .slice A xs.length c ∧ xs.length ≤ c ∧ ViewV (κ l) v k a b ∧ b ≤ xs.length ∧ (full = true → a = 0 ∧ b = xs.length ∧ kr = k ∧ p = .own l) ∧ p.rows = [l] := by
  have len : ∀ {l e kr : Nat} {xs : List T}, H[l]? = some (.row e kr xs) → ∃ A c, κ l = .slice A xs.length c ∧ xs.length ≤ c ∧ (A = none ∨ ∃ b, A = some ⟨b, 0, none⟩) ∧ xs.length ≤ big := by
    intro l e kr xs ho
    obtain ⟨cs, h1, hb, _⟩ := s.ro l _ ho
    rcases h1.2 with ⟨q1, q2⟩ | ⟨g, cap, cur, q1, _, _, q2, _⟩
    · exact ⟨none, 0, by rw [q1, q2], by omega, .inl rfl, hb⟩
    · exact ⟨_, cap, q1, q2, .inr ⟨g, rfl⟩, hb⟩
  cases hp with
  | @own l' A n c hN hl =>
    unfold rowView at h
    simp only [] at h
    cases ho : H[l']? with
    | none => simp [ho] at h
    | some obj =>
      cases obj with
      | row e kr xs =>
        simp only [ho, Option.some.injEq, Prod.mk.injEq] at h
        obtain ⟨rfl, rfl, rfl, rfl, rfl⟩ := h
        obtain ⟨A', c', q1, q2, q3, q6⟩ := len ho
        rw [hl] at q1
        injection q1 with q1 q4 q5
        subst q1; subst q4; subst q5
        refine ⟨e, kr, xs, A, c, ho, hl, q2, ⟨A, _, c, A, ⟨hl, q6⟩, rfl, by omega, Nat.le_refl _, ?_⟩, Nat.le_refl _, fun _ => ⟨rfl, rfl, rfl, rfl⟩, rfl⟩
        rcases q3 with rfl | ⟨b, rfl⟩
        · exact .inl ⟨rfl, rfl⟩
        · exact .inr ⟨b, 0, rfl, rfl, fun _ => by simp⟩
      | _ => simp [ho] at h
  | @view l' k' lo hi A n c hN hl =>
    unfold rowView at h
    simp only [] at h
    cases ho : H[l']? with
    | none => simp [ho] at h
    | some obj =>
      cases obj with
      | row e kr xs =>
        simp only [ho, Option.some.injEq, Prod.mk.injEq] at h
        obtain ⟨rfl, rfl, rfl, rfl, rfl⟩ := h
        obtain ⟨A', c', q1, q2, q3, q6⟩ := len ho
        obtain ⟨A1, n1, c1, A2, ⟨v1, vb⟩, v2, v3, v4, v5⟩ := hl
        rw [q1] at v1
        injection v1 with v1 v6 v7
        subst v1; subst v6; subst v7
        exact ⟨e, kr, xs, _, _, ho, q1, q2, ⟨_, _, _, A2, ⟨q1, vb⟩, v2, v3, v4, v5⟩, v4, by simp, rfl⟩
      | _ => simp [ho] at h
  | _ => simp [rowView] at h

theorem sliceK_sound {dr : Bool} {t : TypeId} {p : PV} {lo hi mx : Option PV} {vlo vhi vmx : Option Value} {K : PV → St → Res β} {v : Value} (h : sliceK E dr st t p lo hi mx K ≠ .stuck) (h0 : N0 ≤ st.heap.length) (s : SI F κ w st.heap) (ht : TR F κ w st tm)
    (hp : RP F κ st.heap.length w p v) (hlo : OptR F κ st.heap.length w lo vlo) (hhi : OptR F κ st.heap.length w hi vhi)
    (hmx : OptR F κ st.heap.length w mx vmx) :
    ∃ q u st' F', sliceK E dr st t p lo hi mx K = K q st' ∧ (Instr.sliceAt t v vlo vhi vmx).run E.P w = .ok u w ∧ Next' N0 F κ w st tm q u F' κ w st' := by
  unfold sliceK at h ⊢
  cases hd : E.P.underlying t with
  | none => simp [hd] at h
  | some d =>
    cases d with
    | string =>
      simp only [hd] at h ⊢
      cases hp with
      | @t x _ hx =>
        cases mx with
        | some m => exact absurd rfl h
        | none =>
          cases vmx with
          | some m => exact hmx.elim
          | none =>
            simp only [] at h ⊢
            obtain ⟨sb, rfl, e1⟩ := strT_inv h
            rw [e1] at h ⊢
            obtain ⟨hh, e2, c2⟩ := boundK_sound h hhi
            rw [e2] at h ⊢
            obtain ⟨l, e3, c3⟩ := boundK_sound h hlo
            rw [e3]
            cases hx with
            | str hsz =>
              have hle : hh ≤ sb.size := by rcases c2 with ⟨_, rfl⟩ | ⟨h, _⟩ <;> omega
              have hll : l ≤ hh := by rcases c3 with ⟨_, rfl⟩ | ⟨h, _⟩ <;> omega
              refine ⟨_, .string (sb.extract l hh), st, F, rfl, ?_, Next'.same h0 s ht (.t (.str ?_))⟩
              · simp only [Instr.sliceAt, Sem.run_bind, run_underlying hd, Result.andThen_ok, Instr.slice, Option.isSome_none, Bool.false_eq_true, if_false, Instr.sliceBounds, Sem.run_pure]
                rcases c2 with ⟨rfl, rfl⟩ | ⟨_, k2, rfl⟩ <;> rcases c3 with ⟨rfl, rfl⟩ | ⟨_, k3, rfl⟩ <;>
                  simp [run_sliceBound', hle, hll]
              · simp only [ByteArray.size_extract]; omega
      | _ => exact absurd rfl h
    | slice e =>
      simp only [hd] at h ⊢
      cases hs : szP E.P e with
      | none => simp [hs] at h
      | some k =>
        simp only [hs] at h ⊢
        cases hrv : rowView st.heap p with
        | some q =>
          obtain ⟨l0, k', a, b, full⟩ := q
          simp only [hrv] at h ⊢
          obtain ⟨hk, ek⟩ := cond_inv h
          rw [ek] at h ⊢
          obtain rfl : k' = k := by simpa using hk
          obtain ⟨e', kr, xs, A0, c, r1, r2, r3, ⟨B, n, c0, A', ⟨v1, vb⟩, rfl, v3, v4, v5⟩, r5, r6, r7⟩ := rowView_sound hrv s hp
          rw [r2] at v1
          injection v1 with v1 v6 v7
          subst v1; subst v6; subst v7
          have hl0 : l0 < st.heap.length := (List.getElem?_eq_some_iff.1 r1).1
          have hrun : ∀ (l hh m : Nat), (Instr.sliceBounds true (b - a) (c - a) vlo vhi vmx).run E.P w = .ok (l, hh, m) w → (Instr.sliceAt t (.slice A' (b - a) (c - a)) vlo vhi vmx).run E.P w = .ok (.slice (if m = l then A' else A'.map (·.add (l * k'))) (hh - l) (m - l)) w := by
            intro l hh m hb
            simp [Instr.sliceAt, Instr.slice, run_underlying hd, hb, run_sizeOf' hs]
          cases mx with
          | none =>
            cases vmx with
            | some m => exact hmx.elim
            | none =>
              simp only [] at h ⊢
              obtain ⟨hh, e2, c2⟩ := boundK_sound h hhi
              rw [e2] at h ⊢
              obtain ⟨l, e3, c3⟩ := boundK_sound h hlo
              rw [e3]
              have hrl : rowLen st.heap l0 = xs.length := by simp [rowLen, r1]
              have hle : hh ≤ xs.length - a := by rcases c2 with ⟨_, rfl⟩ | ⟨h, _⟩ <;> omega
              have hll : l ≤ hh := by rcases c3 with ⟨_, rfl⟩ | ⟨h, _⟩ <;> omega
              refine ⟨_, _, _, F, rfl, hrun l hh (c - a) ?_, Next'.same h0 s ht (.view hl0 ⟨A0, xs.length, c, if c - a = l then A' else A'.map (·.add (l * k')), ⟨r2, vb⟩, ?_, by omega, by omega, ?_⟩)⟩
              · have hle' : hh ≤ c - a := by omega
                rcases c2 with ⟨rfl, rfl⟩ | ⟨_, k2, rfl⟩ <;> rcases c3 with ⟨rfl, rfl⟩ | ⟨_, k3, rfl⟩ <;> simp [Instr.sliceBounds, run_sliceBound', hle, hll, hle']
              · congr 1 <;> omega
              · rcases v5 with ⟨rfl, rfl⟩ | ⟨g, o, rfl, rfl, v6⟩
                · exact .inl ⟨rfl, by split <;> rfl⟩
                · refine .inr ⟨g, if c - a = l then o else o + l * k', rfl, ?_, fun hlt => ?_⟩
                  · split
                    · rfl
                    · simp [add_mid]
                  · split
                    · have : a = 0 ∧ l = 0 := by omega
                      rw [v6 (by omega)]; simp [this]
                    · rw [v6 (by omega), Nat.add_mul]
          | some m =>
            cases vmx with
            | none => exact hmx.elim
            | some vm =>
              simp only [] at h ⊢
              obtain ⟨hn, e00⟩ := cond_inv h
              rw [e00] at h ⊢
              simp only [Bool.or_eq_false_iff, Bool.not_eq_false'] at hn
              obtain ⟨q1, q2, q3, q4⟩ := r6 hn.2
              subst q1; subst q2
              obtain ⟨mm, e0, c0⟩ := boundK_sound (v := some vm) h hmx
              rw [e0] at h ⊢
              obtain ⟨hh, e2, c2⟩ := boundK_sound h hhi
              rw [e2] at h ⊢
              obtain ⟨l, e3, c3⟩ := boundK_sound h hlo
              rw [e3] at h ⊢
              rcases c0 with ⟨c0, _⟩ | ⟨hm, k0, c0⟩
              · cases c0
              · injection c0 with c0
                subst c0
                rcases c2 with ⟨rfl, rfl⟩ | ⟨c2, k2, rfl⟩
                · cases hi with
                  | none => simp at hn
                  | some p => exact hhi.elim
                · have hll : l ≤ hh := by rcases c3 with ⟨_, rfl⟩ | ⟨h, _⟩ <;> omega
                  refine ⟨_, _, _, F, rfl, hrun l hh mm ?_, Next'.same h0 s ht .junk⟩
                  have hmc : mm ≤ c := by omega
                  rcases c3 with ⟨rfl, rfl⟩ | ⟨_, k3, rfl⟩ <;> simp [Instr.sliceBounds, run_sliceBound', hmc, c2, hll]
        | none =>
        simp only [hrv] at h ⊢
        obtain ⟨hdr, edr⟩ := cond_inv h
        rw [edr] at h ⊢
        obtain ⟨xs, e1, hv⟩ := elemsK_sound h s hp
        rw [e1] at h ⊢
        obtain ⟨F', s', a1, a2, a3, a4, a5, a6⟩ := freeze_sound p.rows s
        have hrd := hv.frozen a1 a4
        have hev : Ev N0 F κ w st.heap F' κ w (freezeRows p.rows st.heap) := Ev.freeze p.rows h0 a1 a2 a3 a5
        have fin : ∀ (q : PV) (u : Value), RP F' κ st.heap.length w q u → Next' N0 F κ w st tm q u F' κ w ⟨st.tmps, freezeRows p.rows st.heap⟩ := fun q u hq =>
          ⟨s', hev, by simpa [freezeRows_length] using hq, rfl, fun i q' v' g1 g2 => by simpa [freezeRows_length] using (ht i q' v' g1 g2).freeze a1⟩
        obtain ⟨A, n, c, rfl, rfl, h3, h4, _⟩ := hv
        have hrun : ∀ (l hh m : Nat), (Instr.sliceBounds true xs.length c vlo vhi vmx).run E.P w = .ok (l, hh, m) w → (Instr.sliceAt t (.slice A xs.length c) vlo vhi vmx).run E.P w = .ok (.slice (if m = l then A else A.map (·.add (l * k))) (hh - l) (m - l)) w := by
          intro l hh m hb
          simp [Instr.sliceAt, Instr.slice, run_underlying hd, hb, run_sizeOf' hs]
        cases mx with
        | none =>
          cases vmx with
          | some m => exact hmx.elim
          | none =>
            simp only [] at h ⊢
            obtain ⟨hh, e2, c2⟩ := boundK_sound h hhi
            rw [e2] at h ⊢
            obtain ⟨l, e3, c3⟩ := boundK_sound h hlo
            rw [e3]
            have hle : hh ≤ xs.length := by rcases c2 with ⟨_, rfl⟩ | ⟨h, _⟩ <;> omega
            have hll : l ≤ hh := by rcases c3 with ⟨_, rfl⟩ | ⟨h, _⟩ <;> omega
            refine ⟨_, _, _, F', rfl, hrun l hh c ?_, fin _ _ (.t (hrd.cut hll hle (by omega) (by omega)))⟩
            have hle' : hh ≤ c := by omega
            rcases c2 with ⟨rfl, rfl⟩ | ⟨_, k2, rfl⟩ <;> rcases c3 with ⟨rfl, rfl⟩ | ⟨_, k3, rfl⟩ <;> simp [Instr.sliceBounds, run_sliceBound', hle, hll, hle']
        | some m =>
          cases vmx with
          | none => exact hmx.elim
          | some vm =>
            simp only [] at h ⊢
            obtain ⟨hn, e00⟩ := cond_inv h
            rw [e00] at h ⊢
            obtain ⟨mm, e0, c0⟩ := boundK_sound (v := some vm) h hmx
            rw [e0] at h ⊢
            obtain ⟨hh, e2, c2⟩ := boundK_sound h hhi
            rw [e2] at h ⊢
            obtain ⟨l, e3, c3⟩ := boundK_sound h hlo
            rw [e3] at h ⊢
            rcases c0 with ⟨c0, _⟩ | ⟨hm, k0, c0⟩
            · cases c0
            · injection c0 with c0
              subst c0
              rcases c2 with ⟨rfl, rfl⟩ | ⟨c2, k2, rfl⟩
              · cases hi with
                | none => simp at hn
                | some p => exact hhi.elim
              · have hll : l ≤ hh := by rcases c3 with ⟨_, rfl⟩ | ⟨h, _⟩ <;> omega
                have hb : (Instr.sliceBounds true xs.length c vlo (some (.int k2 hh)) (some (.int k0 mm))).run E.P w = .ok (l, hh, mm) w := by
                  have hmc : mm ≤ c := by omega
                  rcases c3 with ⟨rfl, rfl⟩ | ⟨_, k3, rfl⟩ <;> simp [Instr.sliceBounds, run_sliceBound', hmc, c2, hll]
                cases he : decide (mm = hh) with
                | true =>
                  have he' : mm = hh := by simpa using he
                  subst he'
                  refine ⟨_, _, _, F', rfl, hrun l mm mm hb, fin _ _ ?_⟩
                  have hr := hrd.cut (m := mm) hll hm (Nat.le_refl _) (by omega)
                  have hlen : ((xs.take mm).drop l).length = mm - l := by simp; omega
                  have h2 := hr
                  rw [← hlen] at h2 ⊢
                  exact .full h2
                | false => exact ⟨_, _, _, F', rfl, hrun l hh mm hb, fin _ _ (.t (hrd.cut hll (by omega) c2 (by omega)))⟩
    | _ => simp [hd] at h
end
end Go.Sim

/- append. -/
namespace Go.Sim
open Go.RowKit
set_option linter.unusedVariables false
set_option linter.unusedSimpArgs false

theorem kills_get (f : Nat → Bool) : ∀ (qs : List PV) (i : Nat), (PV.kills f qs)[i]? = (qs[i]?).map (PV.kill f)
  | [], i => by simp [PV.kills]
  | q :: r, 0 => by simp [PV.kills]
  | q :: r, i + 1 => by simpa [PV.kills] using kills_get f r i
theorem kills_length (f : Nat → Bool) : ∀ (qs : List PV), (PV.kills f qs).length = qs.length
  | [] => rfl
  | q :: r => by simp [PV.kills, kills_length f r]

/-- Behind a killing, slots say nothing of what was killed. -/
theorem RP.kill {F F' : Nat → Prop} {κ κ' : Nat → Value} {N N' : Nat} {w w' : World} (f : Nat → Bool) (hF : ∀ b, F b → F' b) (hw : ∀ b, F b → w'.heap[b]? = w.heap[b]?) (hN : N ≤ N')
    (hκ : ∀ l, l < N → κ' l ≠ κ l → f l = true ∧ ∃ A n c, κ l = .slice A n c) {p : PV} {v : Value} (h : RP F κ N w p v) : RP F' κ' N' w' (p.kill f) v := by
  induction h with
  | t h => exact .t (h.mono hF hw)
  | nil => exact .nil
  | @agg cs vs hl h1 hr ih =>
    simp only [PV.kill]
    refine .agg (by rw [kills_length]; exact hl) h1 fun i p v a b => ?_
    rw [kills_get, Option.map_eq_some_iff] at a
    obtain ⟨q, a, rfl⟩ := a
    exact ih i q v a b
  | @tup cs vs hl hr ih =>
    simp only [PV.kill]
    refine .tup (by rw [kills_length]; exact hl) fun i p v a b => ?_
    rw [kills_get, Option.map_eq_some_iff] at a
    obtain ⟨q, a, rfl⟩ := a
    exact ih i q v a b
  | @fn g fs cs vf vc h1 h2 r1 r2 i1 i2 =>
    simp only [PV.kill]
    refine .fn (by rw [kills_length]; exact h1) (by rw [kills_length]; exact h2) (fun i p v a b => ?_) (fun i p v a b => ?_)
    · rw [kills_get, Option.map_eq_some_iff] at a
      obtain ⟨q, a, rfl⟩ := a
      exact i1 i q v a b
    · rw [kills_get, Option.map_eq_some_iff] at a
      obtain ⟨q, a, rfl⟩ := a
      exact i2 i q v a b
  | @ptr l o b hl h =>
    simp only [PV.kill]
    refine .ptr (by omega) ?_
    by_cases e : κ' l = κ l
    · rw [e, h]
    · obtain ⟨_, A, n, c, h2⟩ := hκ l hl e
      rw [h] at h2
      cases h2
  | @own l A n c hl h =>
    simp only [PV.kill]
    cases hf : f l with
    | true => exact .junk
    | false =>
      refine .own (by omega) ?_
      by_cases e : κ' l = κ l
      · rw [e, h]
      · have := (hκ l hl e).1; rw [hf] at this; cases this
  | @eptr l k i o b n c hl h hi =>
    simp only [PV.kill]
    cases hf : f l with
    | true => exact .junk
    | false =>
      refine .eptr (n := n) (c := c) (by omega) ?_ hi
      by_cases e : κ' l = κ l
      · rw [e, h]
      · have := (hκ l hl e).1; rw [hf] at this; cases this
  | @view l k lo hi A n c hl h =>
    simp only [PV.kill]
    cases hf : f l with
    | true => exact .junk
    | false =>
      refine .view (by omega) ?_
      by_cases e : κ' l = κ l
      · rw [e]; exact h
      · have := (hκ l hl e).1; rw [hf] at this; cases this
  | @mp l b hl h =>
    refine .mp (by omega) ?_
    by_cases e : κ' l = κ l
    · rw [e, h]
    · obtain ⟨_, A, n, c, h2⟩ := hκ l hl e; rw [h] at h2; cases h2
  | full h => exact .full (h.mono hF hw)
  | rp val hFb hk hs h1 hc hr => exact .rp val (hF _ hFb) hk hs h1 (fun j hj => (cell_same (hw _ hFb)).trans (hc j hj)) fun j y hy => (hr j y hy).mono hF hw
  | junk => exact .junk

/-- The same for an object. -/
theorem RO.kill {F F' : Nat → Prop} {κ κ' : Nat → Value} {N N' : Nat} {w w' : World} (f : Nat → Bool) (hF : ∀ b, F b → F' b) (hw : ∀ b, F b → w'.heap[b]? = w.heap[b]?) (hN : N ≤ N')
    (hκ : ∀ l, l < N → κ' l ≠ κ l → f l = true ∧ ∃ A n c, κ l = .slice A n c) {l : Nat} {o : AObj} (h : RO F κ N w l o) (hb : ∀ b, blk κ l o = some b → w'.heap[b]? = w.heap[b]?) (hk : κ' l = κ l) : RO F' κ' N' w' l (o.kill f) := by
  cases o with
  | box e n v =>
    obtain ⟨b, vs, vv, h1, h2, h3, h4, h5, h6⟩ := h
    exact ⟨b, vs, vv, hk.trans h1, (hb b (by simp [blk, h1, ptrBlock])).trans h2, h3, h4, h5, h6.kill f hF hw hN hκ⟩
  | vec e k n xs =>
    obtain ⟨cs, h1, h2, h3, h4, h5⟩ := h
    refine ⟨cs, ?_, h2, by rw [kills_length]; exact h3, h4, fun i p v a d => ?_⟩
    · rw [hk]
      refine ⟨h1.1, h1.2.imp id ?_⟩
      rintro ⟨g, cap, cur, e1, e2, e3, e4⟩
      exact ⟨g, cap, cur, e1, e2, (hb g (by simp [blk, e1, Value.ownBlock])).trans e3, e4⟩
    · rw [kills_get, Option.map_eq_some_iff] at a
      obtain ⟨q, a, rfl⟩ := a
      exact (h5 i q v a d).kill f hF hw hN hκ
  | iter m since seen last =>
    obtain ⟨b, bm, h1, h2, h3, h4⟩ := h
    have e : κ' m = κ m := by
      by_cases e : κ' m = κ m
      · exact e
      · obtain ⟨_, A, n, c, h5⟩ := hκ m h3 e; rw [h2] at h5; cases h5
    exact ⟨b, bm, hk.trans h1, e.trans h2, by omega, (hb b (by simp [blk, h1, ptrBlock])).trans h4⟩
  | _ => exact h.mono hF hw hb hk (fun l' hl' => by simp [AObj.locs] at hl')

theorem blk_kill (f : Nat → Bool) (κ : Nat → Value) (l : Nat) (o : AObj) : blk κ l (o.kill f) = blk κ l o := by cases o <;> rfl
theorem kill_row (f : Nat → Bool) {o : AObj} {e k : Nat} {xs : List T} (h : o.kill f = .row e k xs) : o = .row e k xs := by cases o <;> simp_all [AObj.kill]

section
variable {F : Nat → Prop} {κ : Nat → Value} {w w' : World} {H : List AObj}

/-- A row that has been written on: its value is v' now, in the world w'. -/
theorem SI.rowTurn (s : SI F κ w H) {l : Nat} {e k : Nat} {xs xs' : List T} {e' k' : Nat} (h : H[l]? = some (.row e k xs)) (v' : Value) (hg : w.grownBy w' (κ l).ownBlock)
    (hat : v'.ownBlock = (κ l).ownBlock ∨ ∃ b, v'.ownBlock = some b ∧ w.heap.size ≤ b) (hvb : ∀ b, v'.ownBlock = some b → b < w'.heap.size)
    (hro : RO F (upd κ l v') H.length w' l (.row e' k' xs')) (N0 : Nat) (hN0 : N0 ≤ H.length) :
    SI F (upd κ l v') w' ((H.map (AObj.kill (· == l))).set l (.row e' k' xs')) ∧ Ev N0 F κ w H F (upd κ l v') w' ((H.map (AObj.kill (· == l))).set l (.row e' k' xs')) ∧ (∀ b, F b → w'.heap[b]? = w.heap[b]?) ∧
      (∀ i, i < H.length → upd κ l v' i ≠ κ i → (i == l) = true ∧ ∃ A n c, κ i = .slice A n c) := by
  have hl : l < H.length := (List.getElem?_eq_some_iff.1 h).1
  have hFb : ∀ b, F b → w'.heap[b]? = w.heap[b]? := fun b hb => hg.block b (s.fl b hb) fun e => (s.lt l _ b h (by simpa [blk] using e.symm)).2 hb
  have hκ : ∀ i, i < H.length → upd κ l v' i ≠ κ i → (i == l) = true ∧ ∃ A n c, κ i = .slice A n c := by
    intro i hi hne
    by_cases e : i = l
    · subst e
      obtain ⟨A, c, h1, _⟩ := row_len (s.ro i _ h)
      exact ⟨by simp, A, _, c, h1⟩
    · exact absurd (upd_other κ v' e) hne
  have hlen : ((H.map (AObj.kill (· == l))).set l (.row e' k' xs')).length = H.length := by simp
  have hget : ∀ i o, ((H.map (AObj.kill (· == l))).set l (AObj.row e' k' xs'))[i]? = some o → (i = l ∧ o = .row e' k' xs') ∨ (i ≠ l ∧ ∃ o0, H[i]? = some o0 ∧ o = o0.kill (· == l)) := by
    intro i o ho
    rcases set_get (by simpa using hl) ho with h1 | ⟨h1, h2⟩
    · exact .inl h1
    · rw [List.getElem?_map, Option.map_eq_some_iff] at h2
      obtain ⟨o0, h2, rfl⟩ := h2
      exact .inr ⟨h1, o0, h2, rfl⟩
  have hother : ∀ i o0 b, i ≠ l → H[i]? = some o0 → blk κ i o0 = some b → w'.heap[b]? = w.heap[b]? := fun i o0 b h1 h2 h3 =>
    hg.block b (s.lt i o0 b h2 h3).1 fun e => h1 (s.ne i l o0 _ b h2 h h3 (by simpa [blk] using e.symm))
  have hblkl : blk (upd κ l v') l (.row e' k' xs') = v'.ownBlock := by simp [blk, upd_same]
  refine ⟨⟨fun i o hi => ?_, fun i o b hi hb => ?_, fun i j o o' b hi hj hb hb' => ?_, fun b hb => Nat.lt_of_lt_of_le (s.fl b hb) hg.size⟩, ⟨hg.os, hg.tape, hg.output, hg.size, fun b hb hno => hg.block b hb fun e => hno ⟨l, _, h, by simpa [blk] using e.symm⟩,
    fun b hb => hb, fun b hb => .inl hb, ?_, by rw [hlen]; exact hN0, fun i o hi h1 h2 => ?_⟩, hFb, hκ⟩
  · rw [hlen]
    rcases hget i o hi with ⟨rfl, rfl⟩ | ⟨hne, o0, h1, rfl⟩
    · exact hro
    · exact (s.ro i o0 h1).kill _ (fun b hb => hb) hFb (Nat.le_refl _) hκ (fun b hb => hother i o0 b hne h1 hb) (upd_other κ v' hne)
  · rcases hget i o hi with ⟨rfl, rfl⟩ | ⟨hne, o0, h1, rfl⟩
    · rw [hblkl] at hb
      refine ⟨hvb b hb, fun hf => ?_⟩
      rcases hat with hat | ⟨b', h1, h2⟩
      · exact (s.lt i _ b h (by simpa [blk, ← hat] using hb)).2 hf
      · rw [hb] at h1; injection h1 with h1; have := s.fl b hf; omega
    · rw [blk_kill, blk_upd hne] at hb
      exact ⟨Nat.lt_of_lt_of_le (s.lt i o0 b h1 hb).1 hg.size, (s.lt i o0 b h1 hb).2⟩
  · have cross : ∀ i o0, i ≠ l → H[i]? = some o0 → blk (upd κ l v') i (o0.kill (· == l)) = some b → v'.ownBlock = some b → False := by
      intro i o0 hne h1 h2 h3
      rw [blk_kill, blk_upd hne] at h2
      rcases hat with hat | ⟨b', h4, h5⟩
      · exact hne (s.ne i l o0 _ b h1 h h2 (by simpa [blk, ← hat] using h3))
      · rw [h3] at h4; injection h4 with h4; have := (s.lt i o0 b h1 h2).1; omega
    rcases hget i o hi with ⟨rfl, rfl⟩ | ⟨hne, o0, h1, rfl⟩ <;> rcases hget j o' hj with ⟨rfl, rfl⟩ | ⟨hne', o0', h1', rfl⟩
    · rfl
    · rw [hblkl] at hb; exact (cross j o0' hne' h1' hb' hb).elim
    · rw [hblkl] at hb'; exact (cross i o0 hne h1 hb hb').elim
    · rw [blk_kill, blk_upd hne] at hb
      rw [blk_kill, blk_upd hne'] at hb'
      exact s.ne i j o0 o0' b h1 h1' hb hb'
  · rintro b ⟨i, o, hi, hb⟩
    rcases hget i o hi with ⟨rfl, rfl⟩ | ⟨hne, o0, h1, rfl⟩
    · rw [hblkl] at hb
      rcases hat with hat | ⟨b', h1, h2⟩
      · exact .inl ⟨i, _, h, by simpa [blk, ← hat] using hb⟩
      · rw [hb] at h1; injection h1 with h1; exact .inr (by omega)
    · rw [blk_kill, blk_upd hne] at hb
      exact .inl ⟨i, o0, h1, hb⟩
  · have hne : i ≠ l := by rintro rfl; rw [h] at h1; injection h1 with h1; exact h2 e k xs h1.symm
    refine ⟨upd_other κ v' hne, o.kill (· == l), ?_, fun e k xs he => h2 e k xs (kill_row _ he)⟩
    rw [List.getElem?_set_ne (fun e => hne e.symm), List.getElem?_map, h1]; rfl

/-- The cells of a slice that is read, as one list. -/
theorem SlV.news {k : Nat} {ys : List T} {p : PV} {v : Value} (h : SlV F κ w H (k + 1) ys p v) :
    ∃ (A : Option Addr) (c : Nat) (news : List Value), v = .slice A ys.length c ∧ news.length = ys.length * (k + 1) ∧ (∀ u ∈ news, u.oneCell' = true) ∧ (∀ x ∈ ys, x.cells.length = k + 1 ∧ (k + 1 = 1 → x.isAgg = false)) ∧ ys.length ≤ big ∧
      ((A = none ∧ ys = []) ∨ ∃ (ad : Addr), A = some ad ∧ ∀ (j : Nat) (u : Value), news[j]? = some u → w.cell? (ad.add j) = some u) ∧
      (∀ (i : Nat) (x : T) (j : Nat) (y : T) (u : Value), ys[i]? = some x → x.cells[j]? = some y → news[i * (k + 1) + j]? = some u → Rd F w y u) := by
  obtain ⟨A, n, c, rfl, rfl, h3, h4, h5, b, o, val, h6, h7, h8, h9⟩ := h
  have hq : ∀ q, q < ys.length * (k + 1) → q / (k + 1) < ys.length := fun q hq => by rw [Nat.div_lt_iff_lt_mul (by omega)]; exact hq
  refine ⟨A, c, (List.range (ys.length * (k + 1))).map fun q => val (q / (k + 1)) (q % (k + 1)), rfl, by simp, fun u hu => ?_, h5, h4, ?_, fun i x j y u hx hy hu => ?_⟩
  · simp only [List.mem_map, List.mem_range] at hu
    obtain ⟨q, hq', rfl⟩ := hu
    exact h7 _ _ (hq q hq') (Nat.mod_lt _ (by omega))
  · rcases Nat.eq_zero_or_pos ys.length with e | e
    · cases A with
      | none => exact .inl ⟨rfl, List.eq_nil_of_length_eq_zero e⟩
      | some ad => exact .inr ⟨ad, rfl, fun j u hu => by simp [e] at hu⟩
    · obtain ⟨a1, _⟩ := h6 e
      refine .inr ⟨_, a1, fun j u hu => ?_⟩
      have hj : j < ys.length * (k + 1) := by have := (List.getElem?_eq_some_iff.1 hu).1; simpa using this
      rw [List.getElem?_map, List.getElem?_range hj] at hu
      simp only [Option.map_some, Option.some.injEq] at hu
      subst hu
      rw [add_mid]
      have := h8 (j / (k + 1)) (j % (k + 1)) (hq j hj) (Nat.mod_lt _ (by omega))
      rwa [Nat.add_assoc, Nat.div_add_mod'] at this
  · have hi : i < ys.length := (List.getElem?_eq_some_iff.1 hx).1
    have hj : j < k + 1 := by rw [← (h5 x (List.mem_of_getElem? hx)).1]; exact (List.getElem?_eq_some_iff.1 hy).1
    have hlt : i * (k + 1) + j < ys.length * (k + 1) := by
      calc i * (k + 1) + j < i * (k + 1) + (k + 1) := by omega
        _ = (i + 1) * (k + 1) := by rw [Nat.succ_mul]
        _ ≤ ys.length * (k + 1) := Nat.mul_le_mul_right _ hi
    rw [List.getElem?_map, List.getElem?_range hlt] at hu
    simp only [Option.map_some, Option.some.injEq] at hu
    subst hu
    rw [Nat.mul_comm i, Nat.mul_add_div (by omega), Nat.mul_add_mod, Nat.div_eq_of_lt hj, Nat.mod_eq_of_lt hj, Nat.add_zero]
    exact h9 i x j y hx hy
end
end Go.Sim

/- Rows of one's own, of which a part is written anew. -/
namespace Go.Sim
open Go.RowKit
set_option linter.unusedVariables false
set_option linter.unusedSimpArgs false

/-- A splice of cells. -/
theorem splice_get {α : Type} (a b : List α) {o s : Nat} (hs : b.length = s) (ho : o + s ≤ a.length) (i : Nat) :
    (a.take o ++ b ++ a.drop (o + s))[i]? = if i < o then a[i]? else if i < o + s then b[i - o]? else a[i]? := by
  have hlo : (a.take o).length = o := by simp; omega
  rcases Nat.lt_or_ge i o with h1 | h1
  · rw [if_pos h1, List.append_assoc, List.getElem?_append_left (by omega), List.getElem?_take, if_pos h1]
  · rw [if_neg (by omega)]
    rcases Nat.lt_or_ge i (o + s) with h2 | h2
    · rw [if_pos h2, List.append_assoc, List.getElem?_append_right (by omega), hlo, List.getElem?_append_left (by omega)]
    · rw [if_neg (by omega), List.getElem?_append_right (by simp; omega), List.getElem?_drop]
      congr 1
      simp; omega
theorem splice_len {α : Type} (a b : List α) {o s : Nat} (hs : b.length = s) (ho : o + s ≤ a.length) : (a.take o ++ b ++ a.drop (o + s)).length = a.length := by simp; omega

section
variable {F F' : Nat → Prop} {κ : Nat → Value} {w w' : World} {H : List AObj}

/-- An object written anew where it lies. -/
theorem SI.objSet (s : SI F κ w H) {l b : Nat} {o o' : AObj} (h : H[l]? = some o) (hb : blk κ l o = some b) (hb' : blk κ l o' = some b) (hsz : w'.heap.size = w.heap.size) (hoth : ∀ c, c ≠ b → w'.heap[c]? = w.heap[c]?)
    (hro : RO F κ H.length w' l o') : SI F κ w' (H.set l o') := by
  have hl : l < H.length := (List.getElem?_eq_some_iff.1 h).1
  have hnF := (s.lt l o b h hb).2
  have hFb : ∀ c, F c → w'.heap[c]? = w.heap[c]? := fun c hc => hoth c fun e => hnF (e ▸ hc)
  refine ⟨fun i q hi => ?_, fun i q c hi hc => ?_, fun i j q q' c hi hj hc hc' => ?_, fun c hc => by rw [hsz]; exact s.fl c hc⟩
  · rw [List.length_set]
    rcases set_get hl hi with ⟨rfl, rfl⟩ | ⟨hne, hq⟩
    · exact hro
    · exact (s.ro i q hq).mono (fun _ h => h) hFb (fun c hc => hoth c fun e => hne (s.ne i l q o b hq h (e ▸ hc) hb)) rfl fun l' hl' => ⟨rfl, (s.ro i q hq).bound l' hl'⟩
  · rw [hsz]
    rcases set_get hl hi with ⟨rfl, rfl⟩ | ⟨hne, hq⟩
    · rw [hb'] at hc; injection hc with hc; subst hc; exact s.lt i o b h hb
    · exact s.lt i q c hq hc
  · rcases set_get hl hi with ⟨rfl, rfl⟩ | ⟨hne, hq⟩ <;> rcases set_get hl hj with ⟨rfl, rfl⟩ | ⟨hne', hq'⟩
    · rfl
    · rw [hb'] at hc; injection hc with hc; subst hc; exact absurd (s.ne j i q' o b hq' h hc' hb) hne'
    · rw [hb'] at hc'; injection hc' with hc'; subst hc'; exact absurd (s.ne i j q o b hq h hc hb) hne
    · exact s.ne i j q q' c hq hq' hc hc'

theorem Ev.objSet {N0 l b : Nat} {o o' : AObj} (h : H[l]? = some o) (hb : blk κ l o = some b) (hb' : blk κ l o' = some b) (hos : w'.os = w.os) (htp : w'.tape = w.tape) (hou : w'.output = w.output)
    (hsz : w'.heap.size = w.heap.size) (hoth : ∀ c, c ≠ b → w'.heap[c]? = w.heap[c]?) (h0 : N0 ≤ H.length) (hk : (∃ e k xs, o = .row e k xs) ∨ ∀ e k xs, o' ≠ .row e k xs) : Ev N0 F κ w H F κ w' (H.set l o') := by
  have hl : l < H.length := (List.getElem?_eq_some_iff.1 h).1
  refine ⟨hos, htp, hou, by omega, fun c _ hn => hoth c fun e => hn ⟨l, o, h, e ▸ hb⟩, fun _ h => h, fun _ h => .inl h, fun c hc => ?_, by simpa using h0, fun i q _ hi hq => ⟨rfl, ?_⟩⟩
  · obtain ⟨i, q, hi, hq⟩ := hc
    rcases set_get hl hi with ⟨rfl, rfl⟩ | ⟨hne, h2⟩
    · exact .inl ⟨i, o, h, by rw [hb]; rw [hb'] at hq; exact hq⟩
    · exact .inl ⟨i, q, h2, hq⟩
  · by_cases e : i = l
    · subst e
      rw [h] at hi
      injection hi with hi
      subst hi
      refine ⟨o', List.getElem?_set_self hl, ?_⟩
      rcases hk with ⟨e, k, xs, hk⟩ | hk
      · exact absurd hk (hq e k xs)
      · exact hk
    · exact ⟨q, by rw [List.getElem?_set_ne (fun h => e h.symm)]; exact hi, hq⟩

theorem set_self {α : Type} {H : List α} {l : Nat} {o : α} (ho : H[l]? = some o) : H.set l o = H := by
  obtain ⟨h1, h2⟩ := List.getElem?_eq_some_iff.1 ho
  subst h2
  exact List.set_getElem_self h1
theorem spliceT_nil (xs : List T) (a : Nat) : spliceT xs a [] = xs := by simp [spliceT]
theorem mul_in {i n k j : Nat} (h : i < n) (hj : j < k) : i * k + j < n * k := by
  calc i * k + j < i * k + k := by omega
    _ = (i + 1) * k := by rw [Nat.succ_mul]
    _ ≤ n * k := Nat.mul_le_mul_right _ h

theorem row_splice {P : Program} {N0 : Nat} (s : SI F κ w H) (h0 : N0 ≤ H.length) {l e k a : Nat} {xs ys : List T} (ho : H[l]? = some (.row e k xs)) {g n c : Nat} (hl : κ l = .slice (some ⟨g, 0, none⟩) n c) {news : List Value}
    (ha : a + ys.length ≤ xs.length) (n1 : news.length = ys.length * k) (n2 : ∀ u ∈ news, u.oneCell' = true) (n3 : ∀ x ∈ ys, x.cells.length = k ∧ (k = 1 → x.isAgg = false))
    (n6 : ∀ (i : Nat) (x : T) (j : Nat) (y : T) (u : Value), ys[i]? = some x → x.cells[j]? = some y → news[i * k + j]? = some u → Rd F w y u) :
    ∃ w', (storeCells ⟨g, a * k, none⟩ news).run P w = .ok () w' ∧ SI F κ w' (H.set l (.row e k (spliceT xs a ys))) ∧ Ev N0 F κ w H F κ w' (H.set l (.row e k (spliceT xs a ys))) ∧
      ∀ (p : PV) (v : Value), RP F κ H.length w p v → RP F κ H.length w' p v := by
  obtain ⟨cs, o1, o2, o3, o4, o5⟩ := s.ro l _ ho
  have hown := o1
  rw [hl] at hown
  rcases hown.2 with ⟨hnil, _⟩ | ⟨g', cap, cur, q1, q2, q3, q4, q5, q6, q7⟩
  · cases hnil
  simp only [Value.slice.injEq, Option.some.injEq, Addr.mk.injEq, and_true, true_and] at q1
  obtain ⟨rfl, hn, rfl⟩ := q1
  subst hn
  have hcs : cs.length = xs.length * k := o1.1
  have hblk : ∀ xs' : List T, blk κ l (.row e k xs') = some g := fun xs' => by simp [blk, hl, Value.ownBlock]
  have hle : a * k + news.length ≤ xs.length * k := by rw [n1, ← Nat.add_mul]; exact Nat.mul_le_mul_right _ ha
  have hcur : xs.length * k ≤ cur.size := by rw [q6]; exact Nat.mul_le_mul_right _ q4
  have hrun := run_storeCells_at P g (a * k) e news 0 cur w q3 (by omega) n2
  simp only [Nat.add_zero] at hrun
  refine ⟨_, hrun, ?_⟩
  generalize hcur' : (cur.toList.take (a * k) ++ news ++ cur.toList.drop (a * k + news.length)).toArray = cur'
  have hoth : ∀ c, c ≠ g → (w.setRow g cur').heap[c]? = w.heap[c]? := fun c hc => setRow_other w g c cur' hc
  have hFb : ∀ c, F c → (w.setRow g cur').heap[c]? = w.heap[c]? := fun c hc => hoth c fun e => (s.lt l _ g ho (hblk xs)).2 (e ▸ hc)
  have htake : cur'.toList.take (xs.length * k) = cs.take (a * k) ++ news ++ cs.drop (a * k + news.length) := by
    rw [← hcur', ← q7]
    apply List.ext_getElem?
    intro j
    rw [splice_get _ _ rfl (by simp; omega)]
    simp only [List.getElem?_take]
    by_cases hj : j < xs.length * k
    · simp only [if_pos hj]
      rw [splice_get _ _ rfl (by simp; omega)]
    · simp only [if_neg hj]
      rw [if_neg (by omega), if_neg (by omega)]
  have hlen' : (cs.take (a * k) ++ news ++ cs.drop (a * k + news.length)).length = xs.length * k := by rw [splice_len _ _ rfl (by omega)]; exact hcs
  have hxl : (spliceT xs a ys).length = xs.length := splice_len _ _ rfl ha
  have hro' : RO F κ H.length (w.setRow g cur') l (.row e k (spliceT xs a ys)) := by
    refine ⟨cs.take (a * k) ++ news ++ cs.drop (a * k + news.length), ?_, by rw [hxl]; exact o2, fun x hx => ?_, fun c hc => ?_, fun i x j z c hx hz hc => ?_⟩
    · rw [hl, hxl]
      exact ⟨hlen', .inr ⟨g, _, cur', rfl, q2, setRow_heap w g _ _ _ _ q3, q4, q5, by rw [← hcur']; simp; omega, htake⟩⟩
    · simp only [spliceT, List.mem_append] at hx
      rcases hx with (hx | hx) | hx
      · exact o3 x (List.mem_of_mem_take hx)
      · exact n3 x hx
      · exact o3 x (List.mem_of_mem_drop hx)
    · simp only [List.mem_append] at hc
      rcases hc with (hc | hc) | hc
      · exact o4 c (List.mem_of_mem_take hc)
      · exact n2 c hc
      · exact o4 c (List.mem_of_mem_drop hc)
    · refine Rd.mono (fun _ h => h) hFb ?_
      rw [splice_get _ _ rfl (by omega)] at hc
      unfold spliceT at hx
      rw [splice_get _ _ rfl ha] at hx
      have hjk : j < k := by
        have hxk : x.cells.length = k := by
          split at hx
          · exact (o3 x (List.mem_of_getElem? hx)).1
          · split at hx
            · exact (n3 x (List.mem_of_getElem? hx)).1
            · exact (o3 x (List.mem_of_getElem? hx)).1
        rw [← hxk]; exact (List.getElem?_eq_some_iff.1 hz).1
      rcases Nat.lt_or_ge i a with h1 | h1
      · rw [if_pos h1] at hx
        rw [if_pos (mul_in h1 hjk)] at hc
        exact o5 i x j z c hx hz hc
      · have h2 : a * k ≤ i * k := Nat.mul_le_mul_right _ h1
        rw [if_neg (by omega)] at hx
        rw [if_neg (by omega)] at hc
        rcases Nat.lt_or_ge i (a + ys.length) with h3 | h3
        · rw [if_pos h3] at hx
          have h4 := mul_in h3 hjk
          rw [Nat.add_mul, ← n1] at h4
          rw [if_pos h4] at hc
          refine n6 (i - a) x j z c hx hz ?_
          rw [show (i - a) * k + j = i * k + j - a * k by rw [Nat.sub_mul]; omega]
          exact hc
        · have h4 : (a + ys.length) * k ≤ i * k := Nat.mul_le_mul_right _ h3
          rw [Nat.add_mul, ← n1] at h4
          rw [if_neg (by omega)] at hx
          rw [if_neg (by omega)] at hc
          exact o5 i x j z c hx hz hc
  exact ⟨s.objSet ho (hblk _) (hblk _) (by simp) hoth hro', Ev.objSet ho (hblk _) (hblk _) rfl rfl rfl (by simp) hoth h0 (.inl ⟨_, _, _, rfl⟩), fun p v h => h.mono (fun _ h => h) hFb fun l hl => ⟨rfl, h.bound l hl⟩⟩
end
end Go.Sim

/- append: its soundness. -/
namespace Go.Sim
open Go.RowKit
set_option linter.unusedVariables false
set_option linter.unusedSimpArgs false

theorem big_max : big + big ≤ maxLen := by decide

section
variable {P : Program}
theorem run_append_empty (w : World) (base : Nat) (t ty e : TypeId) (i : TypeInfo) (size : Nat) (ht : P.underlying t = some (.slice e)) (hi : P.info? e = some i)
    (v : Value) (n : Nat) (xs : List Value) (hown : w.ownsRow base e size v n xs) (c : Nat) :
    (Builtin.append_ #[t, t] ty #[v, .slice none 0 c]).run P w = .ok v w := by
  rcases hown.2 with ⟨rfl, rfl⟩ | ⟨g, cap, cur, rfl, _, _, hnc, _⟩
  · simp [Builtin.append_, run_underlying ht, sizeOf, typeInfo, hi, Builtin.lenOf, Builtin.firstCells]
  · simp [Builtin.append_, run_underlying ht, sizeOf, typeInfo, hi, Builtin.lenOf, Builtin.firstCells, hnc, storeCells]

/-- append onto a row of one's own, of what is read off a slice. -/
theorem run_append_any (w : World) (t ty e : TypeId) {k b : Nat} (ht : P.underlying t = some (.slice e)) (hs : szP P e = some (k + 1)) (hby : byP P e = some (b + 1)) (hz : zeroOk P e (k + 1) = true)
    (v : Value) (n : Nat) (xs : List Value) (hown : w.ownsRow 0 e (k + 1) v n xs) (A : Option Addr) (m c : Nat) (news : List Value) (hl : news.length = m * (k + 1))
    (hA : (A = none ∧ m = 0) ∨ ∃ ad : Addr, A = some ad ∧ ∀ (j : Nat) (u : Value), news[j]? = some u → w.cell? (ad.add j) = some u) (h1 : ∀ u ∈ news, u.oneCell' = true)
    (hb : (n + m) * (b + 1) ≤ big) :
    ∃ v' w', (Builtin.append_ #[t, t] ty #[v, .slice A m c]).run P w = .ok v' w' ∧ w'.ownsRow 0 e (k + 1) v' (n + m) (xs ++ news) ∧ w.grownBy w' v.ownBlock ∧
      (v'.ownBlock = v.ownBlock ∨ v'.ownBlock = some w.heap.size) := by
  obtain ⟨i, hi, hsz⟩ := info_of_sz hs
  have hby' : i.bytes = b + 1 := by simpa [byP, hi] using hby
  have hle : n + m ≤ big := Nat.le_trans (Nat.le_mul_of_pos_right _ (by omega)) hb
  have hmax := big_max
  rcases hA with ⟨rfl, rfl⟩ | ⟨ad, rfl, hA⟩
  · have : news = [] := List.eq_nil_of_length_eq_zero (by simpa using hl)
    subst this
    exact ⟨v, w, run_append_empty w 0 t ty e i (k + 1) ht hi v n xs hown c, by simpa using hown, ⟨rfl, rfl, rfl, Nat.le_refl _, fun _ _ _ => rfl⟩, .inl rfl⟩
  · unfold zeroOk at hz
    cases hz' : (P.info? e).bind (·.zero) with
    | none => simp [hz'] at hz
    | some z =>
      simp only [hz', beq_iff_eq] at hz
      have hz2 : i.zero = some z := by simpa [hi] using hz'
      obtain ⟨v', w', a1, a2, a3, _, a5⟩ := run_append_own_at (P := P) w 0 t ty e i z (k + 1) (b + 1) ht hi hz2 hsz hby' hz (by omega) v n xs hown ad m c news hl hA h1 (by omega) hb (by omega)
      exact ⟨v', w', a1, a2, a3, a5⟩

/-- append onto a slice that has no room: always a new row. -/
theorem run_append_full (w : World) (t ty e : TypeId) {k b : Nat} (ht : P.underlying t = some (.slice e)) (hs : szP P e = some (k + 1)) (hby : byP P e = some (b + 1)) (hz : zeroOk P e (k + 1) = true)
    (S : Option Addr) (n : Nat) (olds : List Value) (hlo : olds.length = n * (k + 1)) (hS : (S = none ∧ n = 0) ∨ ∃ ad : Addr, S = some ad ∧ ∀ (j : Nat) (u : Value), olds[j]? = some u → w.cell? (ad.add j) = some u)
    (A : Option Addr) (m c : Nat) (news : List Value) (hl : news.length = m * (k + 1)) (hm : 0 < m)
    (hA : (A = none ∧ m = 0) ∨ ∃ ad : Addr, A = some ad ∧ ∀ (j : Nat) (u : Value), news[j]? = some u → w.cell? (ad.add j) = some u) (hb : (n + m) * (b + 1) ≤ big) :
    ∃ v' w', (Builtin.append_ #[t, t] ty #[.slice S n n, .slice A m c]).run P w = .ok v' w' ∧ w'.ownsRow 0 e (k + 1) v' (n + m) (olds ++ news) ∧ w.grownBy w' none ∧ v'.ownBlock = some w.heap.size := by
  obtain ⟨i, hi, hsz⟩ := info_of_sz hs
  have hby' : i.bytes = b + 1 := by simpa [byP, hi] using hby
  have hle : n + m ≤ big := Nat.le_trans (Nat.le_mul_of_pos_right _ (by omega)) hb
  have hmax := big_max
  have h63 : n + m ≤ maxLen := by omega
  have hbm : big + big ≤ 9223372036854775807 := by decide
  rcases hA with ⟨rfl, rfl⟩ | ⟨ad, rfl, hA⟩
  · omega
  unfold zeroOk at hz
  cases hz' : (P.info? e).bind (·.zero) with
  | none => simp [hz'] at hz
  | some z =>
    simp only [hz', beq_iff_eq] at hz
    have hz2 : i.zero = some z := by simpa [hi] using hz'
    have hlen : (olds ++ news).length = (n + m) * (k + 1) := by rw [List.length_append, hlo, hl, Nat.add_mul]
    have grown : (w.drew.alloc (.cells (olds.toArray ++ news.toArray ++ Builtin.zeroCells z.cells (grownCap w (n + m) n e - (n + m))) e)).ownsRow 0 e (k + 1)
        (.slice (some ⟨w.heap.size, 0, none⟩) (n + m) (grownCap w (n + m) n e)) (n + m) (olds ++ news) := by
      have hge := grownCap_ge w (n + m) n e
      have hcm := grownCap_le_maxLen w (n + m) n e h63
      refine ⟨hlen, .inr ⟨w.heap.size, _, _, rfl, by omega, heap_alloc_new w.drew _, hge, hcm, ?_, ?_⟩⟩
      · simp only [Array.size_append, List.size_toArray, size_zeroCells, hz, hlo, hl, ← Nat.add_mul]
        congr 1
        omega
      · simp only [Array.toList_append, List.append_assoc]
        rw [← List.append_assoc, ← hlen]
        exact List.take_left
    have hgb : w.grownBy (w.drew.alloc (.cells (olds.toArray ++ news.toArray ++ Builtin.zeroCells z.cells (grownCap w (n + m) n e - (n + m))) e)) none :=
      ⟨rfl, rfl, rfl, by simp, fun k hk _ => heap_alloc_old w.drew _ k hk⟩
    rcases hS with ⟨rfl, rfl⟩ | ⟨sd, rfl, hS⟩
    · have : olds = [] := List.eq_nil_of_length_eq_zero (by simpa using hlo)
      subst this
      have hr := run_append_nil (P := P) w t ty e i z ht hi hz2 ad m c news (by rw [hsz]; exact hl) hA hm (by omega) (by rw [hby']; simp at hb; exact Nat.le_trans hb (by decide))
      simp only [Nat.zero_add, List.nil_append, Array.empty_append, List.toArray] at grown hgb
      exact ⟨_, _, hr, by simpa using grown, by simpa using hgb, rfl⟩
    · have hr := run_append_grow (P := P) w t ty e i z ht hi hz2 sd n n olds (by rw [hsz]; exact hlo) hS ad m c news (by rw [hsz]; exact hl) hA (by omega) (by omega) (by rw [hby']; exact growslice_fits (by omega) hb)
      exact ⟨_, _, hr, grown, hgb, rfl⟩
theorem run_append_same (w : World) (t ty e : TypeId) {k : Nat} (ht : P.underlying t = some (.slice e)) (hs : szP P e = some (k + 1)) (S : Option Addr) (n : Nat) (A : Option Addr) (c : Nat) :
    (Builtin.append_ #[t, t] ty #[.slice S n n, .slice A 0 c]).run P w = .ok (.slice S n n) w := by
  obtain ⟨i, hi, hsz⟩ := info_of_sz hs
  cases S <;> cases A <;> simp [Builtin.append_, run_underlying ht, sizeOf, typeInfo, hi, Builtin.lenOf, Builtin.firstCells, storeCells, loadCells, loadCellsFrom]
end

theorem ownsRow_lt {w : World} {e k n : Nat} {v : Value} {xs : List Value} (h : w.ownsRow 0 e k v n xs) : ∀ b, v.ownBlock = some b → b < w.heap.size := fun b hb => (h.lt b hb).2

section
variable {F : Nat → Prop} {κ : Nat → Value} {w w' : World} {H : List AObj}

/-- What a longer row holds. -/
theorem row_more {l' : Nat} {e k : Nat} {xs ys : List T} {cs news : List Value} {v v' : Value} {κ' : Nat → Value} {N' : Nat} (hv : κ' l' = v')
    (hfr : ∀ b, F b → w'.heap[b]? = w.heap[b]?)
    (h1 : w'.ownsRow 0 e (k + 1) v' (xs.length + ys.length) (cs ++ news)) (hb : xs.length + ys.length ≤ big) (hcs : cs.length = xs.length * (k + 1))
    (a1 : ∀ x ∈ xs, x.cells.length = k + 1 ∧ (k + 1 = 1 → x.isAgg = false)) (a2 : ∀ c ∈ cs, c.oneCell' = true)
    (a3 : ∀ (i : Nat) (x : T) (j : Nat) (y : T) (v : Value), xs[i]? = some x → x.cells[j]? = some y → cs[i * (k + 1) + j]? = some v → Rd F w y v)
    (b1 : ∀ x ∈ ys, x.cells.length = k + 1 ∧ (k + 1 = 1 → x.isAgg = false)) (b2 : ∀ c ∈ news, c.oneCell' = true)
    (b3 : ∀ (i : Nat) (x : T) (j : Nat) (y : T) (v : Value), ys[i]? = some x → x.cells[j]? = some y → news[i * (k + 1) + j]? = some v → Rd F w y v) :
    RO F κ' N' w' l' (.row e (k + 1) (xs ++ ys)) := by
  refine ⟨cs ++ news, by rw [hv, List.length_append]; exact h1, by rw [List.length_append]; exact hb, fun x hx => ?_, fun c hc => ?_, fun i x j y v hx hy hv => ?_⟩
  · rcases List.mem_append.1 hx with h | h
    · exact a1 x h
    · exact b1 x h
  · rcases List.mem_append.1 hc with h | h
    · exact a2 c h
    · exact b2 c h
  · have hj : ∀ x : T, x.cells.length = k + 1 → x.cells[j]? = some y → j < k + 1 := fun x h1 h2 => by rw [← h1]; exact (List.getElem?_eq_some_iff.1 h2).1
    rcases Nat.lt_or_ge i xs.length with hi | hi
    · rw [List.getElem?_append_left hi] at hx
      have hj := hj x (a1 x (List.mem_of_getElem? hx)).1 hy
      have : i * (k + 1) + j < cs.length := by
        rw [hcs]
        calc i * (k + 1) + j < i * (k + 1) + (k + 1) := by omega
          _ = (i + 1) * (k + 1) := by rw [Nat.succ_mul]
          _ ≤ xs.length * (k + 1) := Nat.mul_le_mul_right _ hi
      rw [List.getElem?_append_left this] at hv
      exact (a3 i x j y v hx hy hv).mono (fun _ h => h) hfr
    · rw [List.getElem?_append_right hi] at hx
      obtain ⟨d, rfl⟩ := Nat.exists_eq_add_of_le hi
      have e1 : (xs.length + d) * (k + 1) + j = cs.length + (d * (k + 1) + j) := by rw [hcs, Nat.add_mul]; omega
      rw [e1, List.getElem?_append_right (by omega)] at hv
      simp only [Nat.add_sub_cancel_left] at hx hv
      exact (b3 d x j y v hx hy hv).mono (fun _ h => h) hfr
end

section
variable {β : Type} {E : Env} {st : St} {F : Nat → Prop} {κ : Nat → Value} {w : World} {N0 : Nat} {tm : Array Value}

/-- A new object, and its value. -/
theorem Next'.push (h0 : N0 ≤ st.heap.length) (s : SI F κ w st.heap) (ht : TR F κ w st tm) {o : AObj} {u : Value} {w' : World} {F' : Nat → Prop} {p : PV} (hos : w'.os = w.os) (htp : w'.tape = w.tape) (hou : w'.output = w.output)
    (hsz : w.heap.size ≤ w'.heap.size) (hold : ∀ b, b < w.heap.size → w'.heap[b]? = w.heap[b]?) (hF : ∀ b, F b → F' b) (hF1 : ∀ b, F' b → F b ∨ w.heap.size ≤ b) (hfl : ∀ b, F' b → b < w'.heap.size)
    (ho : RO F' (upd κ st.heap.length u) (st.heap.length + 1) w' st.heap.length o)
    (hb : ∀ b, blk (upd κ st.heap.length u) st.heap.length o = some b → w.heap.size ≤ b ∧ b < w'.heap.size ∧ ¬ F' b)
    (hp : RP F' (upd κ st.heap.length u) (st.heap.length + 1) w' p u) : Next' N0 F κ w st tm p u F' (upd κ st.heap.length u) w' ⟨st.tmps, st.heap ++ [o]⟩ := by
  have hs := s.push o u hsz hold hF hF1 hfl ho hb
  refine ⟨hs, ⟨hos, htp, hou, hsz, fun b hb' _ => hold b hb', hF, fun b hb' => (hF1 b hb').elim .inl (fun h => .inr (.inr h)), fun b hb' => ?_, by simp; omega, fun l o' hl h1 h2 => ?_⟩, by simpa using hp, rfl, fun i q v h1 h2 => ?_⟩
  · rcases hb'.push with h | h
    · exact .inl h
    · exact .inr (hb b h).1
  · refine ⟨upd_other κ u (by omega), o', ?_, h2⟩
    rw [List.getElem?_append_left (by omega)]; exact h1
  · simpa using (ht i q v h1 h2).push s u hold hF

/-- Fresh blocks, frozen at once. -/
theorem SI.fresh {H : List AObj} {w' : World} {F' : Nat → Prop} (s : SI F κ w H) (hsz : w.heap.size ≤ w'.heap.size) (hold : ∀ b, b < w.heap.size → w'.heap[b]? = w.heap[b]?) (hF : ∀ b, F b → F' b) (hF1 : ∀ b, F' b → F b ∨ w.heap.size ≤ b) (hfl : ∀ b, F' b → b < w'.heap.size) : SI F' κ w' H :=
  ⟨fun l o h => (s.ro l o h).mono hF (fun b hb => hold b (s.fl b hb)) (fun b hb => hold b (s.lt l o b h hb).1) rfl fun l' hl' => ⟨rfl, (s.ro l o h).bound l' hl'⟩,
    fun l o b h hb => ⟨Nat.lt_of_lt_of_le (s.lt l o b h hb).1 hsz, fun hf => (hF1 b hf).elim (s.lt l o b h hb).2 (fun h2 => by have := (s.lt l o b h hb).1; omega)⟩, s.ne, hfl⟩
theorem Next'.fresh (h0 : N0 ≤ st.heap.length) (s : SI F κ w st.heap) (ht : TR F κ w st tm) {u : Value} {w' : World} {F' : Nat → Prop} {p : PV} (hos : w'.os = w.os) (htp : w'.tape = w.tape) (hou : w'.output = w.output)
    (hsz : w.heap.size ≤ w'.heap.size) (hold : ∀ b, b < w.heap.size → w'.heap[b]? = w.heap[b]?) (hF : ∀ b, F b → F' b) (hF1 : ∀ b, F' b → F b ∨ w.heap.size ≤ b) (hfl : ∀ b, F' b → b < w'.heap.size)
    (hp : RP F' κ st.heap.length w' p u) : Next' N0 F κ w st tm p u F' κ w' st :=
  ⟨s.fresh hsz hold hF hF1 hfl, ⟨hos, htp, hou, hsz, fun b hb' _ => hold b hb', hF, fun b hb' => (hF1 b hb').elim .inl (fun h => .inr (.inr h)), fun b hb => .inl hb, h0, fun l o' hl h1 h2 => ⟨rfl, o', h1, h2⟩⟩, hp, rfl,
    fun i q v h1 h2 => (ht i q v h1 h2).mono hF (fun b hb => hold b (s.fl b hb)) fun l hl => ⟨rfl, (ht i q v h1 h2).bound l hl⟩⟩

theorem appendK_sound {t t' ty : TypeId} {s x : PV} {K : PV → St → Res β} {vs vx : Value} (h : appendK E st t t' s x K ≠ .stuck) (h0 : N0 ≤ st.heap.length) (hsi : SI F κ w st.heap) (ht : TR F κ w st tm)
    (hs : RP F κ st.heap.length w s vs) (hx : RP F κ st.heap.length w x vx) :
    ∃ q u st' F' κ' w', appendK E st t t' s x K = K q st' ∧ (Builtin.append_ #[t, t'] ty #[vs, vx]).run E.P w = .ok u w' ∧ Next' N0 F κ w st tm q u F' κ' w' st' := by
  unfold appendK at h ⊢
  cases he : elP E.P t with
  | none => simp [he] at h
  | some e =>
    cases hz : szP E.P e with
    | none => simp [he, hz] at h
    | some k =>
      cases k with
      | zero => simp [he, hz] at h
      | succ k =>
        cases hb : byP E.P e with
        | none => simp [he, hz, hb] at h
        | some b =>
          cases b with
          | zero => simp [he, hz, hb] at h
          | succ b =>
            simp only [he, hz, hb] at h ⊢
            obtain ⟨hg, e1⟩ := cond_inv' h
            rw [e1] at h ⊢
            simp only [Bool.and_eq_true, beq_iff_eq] at hg
            obtain ⟨rfl, hzero⟩ := hg
            have hun := elP_underlying he
            obtain ⟨ys, e2, hv⟩ := elemsK_sound h hsi hx
            rw [e2] at h ⊢
            obtain ⟨A, c, news, rfl, n1, n2, n3, n4, n5, n6⟩ := hv.news
            have hA : (A = none ∧ ys.length = 0) ∨ ∃ ad : Addr, A = some ad ∧ ∀ (j : Nat) (u : Value), news[j]? = some u → w.cell? (ad.add j) = some u := n5.imp (fun h => ⟨h.1, by rw [h.2]; rfl⟩) id
            cases hs with
            | nil =>
              simp only [] at h ⊢
              obtain ⟨c1, c2⟩ := chk_inv h
              rw [c2]
              have c3 : (0 + ys.length) * (b + 1) ≤ big := by simpa using c1
              obtain ⟨v', w', r1, r2, r3, r4⟩ := run_append_any w t ty e hun hz hb hzero (.slice none 0 0) 0 [] (World.ownsRow_nil w 0 e (k + 1)) A ys.length c news n1 hA n2 c3
              have hnew : ∀ b, v'.ownBlock = some b → b = w.heap.size := fun b hb => by
                rcases r4 with r4 | r4
                · rw [hb] at r4; cases r4
                · rw [hb] at r4; injection r4
              have hold : ∀ b, b < w.heap.size → w'.heap[b]? = w.heap[b]? := fun b hb => r3.block b hb (by simp [Value.ownBlock])
              have hro := row_more (F := F) (w := w) (l' := st.heap.length) (xs := []) (ys := ys) (cs := []) (v := v') (κ' := upd κ st.heap.length v') (N' := st.heap.length + 1) (upd_same κ _ v') (fun b hb => hold b (hsi.fl b hb))
                (by simpa using r2) (by simpa using n4) (by simp) (by simp) (by simp) (by simp) n3 n2 n6
              refine ⟨_, v', _, F, upd κ st.heap.length v', w', rfl, r1, Next'.push h0 hsi ht r3.os r3.tape r3.output r3.size hold (fun _ h => h) (fun _ h => .inl h) (fun b hb => Nat.lt_of_lt_of_le (hsi.fl b hb) r3.size) (by simpa using hro) (fun b hb => ?_) ?_⟩
              · simp only [blk, upd_same] at hb
                have h2 := ownsRow_lt r2 b hb
                have := hnew b hb
                exact ⟨by omega, h2, fun hf => by have := hsi.fl b hf; omega⟩
              · obtain ⟨A', c', h4, _⟩ := row_len hro
                rw [upd_same] at h4
                rw [h4]
                exact .own (by omega) (by rw [upd_same])
            | @own l A' n' c' hl hk =>
              simp only [] at h ⊢
              cases ho : st.heap[l]? with
              | none => simp [ho] at h
              | some obj =>
                cases obj with
                | row e0 k0 xs =>
                  simp only [ho] at h ⊢
                  obtain ⟨hg, e3⟩ := cond_inv' h
                  rw [e3] at h ⊢
                  simp only [Bool.and_eq_true, beq_iff_eq] at hg
                  obtain ⟨rfl, rfl⟩ := hg
                  obtain ⟨c1, c2⟩ := chk_inv h
                  rw [c2]
                  obtain ⟨cs, o1, o2, o3, o4, o5⟩ := hsi.ro l _ ho
                  have c3 : (xs.length + ys.length) * (b + 1) ≤ big := by simpa using c1
                  have c4 : xs.length + ys.length ≤ big := Nat.le_trans (Nat.le_mul_of_pos_right _ (by omega)) c3
                  obtain ⟨v', w', r1, r2, r3, r4⟩ := run_append_any w t ty e0 hun hz hb hzero (κ l) xs.length cs o1 A ys.length c news n1 hA n2 c3
                  have hFb : ∀ b, F b → w'.heap[b]? = w.heap[b]? := fun b hb => r3.block b (hsi.fl b hb) fun e => (hsi.lt l _ b ho (by simpa [blk] using e.symm)).2 hb
                  have hro := row_more (F := F) (w := w) (l' := l) (xs := xs) (ys := ys) (cs := cs) (v := v') (κ' := upd κ l v') (N' := st.heap.length) (upd_same κ _ v') hFb
                    r2 c4 o1.1 o3 o4 o5 n3 n2 n6
                  obtain ⟨t1, t2, t3, t4⟩ := hsi.rowTurn ho v' r3 (r4.imp id fun h => ⟨_, h, Nat.le_refl _⟩) (ownsRow_lt r2) hro N0 h0
                  rw [hk] at r1
                  refine ⟨_, v', _, F, upd κ l v', w', rfl, r1, t1, t2, ?_, by simp [kills_length], fun i q v g1 g2 => ?_⟩
                  · obtain ⟨A', c', h4, _⟩ := row_len hro
                    rw [upd_same] at h4
                    rw [h4]
                    exact .own (by simpa using hl) (by rw [upd_same])
                  · rw [kills_get, Option.map_eq_some_iff] at g1
                    obtain ⟨q, g1, rfl⟩ := g1
                    exact (ht i q v g1 g2).kill _ (fun _ h => h) t3 (by simp) t4
                | _ => simp [ho] at h
            | @view l k0 lo hi A0 n0 c0 hN hl =>
              simp only [] at h ⊢
              cases ho : st.heap[l]? with
              | none => simp [ho] at h
              | some obj =>
                have hro := hsi.ro l obj ho
                cases obj with
                | row e0 k1 xs =>
                  simp only [ho] at h ⊢
                  obtain ⟨hg, e3⟩ := cond_inv' h
                  rw [e3] at h ⊢
                  simp only [Bool.and_eq_true, beq_iff_eq] at hg
                  obtain ⟨⟨rfl, rfl⟩, rfl⟩ := hg
                  obtain ⟨c1, c2⟩ := chk_inv h
                  rw [c2]
                  simp only [Bool.and_eq_true, decide_eq_true_eq] at c1
                  obtain ⟨B, n, cc, A', ⟨v1, vb⟩, v2, v3, v4, v5⟩ := hl
                  injection v2 with v2 v7 v8
                  subst v2; subst v7; subst v8
                  obtain ⟨cs, o1, _⟩ := hro
                  obtain ⟨hx1, hx2⟩ : n = xs.length ∧ n ≤ cc := by
                    rcases o1.2 with ⟨q1, q2⟩ | ⟨g, cap, cur, q1, _, _, q2, _⟩
                    · rw [v1] at q1; injection q1 with q1 q3 q4; omega
                    · rw [v1] at q1; injection q1 with q1 q3 q4; omega
                  subst hx1
                  obtain ⟨i, hi', hsz⟩ := info_of_sz hz
                  have fin : ∀ (w' : World) (st' : St), SI F κ w' st'.heap → Ev N0 F κ w st.heap F κ w' st'.heap → st'.heap.length = st.heap.length → st'.tmps = st.tmps → (∀ (p : PV) (v : Value), RP F κ st.heap.length w p v → RP F κ st.heap.length w' p v) →
                      Next' N0 F κ w st tm (.view l (k + 1) lo (hi + ys.length)) (.slice A0 (hi - lo + ys.length) (cc - lo)) F κ w' st' := by
                    intro w' st' a1 a2 a3 a4 a5
                    refine ⟨a1, a2, .view (by rw [a3]; exact hN) ⟨B, xs.length, cc, A0, ⟨v1, vb⟩, by congr 1; omega, by omega, by omega, v5⟩, by rw [a4], fun i q v g1 g2 => ?_⟩
                    rw [a3]
                    exact a5 q v (ht i q v (by rw [← a4]; exact g1) g2)
                  have hroom : hi - lo + ys.length ≤ cc - lo := by omega
                  have hst : ∀ (ad : Addr), A = some ad → (Builtin.firstCells i.size ys.length (.slice A ys.length c)).run E.P w = .ok news.toArray w := fun ad had => by
                    subst had
                    refine run_firstCells_some w i.size ys.length ad ys.length c news (by rw [hsz]; exact n1) ?_
                    rcases n5 with ⟨h, _⟩ | ⟨ad', h, h'⟩
                    · cases h
                    · injection h with h; subst h; exact h'
                  rcases v5 with ⟨rfl, rfl⟩ | ⟨g, o, rfl, rfl, v6⟩
                  · -- a nil row: nothing is laid down
                    have hys : ys = [] := by
                      rcases o1.2 with ⟨q1, q2⟩ | ⟨g, cap, cur, q1, _⟩
                      · exact List.eq_nil_of_length_eq_zero (by omega)
                      · rw [v1] at q1; cases q1
                    subst hys
                    have hnews : news = [] := List.eq_nil_of_length_eq_zero (by simpa using n1)
                    have hset : st.heap.set l (.row e0 (k + 1) (spliceT xs hi [])) = st.heap := by
                      rw [spliceT_nil]; exact set_self ho
                    refine ⟨_, _, _, F, κ, w, rfl, ?_, fin w _ ?_ ?_ ?_ rfl (fun _ _ h => h)⟩
                    · cases A <;> simp [Builtin.append_, run_underlying hun, sizeOf, typeInfo, hi', Builtin.lenOf, Builtin.firstCells, hroom, loadCells, loadCellsFrom] <;> omega
                    · simp only [hset]; exact hsi
                    · simp only [hset]; exact Ev.refl h0
                    · simp
                  · rcases Nat.eq_zero_or_pos ys.length with ey | ey
                    · have hys : ys = [] := List.eq_nil_of_length_eq_zero ey
                      subst hys
                      have hset : st.heap.set l (.row e0 (k + 1) (spliceT xs hi [])) = st.heap := by
                        rw [spliceT_nil]; exact set_self ho
                      refine ⟨_, _, _, F, κ, w, rfl, ?_, fin w _ ?_ ?_ ?_ rfl (fun _ _ h => h)⟩
                      · cases A <;> simp [Builtin.append_, run_underlying hun, sizeOf, typeInfo, hi', Builtin.lenOf, Builtin.firstCells, hroom, loadCells, loadCellsFrom, storeCells] <;> omega
                      · simp only [hset]; exact hsi
                      · simp only [hset]; exact Ev.refl h0
                      · simp
                    · obtain ⟨w', g1, g2, g3, g4⟩ := row_splice (P := E.P) (N0 := N0) (a := hi) hsi h0 ho v1 c1.2 n1 n2 n3 n6
                      have hA' : ∃ ad, A = some ad := by
                        rcases n5 with ⟨_, h⟩ | ⟨ad, h, _⟩
                        · subst h; simp at ey
                        · exact ⟨ad, h⟩
                      obtain ⟨ad, rfl⟩ := hA'
                      have hg1 : (storeCells ⟨g, hi * (k + 1), none⟩ news).run E.P w = .ok () w' := g1
                      have hoff : o + (hi - lo) * (k + 1) = hi * (k + 1) := by rw [v6 (by omega), ← Nat.add_mul]; congr 1; omega
                      refine ⟨_, _, _, F, κ, w', rfl, ?_, fin w' _ g2 g3 (by simp) rfl g4⟩
                      have hst' := hst ad rfl
                      rw [hsz] at hst'
                      simp [Builtin.append_, run_underlying hun, sizeOf, typeInfo, hi', Builtin.lenOf, hroom, hst', add_mid, hsz, hoff, g1]
                | _ => simp [ho] at h
            | @full k0 xs S hr =>
              simp only [] at h ⊢
              obtain ⟨hg, e3⟩ := cond_inv' h
              rw [e3] at h ⊢
              simp only [beq_iff_eq] at hg
              subst hg
              obtain ⟨c1, c2⟩ := chk_inv h
              rw [c2]
              have c3 : (xs.length + ys.length) * (b + 1) ≤ big := by simpa using c1
              have c4 : xs.length + ys.length ≤ big := Nat.le_trans (Nat.le_mul_of_pos_right _ (by omega)) c3
              rcases Nat.eq_zero_or_pos ys.length with e0 | e0
              · have : ys = [] := List.eq_nil_of_length_eq_zero e0
                subst this
                refine ⟨_, _, _, F, κ, w, rfl, run_append_same w t ty e hun hz S xs.length A c, Next'.same h0 hsi ht ?_⟩
                rw [List.append_nil]
                exact .t hr
              · obtain ⟨A', c', olds, q1, o1, o2, o3, o4, o5, o6⟩ := (SlV.of_sl (κ := κ) (H := st.heap) (p := .junk) hr).news
                injection q1 with q1 q2 q3
                subst q1
                have hS : (S = none ∧ xs.length = 0) ∨ ∃ ad : Addr, S = some ad ∧ ∀ (j : Nat) (u : Value), olds[j]? = some u → w.cell? (ad.add j) = some u := o5.imp (fun h => ⟨h.1, by rw [h.2]; rfl⟩) id
                obtain ⟨v', w', r1, r2, r3, r4⟩ := run_append_full w t ty e hun hz hb hzero S xs.length olds o1 hS A ys.length c news n1 e0 hA c3
                have hold : ∀ b, b < w.heap.size → w'.heap[b]? = w.heap[b]? := fun b hb => r3.block b hb (by simp)
                have hro := row_more (F := F) (w := w) (l' := 0) (xs := xs) (ys := ys) (cs := olds) (v := v') (κ' := fun _ => v') (N' := 0) rfl (fun b hb => hold b (hsi.fl b hb)) r2 c4 o1 o3 o2 o6 n3 n2 n6
                have hsl := SlV.of_row (κ := fun _ => v') (H := [.row e (k + 1) (xs ++ ys)]) hro rfl
                have hlt := ownsRow_lt r2 _ r4
                have hrd := hsl.frozen (F' := fun b => F b ∨ b = w.heap.size) (fun _ h => .inl h) (fun l hl e' k' xs' b g1 g2 => by change v'.ownBlock = some b at g2; rw [r4] at g2; injection g2 with g2; exact .inr g2.symm)
                refine ⟨_, v', _, fun b => F b ∨ b = w.heap.size, κ, w', rfl, r1, Next'.fresh h0 hsi ht r3.os r3.tape r3.output r3.size hold (fun _ h => .inl h) (fun b h => h.imp id (by omega)) (fun b h => ?_) (.t hrd)⟩
                rcases h with h | rfl
                · exact Nat.lt_of_lt_of_le (hsi.fl b h) r3.size
                · exact hlt
            | _ => exact absurd rfl h
end
end Go.Sim

/- Frozen values; cells of values; an object that is written anew. -/
namespace Go.Sim
open Go.RowKit
set_option linter.unusedVariables false
set_option linter.unusedSimpArgs false

theorem frzs_get {H : List AObj} : ∀ {cs : List PV} {ts : List T}, PV.frzs H cs = some ts → ts.length = cs.length ∧ ∀ (i : Nat) (x : T), ts[i]? = some x → ∃ p, cs[i]? = some p ∧ p.frz H = some x
  | [], ts, h => by simp [PV.frzs] at h; subst h; simp
  | p :: r, ts, h => by
    simp only [PV.frzs] at h
    cases h1 : p.frz H with
    | none => simp [h1] at h
    | some x =>
      cases h2 : PV.frzs H r with
      | none => simp [h1, h2] at h
      | some xs =>
        simp [h1, h2] at h
        subst h
        obtain ⟨a, b⟩ := frzs_get h2
        refine ⟨by simp [a], fun i y hy => ?_⟩
        cases i with
        | zero => simp at hy; subst hy; exact ⟨p, rfl, h1⟩
        | succ i => simpa using b i y (by simpa using hy)

section
variable {F F' : Nat → Prop} {κ : Nat → Value} {w w' : World} {H : List AObj}

/-- A slot's value as a tree, where its rows are frozen. -/
theorem frz_sound (s : SI F κ w H) {p : PV} {v : Value} (h : RP F κ H.length w p v) (a : ∀ b, F b → F' b) : ∀ {x : T}, p.frz H = some x →
    (∀ l ∈ p.rows, ∀ (e : TypeId) (k : Nat) (xs : List T) (b : Nat), H[l]? = some (.row e k xs) → (κ l).ownBlock = some b → F' b) → Rd F' w x v := by
  have mono : ∀ {x : T} {v : Value}, Rd F w x v → Rd F' w x v := fun h => h.mono a (fun _ _ => rfl)
  induction h with
  | t h => intro x hx hr; simp [PV.frz] at hx; subst hx; exact mono h
  | nil => intro x hx hr; simp [PV.frz] at hx; subst hx; exact .sl (xs := []) (c := 0) 0 0 (fun _ _ => undef) (by simp) (by simp) (by simp) (by simp) (fun i j hi => by simp at hi) (fun i j hi => by simp at hi) (fun i x j y hx => by simp at hx)
  | @agg cs vs hl h1 hr ih =>
    intro x hx hq
    simp only [PV.frz, Option.map_eq_some_iff] at hx
    obtain ⟨ts, h2, rfl⟩ := hx
    obtain ⟨h3, h4⟩ := frzs_get h2
    refine .agg (by omega) h1 fun i x v hx hv => ?_
    obtain ⟨p, g1, g2⟩ := h4 i x hx
    exact ih i p v g1 hv g2 fun l hl => hq l (by simp only [PV.rows]; exact mem_rowss (List.mem_of_getElem? g1) hl)
  | @tup cs vs hl hr ih =>
    intro x hx hq
    simp only [PV.frz, Option.map_eq_some_iff] at hx
    obtain ⟨ts, h2, rfl⟩ := hx
    obtain ⟨h3, h4⟩ := frzs_get h2
    refine .tup (by omega) fun i x v hx hv => ?_
    obtain ⟨p, g1, g2⟩ := h4 i x hx
    exact ih i p v g1 hv g2 fun l hl => hq l (by simp only [PV.rows]; exact mem_rowss (List.mem_of_getElem? g1) hl)
  | @fn f fs cs vf vc h1 h2 r1 r2 i1 i2 =>
    intro x hx hq
    simp only [PV.frz] at hx
    cases e1 : PV.frzs H fs with
    | none => simp [e1] at hx
    | some ts =>
      cases e2 : PV.frzs H cs with
      | none => simp [e1, e2] at hx
      | some us =>
        simp [e1, e2] at hx
        subst hx
        obtain ⟨h3, h4⟩ := frzs_get e1
        obtain ⟨h5, h6⟩ := frzs_get e2
        refine .fn (by omega) (by omega) (fun i x v hx hv => ?_) (fun i x v hx hv => ?_)
        · obtain ⟨p, g1, g2⟩ := h4 i x hx
          exact i1 i p v g1 hv g2 fun l hl => hq l (by simp only [PV.rows, List.mem_append]; exact .inl (mem_rowss (List.mem_of_getElem? g1) hl))
        · obtain ⟨p, g1, g2⟩ := h6 i x hx
          exact i2 i p v g1 hv g2 fun l hl => hq l (by simp only [PV.rows, List.mem_append]; exact .inr (mem_rowss (List.mem_of_getElem? g1) hl))
  | @ptr l o b hN hk =>
    intro x hx hq
    simp only [PV.frz] at hx
    cases ho : H[l]? with
    | none => simp [ho] at hx
    | some obj =>
      cases obj with
      | fbox e n v =>
        simp only [ho] at hx
        split at hx
        · rename_i h0
          subst h0
          injection hx with hx
          subst hx
          obtain ⟨b', r1, r2, r3⟩ := s.ro l _ ho
          rw [hk] at r2
          exact mono r2
        · cases hx
      | _ => simp [ho] at hx
  | @own l A n c hN hk =>
    intro x hx hq
    simp only [PV.frz] at hx
    cases ho : H[l]? with
    | none => simp [ho] at hx
    | some obj =>
      have hro := s.ro l _ ho
      cases obj with
      | row e k xs =>
        simp only [ho, Option.some.injEq] at hx
        subst hx
        have := SlV.of_row hro ho
        rw [hk] at this
        exact this.frozen a (by simpa [PV.rows] using hq)
      | frow e k xs =>
        simp only [ho, Option.some.injEq] at hx
        subst hx
        rw [← hk]
        exact mono hro.1
      | _ => simp [ho] at hx
  | @view l k lo hi A n c hN hk =>
    intro x hx hq
    simp only [PV.frz] at hx
    cases ho : H[l]? with
    | none => simp [ho] at hx
    | some obj =>
      have hro := s.ro l _ ho
      cases obj with
      | row e k' xs =>
        simp only [ho] at hx
        cases hg : (k' == k && decide (lo ≤ hi) && decide (hi ≤ xs.length)) with
        | false => rw [hg] at hx; cases hx
        | true =>
          rw [hg] at hx
          simp only [cond_true, Option.some.injEq] at hx
          subst hx
          simp only [Bool.and_eq_true, beq_iff_eq, decide_eq_true_eq] at hg
          obtain ⟨⟨rfl, _⟩, h3⟩ := hg
          exact (SlV.view (l := l) hk (SlV.of_row hro ho) (by simp [PV.rows]) h3).frozen a (by simpa [PV.rows] using hq)
      | frow e k' xs =>
        simp only [ho] at hx
        cases hg : (k' == k && decide (lo ≤ hi) && decide (hi ≤ xs.length)) with
        | false => rw [hg] at hx; cases hx
        | true =>
          rw [hg] at hx
          simp only [cond_true, Option.some.injEq] at hx
          subst hx
          simp only [Bool.and_eq_true, beq_iff_eq, decide_eq_true_eq] at hg
          obtain ⟨⟨rfl, _⟩, h3⟩ := hg
          exact (SlV.view (H := H) (l := l) (p := .own l) hk (SlV.of_sl hro.1) (by simp [PV.rows]) h3).frozen a (by simpa [PV.rows] using hq)
      | _ => simp [ho] at hx
  | full h => intro x hx hq; simp [PV.frz] at hx; subst hx; exact mono h
  | eptr => intro x hx; simp [PV.frz] at hx
  | rp => intro x hx; simp [PV.frz] at hx
  | mp => intro x hx; simp [PV.frz] at hx
  | junk => intro x hx; simp [PV.frz] at hx

/-- The cells of a slot's value, one by one. -/
theorem RP.cells {N n : Nat} {p : PV} {v : Value} (h : RP F κ N w p v) (hn : v.cells.size = n) (h1 : ∀ c ∈ v.cells, c.oneCell' = true) :
    (p.cells n).length = n ∧ ∀ (i : Nat) (q : PV) (c : Value), (p.cells n)[i]? = some q → v.cells[i]? = some c → RP F κ N w q c := by
  by_cases hv : v.oneCell' = true
  · rw [cells_one hv] at hn
    simp at hn
    subst hn
    have one : ∀ (i : Nat) (q : PV) (c : Value), [p][i]? = some q → v.cells[i]? = some c → RP F κ N w q c := by
      intro i q c hq hc
      rw [cells_one hv] at hc
      cases i with
      | zero => simp at hq hc; subst hq; subst hc; exact h
      | succ i => simp at hq
    cases h with
    | t h =>
      have := eq_zero_cells (h.notAgg hv)
      simp only [PV.cells, List.range_one, List.map_cons, List.map_nil, T.cell, this, List.getD_cons_zero]
      exact ⟨rfl, one⟩
    | agg hl _ _ => simp [Value.oneCell'] at hv
    | tup hl _ => simp [Value.oneCell'] at hv
    | junk => exact ⟨rfl, one⟩
    | _ => exact ⟨rfl, one⟩
  · cases v with
    | tuple vs => exact absurd (h1 (.tuple vs) (by simp [Value.cells])) (by simp [Value.oneCell'])
    | agg vs =>
      simp only [Value.cells] at hn h1 ⊢
      cases h with
      | junk =>
        refine ⟨by simp [PV.cells], fun i q c hq hc => ?_⟩
        simp only [PV.cells] at hq
        have := List.mem_of_getElem? hq
        rw [List.mem_replicate] at this
        rw [this.2]; exact .junk
      | @t x _ h =>
        cases h with
        | @agg cs vs hl ha hr =>
          simp at hn
          refine ⟨by simp [PV.cells], fun i q c hq hc => ?_⟩
          have hi : i < n := by have := (List.getElem?_eq_some_iff.1 hq).1; simpa [PV.cells] using this
          simp only [PV.cells, List.getElem?_map, List.getElem?_range hi, Option.map_some, Option.some.injEq] at hq
          subst hq
          have hi' : i < cs.length := by omega
          refine .t (hr i _ c ?_ (by simpa using hc))
          simp only [T.cell, T.cells, List.getD_eq_getElem?_getD, List.getElem?_eq_getElem hi', Option.getD_some]
      | @agg cs vs hl ha hr =>
        simp at hn
        exact ⟨by simp only [PV.cells]; omega, fun i q c hq hc => hr i q c hq (by simpa using hc)⟩
    | _ => exact absurd rfl hv

theorem okS_sound {N s : Nat} {p : PV} {v : Value} (h : RP F κ N w p v) (ho : p.okS s = true) : v.cells.size = s ∧ ∀ c ∈ v.cells, c.oneCell' = true := by
  have one : ∀ v : Value, v.oneCell' = true → s = 1 → v.cells.size = s ∧ ∀ c ∈ v.cells, c.oneCell' = true := fun v hv hs => by rw [cells_one hv]; simp [hs, hv]
  cases h with
  | @t x _ h =>
    simp only [PV.okS, Bool.and_eq_true, beq_iff_eq] at ho
    obtain ⟨h2, h3⟩ := ho
    cases h with
    | @agg cs vs hl ha hr => simp [T.cells] at h2; simp [Value.cells]; exact ⟨by omega, ha⟩
    | tup => simp [T.isTup] at h3
    | _ => exact one _ rfl (by simpa [T.cells] using h2.symm)
  | @agg cs vs hl ha hr => simp [PV.okS] at ho; simp [Value.cells]; exact ⟨by omega, ha⟩
  | tup => simp [PV.okS] at ho
  | junk => simp [PV.okS] at ho
  | _ => exact one _ rfl (by simpa [PV.okS] using ho)

theorem okE_sound {k : Nat} {x : T} {v : Value} (h : Rd F w x v) (ho : x.okE k = true) : x.cells.length = k ∧ (k = 1 → x.isAgg = false) ∧ v.cells.size = k ∧ (∀ c ∈ v.cells, c.oneCell' = true) ∧
    ∀ (j : Nat) (y : T) (c : Value), x.cells[j]? = some y → v.cells[j]? = some c → Rd F w y c := by
  simp only [T.okE, Bool.and_eq_true, beq_iff_eq, Bool.or_eq_true, Bool.not_eq_true'] at ho
  obtain ⟨⟨h1, h2⟩, h3⟩ := ho
  obtain ⟨a, b⟩ := okS_sound (κ := fun _ => undef) (N := 0) (.t h) (show (PV.t x).okS k = true by simp [PV.okS, h1, h2])
  refine ⟨h1, fun h => ?_, a, b, fun j y c hy hc => ?_⟩
  · rcases h3 with h3 | h3
    · simp [h] at h3
    · exact h3
  · obtain ⟨_, h5⟩ := RP.cells (κ := fun _ => undef) (N := 0) (.t h) a b
    have hj : j < k := by rw [← h1]; exact (List.getElem?_eq_some_iff.1 hy).1
    have := h5 j (.t y) c (by simp [PV.cells, List.getElem?_range hj, T.cell, List.getD_eq_getElem?_getD, hy]) hc
    cases this with
    | t h => exact h

theorem freezeRows_other {l : Nat} : ∀ (ls : List Nat) (H : List AObj), l ∉ ls → (freezeRows ls H)[l]? = H[l]? := by
  unfold freezeRows
  intro ls
  induction ls with
  | nil => intro H _; rfl
  | cons a ls ih =>
    intro H hl
    simp only [List.mem_cons, not_or] at hl
    simp only [List.foldl_cons]
    rw [ih _ hl.2]
    split
    · rw [List.getElem?_set_ne (fun e => hl.1 e.symm)]
    · rfl

end
end Go.Sim
