/- The interpreter: operations, regions, code, calls. -/
import Derived.Test.YtmidmdabmalhgaaC2
namespace Go.Sim
open Go.RowKit

structure Env where
  P : Program
  /-- By function and first region of a loop's body: the slots that live at its head, and behind it. -/
  hint : FuncId → Nat → List Nat × List Nat
  /-- 0: what comes is frozen; 1: a row of the caller's own; 2: a tuple whose first part is one; 3: as if the function's text stood there. -/
  mode : FuncId → Nat
  ext : FuncId → Option (List T → Res T)
  mcap : FuncId → Bool
  /-- Functions that take a row of the caller's own, and hand it back, written on: its elements, by all objects, its elements and the other arguments. -/
  inpl : FuncId → Option (List AObj → List T → List PV → Res (List T))

inductive Ex where
  | norm
  | exit (id : Nat)
  | ret

def Ex.k {γ : Type} (e : Ex) (n : γ) (x : Nat → γ) (r : γ) : γ := match e with
  | .norm => n
  | .exit i => x i
  | .ret => r

/-! ### aliases -/
mutual
def PV.kill (p : Nat → Bool) : PV → PV
  | .own l => bif p l then .junk else .own l
  | .eptr l k i o => bif p l then .junk else .eptr l k i o
  | .view l k lo hi => bif p l then .junk else .view l k lo hi
  | .agg cs => .agg (PV.kills p cs)
  | .tup cs => .tup (PV.kills p cs)
  | .fn f fs cs => .fn f (PV.kills p fs) (PV.kills p cs)
  | q => q
def PV.kills (p : Nat → Bool) : List PV → List PV
  | [] => []
  | q :: r => q.kill p :: PV.kills p r
end
def AObj.kill (p : Nat → Bool) : AObj → AObj
  | .box e n v => .box e n (v.kill p)
  | .vec e xs => .vec e (PV.kills p xs)
  | o => o
mutual
/-- The objects that a slot's value names. -/
def PV.locs : PV → List Nat
  | .own l => [l]
  | .eptr l _ _ _ => [l]
  | .view l _ _ _ => [l]
  | .ptr l _ => [l]
  | .agg cs => PV.locss cs
  | .tup cs => PV.locss cs
  | .fn _ fs cs => PV.locss fs ++ PV.locss cs
  | _ => []
def PV.locss : List PV → List Nat
  | [] => []
  | q :: r => q.locs ++ PV.locss r
end
mutual
/-- The rows. -/
def PV.rows : PV → List Nat
  | .own l => [l]
  | .eptr l _ _ _ => [l]
  | .view l _ _ _ => [l]
  | .agg cs => PV.rowss cs
  | .tup cs => PV.rowss cs
  | .fn _ fs cs => PV.rowss fs ++ PV.rowss cs
  | _ => []
def PV.rowss : List PV → List Nat
  | [] => []
  | q :: r => q.rows ++ PV.rowss r
end
def AObj.locs : AObj → List Nat
  | .box _ _ v => v.locs
  | .vec _ xs => PV.locss xs
  | _ => []
def AObj.rows : AObj → List Nat
  | .box _ _ v => v.rows
  | .vec _ xs => PV.rowss xs
  | _ => []
mutual
def PV.ren (f : Nat → Nat) : PV → PV
  | .own l => .own (f l)
  | .eptr l k i o => .eptr (f l) k i o
  | .view l k lo hi => .view (f l) k lo hi
  | .ptr l o => .ptr (f l) o
  | .agg cs => .agg (PV.rens f cs)
  | .tup cs => .tup (PV.rens f cs)
  | .fn g fs cs => .fn g (PV.rens f fs) (PV.rens f cs)
  | q => q
def PV.rens (f : Nat → Nat) : List PV → List PV
  | [] => []
  | q :: r => q.ren f :: PV.rens f r
end
def AObj.ren (f : Nat → Nat) : AObj → AObj
  | .box e n v => .box e n (v.ren f)
  | .vec e xs => .vec e (PV.rens f xs)
  | o => o

-- nil slices become rows of one's own, of no element
mutual
def PV.prom (H : List AObj) : PV → PV × List AObj
  | .nil e k => (.own H.length, H ++ [.row e k []])
  | .agg cs => let r := PV.proms H cs; (.agg r.1, r.2)
  | q => (q, H)
def PV.proms (H : List AObj) : List PV → List PV × List AObj
  | [] => ([], H)
  | q :: r => let a := q.prom H; let b := PV.proms a.2 r; (a.1 :: b.1, b.2)
end
/-- The same in boxes, from number i on, n of them. -/
def promBoxes : Nat → Nat → List AObj → List AObj
  | _, 0, H => H
  | i, n + 1, H => match H[i]? with
    | some (.box e m v) => let r := v.prom H; promBoxes (i + 1) n (r.2.set i (.box e m r.1))
    | _ => promBoxes (i + 1) n H

/-- What can be reached from some objects, in order. -/
def reach (H : List AObj) : Nat → List Nat → List Nat → List Nat
  | 0, _, done => done
  | n + 1, todo, done =>
    let new := (todo.filter fun l => !done.contains l).eraseDups
    match new with
    | [] => done
    | _ => reach H n (new.flatMap fun l => (H.getD l .dead).locs) (done ++ new)

def keepOnly (live : List Nat) (tm : List PV) : List PV := tm.zipIdx.map fun (p, i) => bif live.contains i then p else .junk

/-- The place of a number in a list. -/
def idx : List Nat → Nat → Nat
  | [], _ => 0
  | x :: xs, l => bif x == l then 0 else idx xs l + 1
def nodupB : List Nat → Bool
  | [] => true
  | x :: xs => !xs.contains x && nodupB xs
/-- Is this order one in which a state may be told? -/
def orderOk (base : Nat) (order : List Nat) (tm : List PV) (H : List AObj) : Bool :=
  nodupB order && order.all (fun l => decide (l < H.length) && (H.getD l .dead).locs.all (order.contains ·)) && (PV.locss tm).all (order.contains ·) && order.take base == List.range base && decide (base ≤ order.length)
def tellIn (base : Nat) (order : List Nat) (tm : List PV) (H : List AObj) : St :=
  bif orderOk base order tm H then ⟨PV.rens (idx order) tm, order.map fun l => (H.getD l .dead).ren (idx order)⟩ else ⟨tm, H⟩
/-- A state as it is told at a loop's head: slots that live no more are junk; objects in the order in which they are come to. -/
def canon (base : Nat) (live : List Nat) (st : St) : St :=
  let r := PV.proms st.heap (keepOnly live st.tmps)
  let H := promBoxes 0 st.heap.length r.2
  tellIn base (reach H (H.length + 1) (PV.locss r.1) (List.range base)) r.1 H

/-! ### operands -/
def pvZip (f : TypeId → Value → Option PV) : List TypeId → List Value → Option (List PV)
  | [], [] => some []
  | t :: ts, v :: vs => match f t v, pvZip f ts vs with | some p, some ps => some (p :: ps) | _, _ => none
  | _, _ => none
def pvLeaf (P : Program) (t : TypeId) : Value → Option PV
  | .int k n => bif kindOk k n then some (.t (.int k n)) else none
  | .bool b => some (.t (.bool b))
  | .string s => bif decide (s.size ≤ big) then some (.t (.str s)) else none
  | .pointer none => some (.t .nilp)
  | .nilFunc => some (.t .nilfn)
  | .nilIface => some (.t .nilif)
  | .slice none 0 0 => match elP P t with
    | some e => (szP P e).map (PV.nil e ·)
    | none => none
  | _ => none
def pvConst (P : Program) (t : TypeId) : Value → Option PV
  | .agg vs => match leavesP P 20 t with
    | some ts => (pvZip (pvLeaf P) ts vs.toList).map mkAgg
    | none => none
  | .tuple vs => bif vs.isEmpty then some undefV else none
  | v => pvLeaf P t v
def evalO (P : Program) (tm : List PV) (t : TypeId) : Operand → Option PV
  | .tmp i => some (tm.getD i undefV)
  | .const v => pvConst P t v
  | .global _ => none
  | .func f => some (.t (.fn f [] []))
def evalOs (P : Program) (tm : List PV) (ty : Nat → TypeId) : Nat → List Operand → Option (List PV)
  | _, [] => some []
  | i, o :: r => match evalO P tm (ty i) o, evalOs P tm ty (i + 1) r with | some p, some ps => some (p :: ps) | _, _ => none

section ops
variable {β : Type} (E : Env)

def someK {α : Type} (o : Option α) (K : α → Res β) : Res β := match o with | some a => K a | none => .stuck

/-! ### memory -/
def loadK (st : St) (t : TypeId) (p : PV) (K : PV → Res β) : Res β :=
  match szP E.P t, aggP E.P t with
  | some s, some a =>
    bif !((a && decide (2 ≤ s)) || (!a && s == 1)) then .stuck else
    match p with
    | .ptr l o => match st.heap[l]? with
      | some (.box _ n v) => bif o == 0 && s == n && decide (2 ≤ n) then K v else bif decide (o + s ≤ n) then K (v.part o s a) else .stuck
      | some (.fbox _ n v) => bif o == 0 && s == n then K (.t v) else bif decide (o + s ≤ n) then K (.t (v.partD o s a)) else .stuck
      | _ => .stuck
    | .eptr l k i o => match st.heap[l]? with
      | some (.row _ k' xs) => bif k' == k then (bif o == 0 && s == k then K (.t (xs.getD i .nilp)) else bif decide (o + s ≤ k) then K (.t ((xs.getD i .nilp).partD o s a)) else .stuck) else .stuck
      | some (.frow _ k' xs) => bif k' == k then (bif o == 0 && s == k then K (.t (xs.getD i .nilp)) else bif decide (o + s ≤ k) then K (.t ((xs.getD i .nilp).partD o s a)) else .stuck) else .stuck
      | some (.vec _ xs) => bif k == 1 && o == 0 && s == 1 then K (xs.getD i .junk) else .stuck
      | _ => .stuck
    | .rp k x o => bif o == 0 && s == k then K (.t x) else bif decide (o + s ≤ k) then K (.t (x.partD o s a)) else .stuck
    | .t x => ptrT x .stuck fun y => chk (y.cells.length == s) (K (.t y))
    | _ => .stuck
  | _, _ => .stuck

/-- Rows that are read by what has been frozen: nobody writes them any more. -/
def freezeRows (ls : List Nat) (H : List AObj) : List AObj := ls.foldl (fun (H : List AObj) (l : Nat) => match H[l]? with | some (AObj.row e k xs) => H.set l (AObj.frow e k xs) | _ => H) H

def storeK (st : St) (t : TypeId) (p v : PV) (K : St → Res β) : Res β :=
  match szP E.P t, aggP E.P t with
  | some s, some a =>
    bif !((a && decide (2 ≤ s)) || (!a && s == 1)) then .stuck else chk (v.okS s) <|
    match p with
    | .ptr l o => match st.heap[l]? with
      | some (.box e n w) =>
        bif o == 0 && s == n then K ⟨st.tmps, st.heap.set l (.box e n v)⟩ else
        bif decide (o + s ≤ n) then K ⟨st.tmps, st.heap.set l (.box e n (mkAgg ((w.cells n).take o ++ v.cells s ++ (w.cells n).drop (o + s))))⟩ else .stuck
      | _ => .stuck
    | .eptr l k i o => match st.heap[l]? with
      | some (.row e k' xs) => bif !(k' == k) then .stuck else someK (v.frz st.heap) fun y =>
        bif v.rows.contains l then .stuck else
        bif o == 0 && s == k then chk (!(k == 1) || !y.isAgg) (K ⟨st.tmps, (freezeRows v.rows st.heap).set l (.row e k' (xs.set i y))⟩) else
        bif decide (o + s ≤ k) then K ⟨st.tmps, (freezeRows v.rows st.heap).set l (.row e k' (xs.set i ((xs.getD i .nilp).putD o (y.cells))))⟩ else .stuck
      | _ => .stuck
    | _ => .stuck
  | _, _ => .stuck

/-- The elements of a slice, to be read. -/
def elemsK (st : St) (k : Nat) (p : PV) (K : List T → Res β) : Res β := match p with
  | .nil _ _ => K []
  | .own l => match st.heap[l]? with
    | some (.row _ k' xs) => bif k' == k then K xs else .stuck
    | some (.frow _ k' xs) => bif k' == k then K xs else .stuck
    | _ => .stuck
  | .view l k0 lo hi => match st.heap[l]? with
    | some (.row _ k' xs) => bif k' == k && k0 == k && decide (lo ≤ hi) && decide (hi ≤ xs.length) then K ((xs.take hi).drop lo) else .stuck
    | some (.frow _ k' xs) => bif k' == k && k0 == k && decide (lo ≤ hi) && decide (hi ≤ xs.length) then K ((xs.take hi).drop lo) else .stuck
    | _ => .stuck
  | .full k' xs => bif k' == k then K xs else .stuck
  | .t x => slT k x K
  | _ => .stuck

def indexK (st : St) (t : TypeId) (p : PV) (ix : PV) (K : PV → Res β) : Res β :=
  match elP E.P t with
  | none => .stuck
  | some e => match szP E.P e with
    | none => .stuck
    | some k => match ix with
      | .t iv => anyT iv fun i => match p with
        | .own l => match st.heap[l]? with
          | some (.row _ k' xs) => bif k' == k then chk (decide (0 ≤ i) && decide (i < xs.length)) (K (.eptr l k i.toNat 0)) else .stuck
          | some (.frow _ k' xs) => bif k' == k then chk (decide (0 ≤ i) && decide (i < xs.length)) (K (.eptr l k i.toNat 0)) else .stuck
          | some (.vec _ xs) => bif k == 1 then chk (decide (0 ≤ i) && decide (i < xs.length)) (K (.eptr l 1 i.toNat 0)) else .stuck
          | _ => .stuck
        | .view l k0 lo hi => match st.heap[l]? with
          | some (.row _ k' xs) => bif k' == k && k0 == k && decide (hi ≤ xs.length) then chk (decide (0 ≤ i) && decide (lo + i.toNat < hi)) (K (.eptr l k (lo + i.toNat) 0)) else .stuck
          | _ => .stuck
        | .full k' xs => bif k' == k then atT xs i fun e => K (.rp k e 0) else .stuck
        | .t x => slT k x fun xs => atT xs i fun e => K (.rp k e 0)
        | _ => .stuck
      | _ => .stuck

def fieldAddrK (t : TypeId) (f : Nat) (p : PV) (K : PV → Res β) : Res β :=
  match fieldP E.P t f with
  | none => .stuck
  | some (off, ft) => match szP E.P ft with
    | some (_ + 1) => match p with
      | .ptr l o => K (.ptr l (o + off))
      | .eptr l k i o => K (.eptr l k i (o + off))
      | .rp k x o => K (.rp k x (o + off))
      | .t x => match szP E.P t with
        | some n => ptrT x .stuck fun y => chk (y.cells.length == n) (K (.rp n y off))
        | none => .stuck
      | _ => .stuck
    | _ => .stuck

/-! ### arithmetic -/
def arithK (op : BinOp) (k : IntKind) (a b : Int) (K : T → Res β) : Res β := match op with
  | .add => K (.int k (k.wrap (a + b)))
  | .sub => K (.int k (k.wrap (a - b)))
  | .mul => K (.int k (k.wrap (a * b)))
  | .quo => chk (!(b == 0)) (K (.int k (k.wrap (a.tdiv b))))
  | .rem => chk (!(b == 0)) (K (.int k (a.tmod b)))
  | .and => K (.int k (k.wrap (BitVec.ofInt k.bits a &&& BitVec.ofInt k.bits b).toNat))
  | .or => K (.int k (k.wrap (BitVec.ofInt k.bits a ||| BitVec.ofInt k.bits b).toNat))
  | .xor => K (.int k (k.wrap (BitVec.ofInt k.bits a ^^^ BitVec.ofInt k.bits b).toNat))
  | .andNot => K (.int k (k.wrap (BitVec.ofInt k.bits a &&& ~~~ BitVec.ofInt k.bits b).toNat))
  | .eql => K (.bool (a == b))
  | .neq => K (.bool (a != b))
  | .lss => K (.bool (decide (a < b)))
  | .leq => K (.bool (decide (a ≤ b)))
  | .gtr => K (.bool (decide (a > b)))
  | .geq => K (.bool (decide (a ≥ b)))
  | _ => .stuck
def shiftK (op : BinOp) (k : IntKind) (a b : Int) (K : T → Res β) : Res β := match op with
  | .shl => chk (decide (0 ≤ b)) (K (.int k (k.wrap (a * 2 ^ (min b.toNat k.bits)))))
  | .shr => chk (decide (0 ≤ b)) (K (.int k (a.fdiv (2 ^ (min b.toNat k.bits)))))
  | _ => .stuck
/-- Is a type's '==' that of its cells, each a number, a bool or a string? Their kinds. -/
def flatP (P : Program) (t : TypeId) : Option (List Nat) := bif P.eqGuardType P.depth t then none else match eqLv P 20 t, aggP P t, szP P t with
  | some l, some a, some s => bif l.length == s && ((a && decide (2 ≤ s)) || (!a && s == 1)) then some l else none
  | _, _, _ => none
/-- Against nil, by the type's kind: 0 pointers, 1 functions, 2 interfaces, 3 slices. -/
def nilKind (P : Program) (t : TypeId) : Option Nat := match P.underlying t with
  | some (.pointer _) => some 0
  | some (.func _ _ _) => some 1
  | some (.interface _) => some 2
  | some (.slice _) => some 3
  | _ => none
def nilT (k : Nat) (x : T) (K : Bool → Res β) : Res β := match k with
  | 0 => (match x with | .nilp => K true | .ref _ => K false | _ => .stuck)
  | 1 => (match x with | .nilfn => K true | .fn _ _ _ => K false | _ => .stuck)
  | 2 => (match x with | .nilif => K true | .iface _ _ => K false | _ => .stuck)
  | _ => .stuck
def nilK (k : Nat) (p : PV) (K : Bool → Res β) : Res β := match p with
  | .ptr _ _ => bif k == 0 then K false else .stuck
  | .eptr _ _ _ _ => bif k == 0 then K false else .stuck
  | .rp _ _ _ => bif k == 0 then K false else .stuck
  | .fn _ _ _ => bif k == 1 then K false else .stuck
  | .nil _ _ => bif k == 3 then K true else .stuck
  | .t x => nilT k x K
  | _ => .stuck
def isNilC (k : Nat) : Operand → Bool
  | .const (.pointer none) => k == 0
  | .const .nilFunc => k == 1
  | .const .nilIface => k == 2
  | .const (.slice none 0 0) => k == 3
  | _ => false
/-- '==', of two that are no numbers: 'true' where it holds. -/
def eqK (t : TypeId) (x y : Operand) (px py : PV) (K : Bool → Res β) : Res β :=
  match nilKind E.P t with
  | some k => bif isNilC k y then nilK k px K else bif isNilC k x then nilK k py K else .stuck
  | none => someK (flatP E.P t) fun l => (match px, py with | .t a, .t b => eqT l a b K | _, _ => .stuck)
def binK (op : BinOp) (t t' : TypeId) (x y : Operand) (px py : PV) (K : PV → Res β) : Res β :=
  match kindP E.P t with
  | some k => match op with
    | .shl | .shr => match kindP E.P t' with
      | some k' => match px, py with
        | .t a, .t b => iT k a fun a => iT k' b fun b => shiftK op k a b fun r => K (.t r)
        | _, _ => .stuck
      | none => .stuck
    | _ => match px, py with
      | .t a, .t b => iT k a fun a => iT k b fun b => arithK op k a b fun r => K (.t r)
      | _, _ => .stuck
  | none => match op with
    | .eql => eqK E t x y px py fun b => K (.t (.bool b))
    | .neq => eqK E t x y px py fun b => K (.t (.bool !b))
    | _ => .stuck
def unK (op : UnOp) (t : TypeId) (px : PV) (K : PV → Res β) : Res β := match op, px with
  | .not, .t x => bT x fun b => K (.t (.bool !b))
  | .neg, .t x => someK (kindP E.P t) fun k => iT k x fun n => K (.t (.int k (k.wrap (0 - n))))
  | _, _ => .stuck
def convK (src dst : TypeId) (px : PV) (K : PV → Res β) : Res β := match px with
  | .t x => someK (kindP E.P src) fun k => someK (kindP E.P dst) fun k' => iT k x fun n => K (.t (.int k' (k'.wrap n)))
  | _ => .stuck

/-! ### parts of values -/
def partK (s : Nat) (a : Bool) (n o : Nat) (p : PV) (K : PV → Res β) : Res β :=
  bif !((a && decide (2 ≤ s)) || (!a && s == 1)) then .stuck else chk (p.okS n && decide (2 ≤ n) && decide (o + s ≤ n)) (K (p.part o s a))
def arrK (t : TypeId) (p i : PV) (K : PV → Res β) : Res β := match E.P.underlying t with
  | some (.array n e) => match szP E.P e, aggP E.P e, i with
    | some s, some a, .t iv => anyT iv fun i => chk (decide (0 ≤ i) && decide (i < n)) (partK s a (n * s) (i.toNat * s) p K)
    | _, _, _ => .stuck
  | _ => .stuck
def fldK (t : TypeId) (f : Nat) (p : PV) (K : PV → Res β) : Res β := match fieldP E.P t f with
  | some (off, ft) => match szP E.P ft, aggP E.P ft, szP E.P t with
    | some s, some a, some n => partK s a n off p K
    | _, _, _ => .stuck
  | none => .stuck

/-! ### slices -/
def boundK (n : Nat) (d : Nat) (p : Option PV) (K : Nat → Res β) : Res β := match p with
  | none => K d
  | some (.t x) => anyT x fun i => chk (decide (0 ≤ i) && decide (i ≤ n)) (K i.toNat)
  | some _ => .stuck
/-- A row of one's own, or a part of one. -/
def rowView (H : List AObj) : PV → Option (Nat × Nat × Nat × Nat × Bool)
  | .own l => match H[l]? with
    | some (.row _ k xs) => some (l, k, 0, xs.length, true)
    | _ => none
  | .view l k a b => match H[l]? with
    | some (.row _ _ _) => some (l, k, a, b, false)
    | _ => none
  | _ => none
def rowLen (H : List AObj) (l : Nat) : Nat := match H[l]? with
  | some (.row _ _ xs) => xs.length
  | _ => 0
def sliceK (dr : Bool) (st : St) (t : TypeId) (p : PV) (lo hi mx : Option PV) (K : PV → St → Res β) : Res β :=
  match E.P.underlying t with
  | some .string => match p, mx with
    | .t x, none => strT x fun s => boundK s.size s.size hi fun h => boundK h 0 lo fun l => K (.t (.str (s.extract l h))) st
    | _, _ => .stuck
  | some (.slice e) => match szP E.P e with
    | none => .stuck
    | some k => match rowView st.heap p with
     | some (l, k', a, b, full) => bif !(k' == k) then .stuck else (match mx with
      | none => boundK (rowLen st.heap l - a) (b - a) hi fun h => boundK h 0 lo fun l' => K (.view l k (a + l') (a + h)) st
      | some m => bif hi.isNone || !full then .stuck else boundK b b (some m) fun m => boundK m b hi fun h => boundK h 0 lo fun _ => K .junk st)
     | none => bif dr && !p.rows.isEmpty then .stuck else elemsK st k p fun xs =>
      let H := freezeRows p.rows st.heap
      match mx with
      | none => boundK xs.length xs.length hi fun h => boundK h 0 lo fun l => K (.t (.sl k ((xs.take h).drop l))) ⟨st.tmps, H⟩
      | some m => bif hi.isNone then .stuck else boundK xs.length xs.length (some m) fun m => boundK m xs.length hi fun h => boundK h 0 lo fun l =>
          bif decide (m = h) then K (.full k ((xs.take h).drop l)) ⟨st.tmps, H⟩ else K (.t (.sl k ((xs.take h).drop l))) ⟨st.tmps, H⟩
  | _ => .stuck

/-- Elements of a row of one's own are written anew: from place a on. -/
def spliceT (xs : List T) (a : Nat) (ys : List T) : List T := xs.take a ++ ys ++ xs.drop (a + ys.length)
/-- Is a type's zero known, and has it so many cells? -/
def zeroOk (P : Program) (e : TypeId) (k : Nat) : Bool := match (P.info? e).bind (·.zero) with | some z => z.cells.size == k | none => false
def appendK (st : St) (t t' : TypeId) (s x : PV) (K : PV → St → Res β) : Res β :=
  match elP E.P t with
  | some e => match szP E.P e, byP E.P e with
    | some (k + 1), some (b + 1) => bif t == t' && zeroOk E.P e (k + 1) then elemsK st (k + 1) x fun ys => match s with
      | .nil _ _ => chk (decide (ys.length * (b + 1) ≤ big)) (K (.own st.heap.length) ⟨st.tmps, st.heap ++ [.row e (k + 1) ys]⟩)
      | .own l => match st.heap[l]? with
        | some (.row e₀ k₀ xs) => bif e₀ == e && k₀ == k + 1 then
            chk (decide ((xs.length + ys.length) * (b + 1) ≤ big)) (K (.own l) ⟨PV.kills (· == l) st.tmps, (st.heap.map (AObj.kill (· == l))).set l (.row e (k + 1) (xs ++ ys))⟩) else .stuck
        | _ => .stuck
      | .view l k0 lo hi => match st.heap[l]? with
        | some (.row e₀ k₀ xs) => bif e₀ == e && k₀ == k + 1 && k0 == k + 1 then
            chk (decide (lo ≤ hi) && decide (hi + ys.length ≤ xs.length)) (K (.view l k0 lo (hi + ys.length)) ⟨st.tmps, st.heap.set l (.row e (k + 1) (spliceT xs hi ys))⟩) else .stuck
        | _ => .stuck
      | .full k₀ xs => bif k₀ == k + 1 then chk (decide ((xs.length + ys.length) * (b + 1) ≤ big)) (K (.t (.sl (k + 1) (xs ++ ys))) st) else .stuck
      | _ => .stuck
      else .stuck
    | _, _ => .stuck
  | _ => .stuck

def clearK (st : St) (t : TypeId) (p : PV) (K : St → Res β) : Res β :=
  match elP E.P t with
  | some e => match szP E.P e, ((E.P.info? e).bind (·.zero)).bind (pvConst E.P e) with
    | some (k + 1), some z => someK (z.frz []) fun z => chk (zeroOk E.P e (k + 1) && z.okE (k + 1)) <|
      match rowView st.heap p with
      | some (l, k', a, b, _) => match st.heap[l]? with
        | some (.row e₀ k₀ xs) => bif e₀ == e && k₀ == k + 1 && k' == k + 1 then chk (decide (a ≤ b) && decide (b ≤ xs.length)) (K ⟨st.tmps, st.heap.set l (.row e (k + 1) (spliceT xs a (List.replicate (b - a) z)))⟩) else .stuck
        | _ => .stuck
      | none => .stuck
    | _, _ => .stuck
  | none => .stuck
/-- copy, onto a row of one's own. -/
def copyK (st : St) (t t' : TypeId) (p x : PV) (K : PV → St → Res β) : Res β :=
  match elP E.P t with
  | some e => match szP E.P e with
    | some (k + 1) => bif t == t' then elemsK st (k + 1) x fun ys =>
      match rowView st.heap p with
      | some (l, k', a, b, _) => match st.heap[l]? with
        | some (.row e₀ k₀ xs) => bif e₀ == e && k₀ == k + 1 && k' == k + 1 then chk (decide (a ≤ b) && decide (b ≤ xs.length))
            (K (.t (.int .i64 (min ys.length (b - a) : Nat))) ⟨st.tmps, st.heap.set l (.row e (k + 1) (spliceT xs a (ys.take (b - a))))⟩) else .stuck
        | _ => .stuck
      | none => .stuck
      else .stuck
    | _ => .stuck
  | none => .stuck
def makeSliceK (st : St) (t : TypeId) (n c : PV) (K : PV → St → Res β) : Res β :=
  match elP E.P t, n, c with
  | some e, .t n, .t c => match szP E.P e, byP E.P e, ((E.P.info? e).bind (·.zero)).bind (pvConst E.P e) with
    | some (k + 1), some (b + 1), some z => someK (z.frz []) fun z => iT .i64 n fun n => iT .i64 c fun c =>
      chk (zeroOk E.P e (k + 1) && z.okE (k + 1)) <| chk (decide (0 ≤ n) && decide (n ≤ c) && decide (c.toNat * (b + 1) ≤ big)) (K (.own st.heap.length) ⟨st.tmps, st.heap ++ [.row e (k + 1) (List.replicate n.toNat z)]⟩)
    | _, _, _ => .stuck
  | _, _, _ => .stuck

/-! ### literals -/
/-- The parts of a struct or array laid into cells. -/
def fillK (n : Nat) (place : Nat → Option (Nat × Nat)) : List PV → List (Nat × PV) → (List PV → Res β) → Res β
  | cs, [], K => K cs
  | cs, (i, p) :: r, K => match place i with
    | some (o, s) => bif decide (o + s ≤ n) then chk (p.okS s) (fillK n place (cs.take o ++ p.cells s ++ cs.drop (o + s)) r K) else .stuck
    | none => .stuck
def placesP (P : Program) (t : TypeId) : Option (Nat → Option (Nat × Nat)) := match P.underlying t with
  | some (.struct fs) => (fs.toList.mapM (fun f => (P.info? f.type).map fun i => (f.offset, i.size))).map fun places i => places[i]?
  | some (.array _ e) => (P.info? e).map fun ie i => some (i * ie.size, ie.size)
  | _ => none
def buildK (t : TypeId) (parts : List (Nat × PV)) (K : PV → Res β) : Res β :=
  match szP E.P t, ((E.P.info? t).bind (·.zero)).bind (pvConst E.P t) with
  | some n, some z => someK (placesP E.P t) fun place => chk (z.okS n) (fillK n place (z.cells n) parts fun cs => K (mkAgg cs))
  | _, _ => .stuck
def buildSliceK (dr : Bool) (st : St) (t : TypeId) (n : Nat) (parts : List (Nat × PV)) (K : PV → St → Res β) : Res β :=
  match elP E.P t with
  | some e => match szP E.P e with
    | some (k + 1) =>
      bif !(decide (n * (k + 1) ≤ 1024) && zeroOk E.P e (k + 1) && parts.map (·.1) == List.range n) then .stuck else
      let els := parts.map (·.2)
      match PV.frzs st.heap els with
      | some xs => bif dr && !(PV.rowss els).isEmpty then .stuck else
        chkAll (T.okE (k + 1)) xs (bif dr then K (.full (k + 1) xs) st else K (.own st.heap.length) ⟨st.tmps, freezeRows (PV.rowss els) st.heap ++ [.row e (k + 1) xs]⟩)
      | none => bif k == 0 && !dr then chkAll (fun p => p.okS 1 && !(p matches .agg _) && !(match p with | .t x => x.isAgg | _ => false)) els (K (.own st.heap.length) ⟨st.tmps, st.heap ++ [.vec e els]⟩) else .stuck
    | _ => .stuck
  | none => .stuck
end ops

end Go.Sim
