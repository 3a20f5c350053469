/- What calls come to: printed by a program of ours (wip/tools/eqs.py). -/
import Derived.Test.YtmidmdabmalhgaaR0
namespace Go.Sim
open Go.RowKit Go.Proofs
set_option linter.unusedVariables false
set_option maxRecDepth 100000

theorem e61 (N : Nat) (a b : Int) : callP env (N + 1) 61 [i64 a, i64 b] = bif T.wfs [i64 a, i64 b] then (chk (decide (0 ≤ IntKind.wrap IntKind.i64 (32 - minmax true [minmax false [32] b] 0)))
  (chk (decide (0 ≤ IntKind.wrap IntKind.i64 (32 - minmax true [minmax false [32] b] 0)))
    (Res.ok
      (i64
        (IntKind.wrap IntKind.i64
          (Int.fdiv
              (IntKind.wrap IntKind.i64
                (↑(BitVec.toNat (BitVec.ofInt 64 a &&& BitVec.ofInt 64 (4294967295))) : Int))
              (2 ^
                min
                  (Int.toNat
                    (IntKind.wrap IntKind.i64
                      (32 - minmax true [minmax false [32] b] (0))))
                  64) *
            2 ^
              min
                (Int.toNat
                  (IntKind.wrap IntKind.i64 (32 - minmax true [minmax false [32] b] (0))))
                64)))))) else .absurd := by kernel_rfl

theorem e32 (N : Nat) (a b : Int) : callP env (N + 1) 32 [.agg [i64 a, i64 b]] = bif T.wfs [.agg [i64 a, i64 b]] then (bif decide (b ≥ 0) then
  bif decide (b ≤ 32) then
    Res.bind (callP env N 61 [i64 a, i64 b]) fun x =>
      iT IntKind.i64 x fun b => Res.ok (T.bool (a == b))
  else Res.ok (T.bool false)
else Res.ok (T.bool false)) else .absurd := by kernel_rfl

theorem e83 (N : Nat) (xs : List T) (f : T) : callP env (N + 1) 83 [.sl 1 xs, f] = bif T.wfs [.sl 1 xs, f] then (loopL env N 83 2
  {
    tmps :=
      slots 19
        [(0, PV.t (T.sl 1 xs)), (1, PV.t f), (7, PV.t (i64 (↑(List.length xs) : Int))),
          (8, PV.t (i64 (0)))],
    heap := [] }) else .absurd := by kernel_rfl

theorem e62 (N : Nat) (xs : List T) (f : T) : callP env (N + 1) 62 [.sl 1 xs, f] = bif T.wfs [.sl 1 xs, f] then (Res.bind (callP env N 83 [T.sl 1 xs, f]) fun x => iT IntKind.i64 x fun a => Res.ok (T.bool (decide (a ≥ 0)))) else .absurd := by kernel_rfl

theorem e63 (N : Nat) (a : Int) : callP env (N + 1) 63 [i64 a] = bif T.wfs [i64 a] then (bif decide (a < 1) then Res.ok (T.bool true) else Res.ok (T.bool (decide (a > 4294967295)))) else .absurd := by kernel_rfl

theorem e33 (N : Nat) (o h c : Int) (s : List T) : callP env (N + 1) 33 [.agg [i64 o, .sl 1 s, i64 h, i64 c]] = bif T.wfs [.agg [i64 o, .sl 1 s, i64 h, i64 c]] then (Res.bind (callP env N 62 [T.sl 1 s, T.fn 63 [] []]) fun x =>
  bT x fun b =>
    bif
        (!(b)) then
      bif decide ((↑(List.length s) : Int) ≤ 255) then
        bif decide (o ≥ 0) then
          bif decide (o ≤ 2) then
            bif decide (h > 0) then
              bif decide (h ≤ 4294967295) then
                bif decide (c ≥ 0) then Res.ok (T.bool (decide (c ≤ 4294967295))) else Res.ok (T.bool false)
              else Res.ok (T.bool false)
            else Res.ok (T.bool false)
          else Res.ok (T.bool false)
        else Res.ok (T.bool false)
      else Res.ok (T.bool false)
    else Res.ok (T.bool false)) else .absurd := by kernel_rfl

theorem e82 (N : Nat) (xs : List T) (f : T) : callP env (N + 1) 82 [.sl 6 xs, f] = bif T.wfs [.sl 6 xs, f] then (loopL env N 82 2
  {
    tmps :=
      slots 19
        [(0, PV.t (T.sl 6 xs)), (1, PV.t f), (7, PV.t (i64 (↑(List.length xs) : Int))),
          (8, PV.t (i64 (0)))],
    heap := [] }) else .absurd := by kernel_rfl

theorem e55 (N : Nat) (xs : List T) (f : T) : callP env (N + 1) 55 [.sl 6 xs, f] = bif T.wfs [.sl 6 xs, f] then (Res.bind (callP env N 82 [T.sl 6 xs, f]) fun x => iT IntKind.i64 x fun a => Res.ok (T.bool (decide (a ≥ 0)))) else .absurd := by kernel_rfl

theorem e54 (N : Nat) (a n o h c : Int) (s : List T) : callP env (N + 1) 54 [.agg [i64 a, i64 n, i64 o, .sl 1 s, i64 h, i64 c]] = bif T.wfs [.agg [i64 a, i64 n, i64 o, .sl 1 s, i64 h, i64 c]] then (Res.bind
  (callP env N 32
    [T.agg
        (List.take 2
          (List.drop 0
            [i64 a, i64 n, i64 o, T.sl 1 s, i64 h,
              i64 c]))])
  fun x =>
  bT x fun b =>
    bif
        (!(b)) then
      Res.ok (T.bool true)
    else
      Res.bind
        (callP env N 33
          [T.agg
              (List.take 4
                (List.drop 2
                  [i64 a, i64 n, i64 o, T.sl 1 s, i64 h,
                    i64 c]))])
        fun x =>
        bT x fun b =>
          Res.ok
            (T.bool
              ((!(b))))) else .absurd := by kernel_rfl

theorem e56 (N : Nat) (xs : List T) (f : T) : callP env (N + 1) 56 [.sl 6 xs, f] = bif T.wfs [.sl 6 xs, f] then (loopL env N 56 2 { tmps := slots 24 [(0, PV.t (T.sl 6 xs)), (1, PV.t f), (5, PV.t (i64 (1)))], heap := [] }) else .absurd := by kernel_rfl

theorem e57 (N : Nat) (a n o h c a' n' o' h' c' : Int) (s s' : List T) : callP env (N + 1) 57 [.agg [i64 a, i64 n, i64 o, .sl 1 s, i64 h, i64 c], .agg [i64 a', i64 n', i64 o', .sl 1 s', i64 h', i64 c']] = bif T.wfs [.agg [i64 a, i64 n, i64 o, .sl 1 s, i64 h, i64 c], .agg [i64 a', i64 n', i64 o', .sl 1 s', i64 h', i64 c']] then (Res.bind
  (callP env N 77
    [T.agg
        (List.take 2
          (List.drop 0
            [i64 a, i64 n, i64 o, T.sl 1 s, i64 h,
              i64 c])),
      T.agg
        (List.take 2
          (List.drop 0
            [i64 a', i64 n', i64 o', T.sl 1 s', i64 h',
              i64 c']))])
  fun x => Res.ok x) else .absurd := by kernel_rfl

theorem e28 (N : Nat) (xs : List T) : callP env (N + 1) 28 [.sl 6 xs] = bif T.wfs [.sl 6 xs] then (Res.bind (callP env N 55 [T.sl 6 xs, T.fn 54 [] []]) fun x =>
  bT x fun b =>
    bif
        (!(b)) then
      Res.bind (callP env N 56 [T.sl 6 xs, T.fn 57 [] []]) fun x => Res.ok x
    else Res.ok (T.bool false)) else .absurd := by kernel_rfl

theorem e43 (N : Nat) (xs : List T) : callP env (N + 1) 43 [.sl 6 xs] = bif T.wfs [.sl 6 xs] then (Res.bind (callP env N 28 [T.sl 6 xs]) fun x => bT x fun v => bif v then Res.ok (T.sl 6 xs) else Res.ok (T.sl 6 [])) else .absurd := by kernel_rfl

theorem e77 (N : Nat) (a n a' n' : Int) : callP env (N + 1) 77 [.agg [i64 a, i64 n], .agg [i64 a', i64 n']] = bif T.wfs [.agg [i64 a, i64 n], .agg [i64 a', i64 n']] then (Res.bind (callP env N 86 [i64 a, i64 a']) fun x =>
  Res.bind (callP env N 86 [i64 n, i64 n']) fun x_1 =>
    chkAll (T.okE 1) [x, x_1] (Res.bind (callP env N 85 [T.sl 1 [x, x_1]]) fun x => chk (T.plain x) (Res.ok x))) else .absurd := by kernel_rfl

theorem e85 (N : Nat) (xs : List T) : callP env (N + 1) 85 [.sl 1 xs] = bif T.wfs [.sl 1 xs] then (loopL env N 85 3
  {
    tmps :=
      slots 18
        [(3, PV.t (i64 (0))), (6, PV.t (T.sl 1 xs)),
          (7, PV.t (i64 (↑(List.length xs) : Int))), (8, PV.t (i64 (0)))],
    heap := [] }) else .absurd := by kernel_rfl

theorem e86 (N : Nat) (a b : Int) : callP env (N + 1) 86 [i64 a, i64 b] = bif T.wfs [i64 a, i64 b] then (Res.bind (callP env N 91 [i64 a]) fun x =>
  Res.bind (callP env N 91 [i64 b]) fun x_1 =>
    bT x fun v =>
      bif v then
        bT x_1 fun v =>
          bif v then Res.ok (i64 (0)) else Res.ok (i64 (-1))
      else
        bT x_1 fun v =>
          bif v then Res.ok (i64 (1))
          else
            bif decide (a < b) then Res.ok (i64 (-1))
            else
              bif decide (a > b) then Res.ok (i64 (1))
              else Res.ok (i64 (0))) else .absurd := by kernel_rfl

theorem e91 (N : Nat) (a : Int) : callP env (N + 1) 91 [i64 a] = bif T.wfs [i64 a] then (Res.ok (T.bool (a != a))) else .absurd := by kernel_rfl

theorem e75 (N : Nat) (xs : List T) (a n : Int) (f : T) : callP env (N + 1) 75 [.sl 6 xs, .agg [i64 a, i64 n], f] = bif T.wfs [.sl 6 xs, .agg [i64 a, i64 n], f] then (loopL env N 75 3
  {
    tmps :=
      slots 49
        [(0, PV.t (T.sl 6 xs)), (2, PV.t f), (4, PV.ptr 0 0), (8, PV.t (i64 (↑(List.length xs) : Int))),
          (9, PV.t (i64 (0))), (10, PV.t (i64 (↑(List.length xs) : Int)))],
    heap := [AObj.box 35 2 (PV.t (T.agg [i64 a, i64 n]))] }) else .absurd := by kernel_rfl

theorem e76 (N : Nat) (a n o h c : Int) (s : List T) (a' n' : Int) : callP env (N + 1) 76 [.agg [i64 a, i64 n, i64 o, .sl 1 s, i64 h, i64 c], .agg [i64 a', i64 n']] = bif T.wfs [.agg [i64 a, i64 n, i64 o, .sl 1 s, i64 h, i64 c], .agg [i64 a', i64 n']] then (Res.bind
  (callP env N 77
    [T.agg
        (List.take 2
          (List.drop 0
            [i64 a, i64 n, i64 o, T.sl 1 s, i64 h,
              i64 c])),
      T.agg [i64 a', i64 n']])
  fun x => Res.ok x) else .absurd := by kernel_rfl

theorem e44 (N : Nat) (xs : List T) (a n : Int) : callP env (N + 1) 44 [.sl 6 xs, .agg [i64 a, i64 n]] = bif T.wfs [.sl 6 xs, .agg [i64 a, i64 n]] then (Res.bind (callP env N 75 [T.sl 6 xs, T.agg [i64 a, i64 n], T.fn 76 [] []]) fun x =>
  compT x 0 fun y => compT x 1 fun y_1 => Res.ok (T.tup [y, y_1])) else .absurd := by kernel_rfl

theorem e19 (N : Nat) (xs : List T) (a n : Int) : callP env (N + 1) 19 [.sl 6 xs, .agg [i64 a, i64 n]] = bif T.wfs [.sl 6 xs, .agg [i64 a, i64 n]] then (Res.bind (callP env N 43 [T.sl 6 xs]) fun x =>
  Res.bind (callP env N 44 [x, T.agg [i64 a, i64 n]]) fun x_1 =>
    compT x_1 0 fun y =>
      compT x_1 1 fun y_1 =>
        bT y_1 fun b =>
          bif
              (!(b)) then
            Res.ok
              (T.tup
                [T.agg
                    [i64 (0), T.sl 1 [], i64 (0),
                      i64 (0)],
                  T.bool false])
          else
            anyT y fun i =>
              slT 6 x fun xs =>
                atT xs i fun e =>
                  chk
                    (match List.length (T.cells (T.partD e 2 4 true)) == 4 with
                    | false => false
                    | true => true)
                    (Res.ok (T.tup [T.partD e 2 4 true, T.bool true]))) else .absurd := by kernel_rfl

theorem e21 (N : Nat) (xs g m : List T) (o h c k : Int) (s : List T) : callP env (N + 1) 21 [.sl 6 xs, .agg [.sl 2 g, i64 o, .sl 1 s, i64 h, i64 c, .sl 2 m], i64 k] = bif T.wfs [.sl 6 xs, .agg [.sl 2 g, i64 o, .sl 1 s, i64 h, i64 c, .sl 2 m], i64 k] then (Res.bind (callP env N 43 [T.sl 6 xs]) fun x =>
  Res.bind (callP env N 46 [x]) fun x =>
    slT 6 x fun xs =>
      loopL env N 21 3
        {
          tmps :=
            slots 82
              [(0, PV.own 0), (2, PV.t (i64 k)), (4, PV.ptr 1 0), (21, PV.t (T.sl 2 g)),
                (22, PV.t (i64 (↑(List.length g) : Int))), (23, PV.t (i64 (0)))],
          heap :=
            [AObj.row 64 6 xs,
              AObj.box 45 6
                (PV.t
                  (T.agg
                    [T.sl 2 g, i64 o, T.sl 1 s, i64 h, i64 c, T.sl 2 m]))] }) else .absurd := by kernel_rfl

theorem e23 (N : Nat) (xs ys : List T) : callP env (N + 1) 23 [.sl 6 xs, .sl 6 ys] = bif T.wfs [.sl 6 xs, .sl 6 ys] then (Res.bind (callP env N 43 [T.sl 6 xs]) fun x =>
  sllT x fun n =>
    loopL env N 23 4
      {
        tmps :=
          slots 68
            [(0, PV.t (T.sl 6 xs)), (1, PV.t (T.sl 6 ys)), (6, PV.own 0), (7, PV.own 1), (17, PV.t x),
              (18, PV.t (i64 n)), (19, PV.t (i64 (0)))],
        heap := [AObj.row 35 2 [], AObj.row 64 6 []] }) else .absurd := by kernel_rfl

theorem e53 (N : Nat) (o h c o' h' c' : Int) (s s' : List T) : callP env (N + 1) 53 [.agg [i64 o, .sl 1 s, i64 h, i64 c], .agg [i64 o', .sl 1 s', i64 h', i64 c']] = bif T.wfs [.agg [i64 o, .sl 1 s, i64 h, i64 c], .agg [i64 o', .sl 1 s', i64 h', i64 c']] then (bif o == o' then
  bif h == h' then
    bif c == c' then Res.bind (callP env N 81 [T.sl 1 s, T.sl 1 s']) fun x => Res.ok x else Res.ok (T.bool false)
  else Res.ok (T.bool false)
else Res.ok (T.bool false)) else .absurd := by kernel_rfl

theorem e81 (N : Nat) (xs ys : List T) : callP env (N + 1) 81 [.sl 1 xs, .sl 1 ys] = bif T.wfs [.sl 1 xs, .sl 1 ys] then (bif (↑(List.length xs) : Int) != (↑(List.length ys) : Int) then Res.ok (T.bool false)
else
  loopL env N 81 4
    {
      tmps :=
        slots 26
          [(0, PV.t (T.sl 1 xs)), (1, PV.t (T.sl 1 ys)), (12, PV.t (i64 (↑(List.length xs) : Int))),
            (13, PV.t (i64 (0)))],
      heap := [] }) else .absurd := by kernel_rfl

theorem e60 (N : Nat) (a n o h c a' n' o' h' c' : Int) (s s' : List T) : callP env (N + 1) 60 [.agg [i64 a, i64 n, i64 o, .sl 1 s, i64 h, i64 c], .agg [i64 a', i64 n', i64 o', .sl 1 s', i64 h', i64 c']] = bif T.wfs [.agg [i64 a, i64 n, i64 o, .sl 1 s, i64 h, i64 c], .agg [i64 a', i64 n', i64 o', .sl 1 s', i64 h', i64 c']] then (bif
    match a == a' with
    | false => false
    | true =>
      match n == n' with
      | false => false
      | true => true then
  Res.bind
    (callP env N 53
      [T.agg
          (List.take 4
            (List.drop 2
              [i64 a, i64 n, i64 o, T.sl 1 s, i64 h,
                i64 c])),
        T.agg
          (List.take 4
            (List.drop 2
              [i64 a', i64 n', i64 o', T.sl 1 s', i64 h',
                i64 c']))])
    fun x => Res.ok x
else Res.ok (T.bool false)) else .absurd := by kernel_rfl

theorem e59 (N : Nat) (xs ys : List T) (f : T) : callP env (N + 1) 59 [.sl 6 xs, .sl 6 ys, f] = bif T.wfs [.sl 6 xs, .sl 6 ys, f] then (bif (↑(List.length xs) : Int) != (↑(List.length ys) : Int) then Res.ok (T.bool false)
else
  loopL env N 59 4
    {
      tmps :=
        slots 32
          [(1, PV.t (T.sl 6 ys)), (2, PV.t f), (15, PV.t (T.sl 6 xs)),
            (16, PV.t (i64 (↑(List.length xs) : Int))), (17, PV.t (i64 (0)))],
      heap := [] }) else .absurd := by kernel_rfl

theorem e30 (N : Nat) (xs ys : List T) : callP env (N + 1) 30 [.sl 6 xs, .sl 6 ys] = bif T.wfs [.sl 6 xs, .sl 6 ys] then (Res.bind (callP env N 59 [T.sl 6 xs, T.sl 6 ys, T.fn 60 [] []]) fun x => Res.ok x) else .absurd := by kernel_rfl

theorem e17 (N : Nat) (xs : List T) : callP env (N + 1) 17 [.sl 6 xs] = bif T.wfs [.sl 6 xs] then (loopL env N 17 2 { tmps := slots 21 [(0, PV.t (T.sl 6 xs)), (3, PV.t (i64 (0)))], heap := [] }) else .absurd := by kernel_rfl

theorem e18 (N : Nat) (g m : List T) (o h c : Int) (s : List T) : callP env (N + 1) 18 [.agg [.sl 2 g, i64 o, .sl 1 s, i64 h, i64 c, .sl 2 m]] = bif T.wfs [.agg [.sl 2 g, i64 o, .sl 1 s, i64 h, i64 c, .sl 2 m]] then (bif decide ((↑(List.length g) : Int) ≤ 40) then
  bif decide ((↑(List.length m) : Int) ≤ 40) then Res.ok (T.bool (decide ((↑(List.length s) : Int) ≤ 300)))
  else Res.ok (T.bool false)
else Res.ok (T.bool false)) else .absurd := by kernel_rfl

theorem e20 (N : Nat) (xs : List T) (a n : Int) : callP env (N + 1) 20 [.sl 6 xs, .agg [i64 a, i64 n]] = bif T.wfs [.sl 6 xs, .agg [i64 a, i64 n]] then (Res.bind (callP env N 45 [T.sl 6 xs]) fun x =>
  loopL env N 20 3
    {
      tmps :=
        slots 29 [(3, PV.ptr 0 0), (4, PV.ptr 1 0), (6, PV.t x), (7, PV.t (i64 (0)))],
      heap :=
        [AObj.box 35 2 (PV.t (T.agg [i64 a, i64 n])),
          AObj.box 43 4
            (PV.agg
              [PV.t (i64 (0)), PV.own 2, PV.t (i64 (0)),
                PV.t (i64 (0))]),
          AObj.row 3 1 []] }) else .absurd := by kernel_rfl

theorem e22 (N : Nat) (xs g m : List T) (o h c k : Int) (s : List T) : callP env (N + 1) 22 [.sl 6 xs, .agg [.sl 2 g, i64 o, .sl 1 s, i64 h, i64 c, .sl 2 m], i64 k] = bif T.wfs [.sl 6 xs, .agg [.sl 2 g, i64 o, .sl 1 s, i64 h, i64 c, .sl 2 m], i64 k] then (Res.bind (callP env N 45 [T.sl 6 xs]) fun x =>
  loopL env N 22 3
    {
      tmps :=
        slots 66
          [(2, PV.t (i64 k)), (4, PV.ptr 0 0), (8, PV.t x), (9, PV.t (i64 (0)))],
      heap :=
        [AObj.box 45 6
            (PV.t
              (T.agg [T.sl 2 g, i64 o, T.sl 1 s, i64 h, i64 c, T.sl 2 m]))] }) else .absurd := by kernel_rfl

theorem e24 (N : Nat) (xs ys : List T) : callP env (N + 1) 24 [.sl 6 xs, .sl 6 ys] = bif T.wfs [.sl 6 xs, .sl 6 ys] then (Res.bind (callP env N 45 [T.sl 6 xs]) fun x =>
  Res.bind (callP env N 45 [T.sl 6 ys]) fun x_1 =>
    loopL env N 24 6
      {
        tmps :=
          slots 83
            [(6, PV.t x), (7, PV.t x_1), (8, PV.own 0), (9, PV.own 1),
              (10, PV.t (i64 (0)))],
        heap := [AObj.row 35 2 [], AObj.row 64 6 []] }) else .absurd := by kernel_rfl

theorem e25 (N : Nat) (o h c o' h' c' : Int) (s s' : List T) : callP env (N + 1) 25 [.agg [i64 o, .sl 1 s, i64 h, i64 c], .agg [i64 o', .sl 1 s', i64 h', i64 c']] = bif T.wfs [.agg [i64 o, .sl 1 s, i64 h, i64 c], .agg [i64 o', .sl 1 s', i64 h', i64 c']] then (bif o != o' then Res.ok (T.bool false)
else
  bif h != h' then Res.ok (T.bool false)
  else
    bif c != c' then Res.ok (T.bool false)
    else
      bif (↑(List.length s) : Int) != (↑(List.length s') : Int) then Res.ok (T.bool false)
      else
        loopL env N 25 4
          { tmps := slots 52 [(2, PV.ptr 0 0), (3, PV.ptr 1 0), (5, PV.t (i64 (0)))],
            heap :=
              [AObj.box 43 4 (PV.t (T.agg [i64 o, T.sl 1 s, i64 h, i64 c])),
                AObj.box 43 4
                  (PV.t (T.agg [i64 o', T.sl 1 s', i64 h', i64 c']))] }) else .absurd := by kernel_rfl

theorem e26 (N : Nat) (xs ys : List T) : callP env (N + 1) 26 [.sl 6 xs, .sl 6 ys] = bif T.wfs [.sl 6 xs, .sl 6 ys] then (bif (↑(List.length xs) : Int) != (↑(List.length ys) : Int) then Res.ok (T.bool false)
else
  loopL env N 26 4
    { tmps := slots 42 [(0, PV.t (T.sl 6 xs)), (1, PV.t (T.sl 6 ys)), (5, PV.t (i64 (0)))],
      heap := [] }) else .absurd := by kernel_rfl

theorem e27 (N : Nat) (xs ys : List T) : callP env (N + 1) 27 [.sl 2 xs, .sl 2 ys] = bif T.wfs [.sl 2 xs, .sl 2 ys] then (bif (↑(List.length xs) : Int) != (↑(List.length ys) : Int) then Res.ok (T.bool false)
else
  loopL env N 27 4
    { tmps := slots 26 [(0, PV.t (T.sl 2 xs)), (1, PV.t (T.sl 2 ys)), (5, PV.t (i64 (0)))],
      heap := [] }) else .absurd := by kernel_rfl

theorem e29 (N : Nat) (xs : List T) : callP env (N + 1) 29 [.sl 6 xs] = bif T.wfs [.sl 6 xs] then (loopL env N 29 2 { tmps := slots 45 [(0, PV.t (T.sl 6 xs)), (3, PV.t (i64 (0)))], heap := [] }) else .absurd := by kernel_rfl

theorem e31 (N : Nat) (xs : List T) (a n : Int) : callP env (N + 1) 31 [.sl 2 xs, .agg [i64 a, i64 n]] = bif T.wfs [.sl 2 xs, .agg [i64 a, i64 n]] then (loopL env N 31 2
  { tmps := slots 18 [(0, PV.t (T.sl 2 xs)), (3, PV.ptr 0 0), (5, PV.t (i64 (0)))],
    heap := [AObj.box 35 2 (PV.t (T.agg [i64 a, i64 n]))] }) else .absurd := by kernel_rfl

theorem e45 (N : Nat) (xs : List T) : callP env (N + 1) 45 [.sl 6 xs] = bif T.wfs [.sl 6 xs] then (Res.bind (callP env N 29 [T.sl 6 xs]) fun x =>
  bT x fun b =>
    bif
        (!(b)) then
      Res.ok (T.sl 6 [])
    else Res.ok (T.sl 6 xs)) else .absurd := by kernel_rfl

theorem e49 (N : Nat) (xs : List T) (a n : Int) : callP env (N + 1) 49 [.sl 6 xs, .agg [i64 a, i64 n]] = bif T.wfs [.sl 6 xs, .agg [i64 a, i64 n]] then (loopL env N 49 3
  {
    tmps :=
      slots 28
        [(0, PV.t (T.sl 6 xs)), (3, PV.ptr 0 0), (5, PV.own 1), (6, PV.t (i64 (0)))],
    heap := [AObj.box 35 2 (PV.t (T.agg [i64 a, i64 n])), AObj.row 64 6 []] }) else .absurd := by kernel_rfl

theorem e50 (N : Nat) (a b : Int) : callP env (N + 1) 50 [.agg [i64 a, i64 b]] = bif T.wfs [.agg [i64 a, i64 b]] then (bif decide (b ≥ 0) then
  bif decide (b ≤ 32) then
    bif decide (a ≥ 0) then
      bif decide (a ≤ 4294967295) then
        Res.bind (callP env N 80 [i64 a, i64 b]) fun x =>
          iT IntKind.i64 x fun a_1 => Res.ok (T.bool (a_1 == a))
      else Res.ok (T.bool false)
    else Res.ok (T.bool false)
  else Res.ok (T.bool false)
else Res.ok (T.bool false)) else .absurd := by kernel_rfl

theorem e51 (N : Nat) (o h c : Int) (s : List T) : callP env (N + 1) 51 [.agg [i64 o, .sl 1 s, i64 h, i64 c]] = bif T.wfs [.agg [i64 o, .sl 1 s, i64 h, i64 c]] then (loopL env N 51 2
  { tmps := slots 59 [(1, PV.ptr 0 0), (3, PV.t (i64 (0)))],
    heap := [AObj.box 43 4 (PV.t (T.agg [i64 o, T.sl 1 s, i64 h, i64 c]))] }) else .absurd := by kernel_rfl

theorem e52 (N : Nat) (xs : List T) (a n o h c : Int) (s : List T) : callP env (N + 1) 52 [.sl 6 xs, .agg [i64 a, i64 n, i64 o, .sl 1 s, i64 h, i64 c]] = bif T.wfs [.sl 6 xs, .agg [i64 a, i64 n, i64 o, .sl 1 s, i64 h, i64 c]] then (loopL env N 52 4
  {
    tmps :=
      slots 45
        [(0, PV.t (T.sl 6 xs)), (3, PV.ptr 0 0), (5, PV.own 1), (6, PV.t (T.bool false)),
          (7, PV.t (i64 (0)))],
    heap :=
      [AObj.box 64 6
          (PV.t
            (T.agg
              [i64 a, i64 n, i64 o, T.sl 1 s, i64 h,
                i64 c])),
        AObj.row 64 6 []] }) else .absurd := by kernel_rfl

theorem e58 (N : Nat) (a n a' n' : Int) : callP env (N + 1) 58 [.agg [i64 a, i64 n], .agg [i64 a', i64 n']] = bif T.wfs [.agg [i64 a, i64 n], .agg [i64 a', i64 n']] then (bif decide (a < a') then Res.ok (i64 (-1))
else
  bif a == a' then
    bif decide (n < n') then Res.ok (i64 (-1))
    else
      bif
          match a == a' with
          | false => false
          | true =>
            match n == n' with
            | false => false
            | true => true then
        Res.ok (i64 (0))
      else Res.ok (i64 (1))
  else
    bif
        match a == a' with
        | false => false
        | true =>
          match n == n' with
          | false => false
          | true => true then
      Res.ok (i64 (0))
    else Res.ok (i64 (1))) else .absurd := by kernel_rfl

theorem e80 (N : Nat) (a b : Int) : callP env (N + 1) 80 [i64 a, i64 b] = bif T.wfs [i64 a, i64 b] then (Res.bind (callP env N 88 [i64 b]) fun x =>
  iT IntKind.i64 x fun b =>
    chk
      ((!(b == 0)))
      (Res.ok
        (i64
          (IntKind.wrap IntKind.i64
            (IntKind.wrap IntKind.i64
                (↑(BitVec.toNat (BitVec.ofInt 64 a &&& BitVec.ofInt 64 (4294967295))) : Int) -
              Int.tmod
                (IntKind.wrap IntKind.i64
                  (↑(BitVec.toNat (BitVec.ofInt 64 a &&& BitVec.ofInt 64 (4294967295))) : Int))
                b))))) else .absurd := by kernel_rfl

theorem e88 (N : Nat) (a : Int) : callP env (N + 1) 88 [i64 a] = bif T.wfs [i64 a] then (loopL env N 88 3
  {
    tmps :=
      slots 14
        [(3, PV.t (i64 (1))), (4, PV.t (i64 (minmax true [0] a)))],
    heap := [] }) else .absurd := by kernel_rfl

theorem b83_2 (N : Nat) (xs : List T) (f : T) (i : Nat) : bodyL env N 83 0 2 ⟨slots 19 [(0, .t (.sl 1 xs)), (1, .t f), (7, .t (i64 (xs.length : Int))), (8, .t (i64 (i : Int)))], []⟩ = bif decide ((↑i : Int) < (↑(List.length xs) : Int)) then
  atT xs (↑i : Int) fun e =>
    apK env (recOf env N) f [e] fun r =>
      bT r fun v =>
        bif v then Res.ok (Ex.ret, { tmps := slots 19 [(4, PV.t (i64 (↑i : Int)))], heap := [] })
        else
          Res.ok
            (Ex.norm,
              {
                tmps :=
                  slots 19
                    [(0, PV.t (T.sl 1 xs)), (1, PV.t f), (7, PV.t (i64 (↑(List.length xs) : Int))),
                      (8, PV.t (i64 (IntKind.wrap IntKind.i64 ((↑i : Int) + 1))))],
                heap := [] })
else Res.ok (Ex.exit 0, { tmps := slots 19 [], heap := [] }) := by kernel_rfl

theorem t83_2_exit0 (N : Nat)  : tailL env N 83 0 2 (outK env 83) (.exit 0) ⟨slots 19 [], []⟩ = Res.ok (i64 (-1)) := by kernel_rfl

theorem t83_2_ret (N : Nat) (k : Int) : tailL env N 83 0 2 (outK env 83) (.ret) ⟨slots 19 [(4, .t (i64 k))], []⟩ = Res.ok (i64 k) := by kernel_rfl

theorem b82_2 (N : Nat) (xs : List T) (f : T) (i : Nat) : bodyL env N 82 0 2 ⟨slots 19 [(0, .t (.sl 6 xs)), (1, .t f), (7, .t (i64 (xs.length : Int))), (8, .t (i64 (i : Int)))], []⟩ = bif decide ((↑i : Int) < (↑(List.length xs) : Int)) then
  atT xs (↑i : Int) fun e =>
    apK env (recOf env N) f [e] fun r =>
      bT r fun v =>
        bif v then Res.ok (Ex.ret, { tmps := slots 19 [(4, PV.t (i64 (↑i : Int)))], heap := [] })
        else
          Res.ok
            (Ex.norm,
              {
                tmps :=
                  slots 19
                    [(0, PV.t (T.sl 6 xs)), (1, PV.t f), (7, PV.t (i64 (↑(List.length xs) : Int))),
                      (8, PV.t (i64 (IntKind.wrap IntKind.i64 ((↑i : Int) + 1))))],
                heap := [] })
else Res.ok (Ex.exit 0, { tmps := slots 19 [], heap := [] }) := by kernel_rfl

theorem t82_2_exit0 (N : Nat)  : tailL env N 82 0 2 (outK env 82) (.exit 0) ⟨slots 19 [], []⟩ = Res.ok (i64 (-1)) := by kernel_rfl

theorem t82_2_ret (N : Nat) (k : Int) : tailL env N 82 0 2 (outK env 82) (.ret) ⟨slots 19 [(4, .t (i64 k))], []⟩ = Res.ok (i64 k) := by kernel_rfl

theorem b56_2 (N : Nat) (xs : List T) (f : T) (i : Nat) : bodyL env N 56 0 2 ⟨slots 24 [(0, .t (.sl 6 xs)), (1, .t f), (5, .t (i64 (i : Int)))], []⟩ = bif decide ((↑i : Int) < (↑(List.length xs) : Int)) then
  atT xs (IntKind.wrap IntKind.i64 ((↑i : Int) - 1)) fun e =>
    atT xs (↑i : Int) fun e_1 =>
      apK env (recOf env N) f [e, e_1] fun r =>
        iT IntKind.i64 r fun a =>
          bif decide (a ≥ 0) then Res.ok (Ex.ret, { tmps := slots 24 [(4, PV.t (T.bool false))], heap := [] })
          else
            Res.ok
              (Ex.norm,
                {
                  tmps :=
                    slots 24
                      [(0, PV.t (T.sl 6 xs)), (1, PV.t f),
                        (5, PV.t (i64 (IntKind.wrap IntKind.i64 ((↑i : Int) + 1))))],
                  heap := [] })
else Res.ok (Ex.exit 0, { tmps := slots 24 [], heap := [] }) := by kernel_rfl

theorem t56_2_exit0 (N : Nat)  : tailL env N 56 0 2 (outK env 56) (.exit 0) ⟨slots 24 [], []⟩ = Res.ok (T.bool true) := by kernel_rfl

theorem t56_2_ret (N : Nat) (b : Bool) : tailL env N 56 0 2 (outK env 56) (.ret) ⟨slots 24 [(4, .t (.bool b))], []⟩ = Res.ok (T.bool b) := by kernel_rfl

theorem b85_3 (N : Nat) (xs : List T) (i : Nat) : bodyL env N 85 0 3 ⟨slots 18 [(3, .t (i64 0)), (6, .t (.sl 1 xs)), (7, .t (i64 (xs.length : Int))), (8, .t (i64 (i : Int)))], []⟩ = bif decide ((↑i : Int) < (↑(List.length xs) : Int)) then
  atT xs (↑i : Int) fun e =>
    iT IntKind.i64 e fun a =>
      bif a != 0 then Res.ok (Ex.ret, { tmps := slots 18 [(2, PV.t e)], heap := [] })
      else
        Res.ok
          (Ex.norm,
            {
              tmps :=
                slots 18
                  [(3, PV.t (i64 (0))), (6, PV.t (T.sl 1 xs)),
                    (7, PV.t (i64 (↑(List.length xs) : Int))),
                    (8, PV.t (i64 (IntKind.wrap IntKind.i64 ((↑i : Int) + 1))))],
              heap := [] })
else Res.ok (Ex.exit 0, { tmps := slots 18 [(3, PV.t (i64 (0)))], heap := [] }) := by kernel_rfl

theorem t85_3_exit0 (N : Nat) (k : Int) : tailL env N 85 0 3 (outK env 85) (.exit 0) ⟨slots 18 [(3, .t (i64 k))], []⟩ = Res.ok (i64 k) := by kernel_rfl

theorem t85_3_ret (N : Nat) (k : Int) : tailL env N 85 0 3 (outK env 85) (.ret) ⟨slots 18 [(2, .t (i64 k))], []⟩ = Res.ok (i64 k) := by kernel_rfl

theorem b75_3 (N : Nat) (xs : List T) (a n : Int) (f : T) (i j : Nat) : bodyL env N 75 0 3 ⟨slots 49 [(0, .t (.sl 6 xs)), (2, .t f), (4, .ptr 0 0), (8, .t (i64 (xs.length : Int))), (9, .t (i64 (i : Int))), (10, .t (i64 (j : Int)))], [.box 35 2 (.t (.agg [i64 a, i64 n]))]⟩ = bif decide ((↑i : Int) < (↑j : Int)) then
  atT xs
    (IntKind.wrap IntKind.i64
      (Int.fdiv (IntKind.wrap IntKind.u64 (IntKind.wrap IntKind.i64 ((↑i : Int) + (↑j : Int)))) (2)))
    fun e =>
    apK env (recOf env N) f [e, T.agg [i64 a, i64 n]] fun r =>
      iT IntKind.i64 r fun a_1 =>
        bif decide (a_1 < 0) then
          Res.ok
            (Ex.norm,
              {
                tmps :=
                  slots 49
                    [(0, PV.t (T.sl 6 xs)), (2, PV.t f), (4, PV.ptr 0 0),
                      (8, PV.t (i64 (↑(List.length xs) : Int))),
                      (9,
                        PV.t
                          (i64
                            (IntKind.wrap IntKind.i64
                              (IntKind.wrap IntKind.i64
                                  (Int.fdiv
                                    (IntKind.wrap IntKind.u64 (IntKind.wrap IntKind.i64 ((↑i : Int) + (↑j : Int))))
                                    (2)) +
                                1)))),
                      (10, PV.t (i64 (↑j : Int)))],
                heap := [AObj.box 35 2 (PV.t (T.agg [i64 a, i64 n]))] })
        else
          Res.ok
            (Ex.norm,
              {
                tmps :=
                  slots 49
                    [(0, PV.t (T.sl 6 xs)), (2, PV.t f), (4, PV.ptr 0 0),
                      (8, PV.t (i64 (↑(List.length xs) : Int))), (9, PV.t (i64 (↑i : Int))),
                      (10,
                        PV.t
                          (i64
                            (IntKind.wrap IntKind.i64
                              (Int.fdiv (IntKind.wrap IntKind.u64 (IntKind.wrap IntKind.i64 ((↑i : Int) + (↑j : Int))))
                                (2)))))],
                heap := [AObj.box 35 2 (PV.t (T.agg [i64 a, i64 n]))] })
else
  Res.ok
    (Ex.exit 0,
      {
        tmps :=
          slots 49
            [(0, PV.t (T.sl 6 xs)), (2, PV.t f), (4, PV.ptr 0 0),
              (8, PV.t (i64 (↑(List.length xs) : Int))), (9, PV.t (i64 (↑i : Int)))],
        heap := [AObj.box 35 2 (PV.t (T.agg [i64 a, i64 n]))] }) := by kernel_rfl

theorem t75_3_exit0 (N : Nat) (xs : List T) (a n : Int) (f : T) (i : Nat) : tailL env N 75 0 3 (outK env 75) (.exit 0) ⟨slots 49 [(0, .t (.sl 6 xs)), (2, .t f), (4, .ptr 0 0), (8, .t (i64 (xs.length : Int))), (9, .t (i64 (i : Int)))], [.box 35 2 (.t (.agg [i64 a, i64 n]))]⟩ = bif decide ((↑i : Int) < (↑(List.length xs) : Int)) then
  atT xs (↑i : Int) fun e =>
    apK env (recOf env N) f [e, T.agg [i64 a, i64 n]] fun r =>
      iT IntKind.i64 r fun a => Res.ok (T.tup [i64 (↑i : Int), T.bool (a == 0)])
else Res.ok (T.tup [i64 (↑i : Int), T.bool false]) := by kernel_rfl

theorem t21_3_exit0 (N : Nat) (xs g m : List T) (o h c k : Int) (s : List T) : tailL env N 21 0 3 (outK env 21) (.exit 0) ⟨slots 82 [(0, .own 0), (2, .t (i64 k)), (4, .ptr 1 0)], [.row 64 6 xs, .box 45 6 (.t (.agg [.sl 2 g, i64 o, .sl 1 s, i64 h, i64 c, .sl 2 m]))]⟩ = loopL env N 21 10
  {
    tmps :=
      slots 82
        [(0, PV.own 0), (2, PV.t (i64 k)), (4, PV.ptr 1 0), (41, PV.t (T.sl 2 m)),
          (42, PV.t (i64 (↑(List.length m) : Int))), (43, PV.t (i64 (0)))],
    heap :=
      [AObj.row 64 6 xs,
        AObj.box 45 6
          (PV.t
            (T.agg [T.sl 2 g, i64 o, T.sl 1 s, i64 h, i64 c, T.sl 2 m]))] } := by kernel_rfl

theorem t21_10_exit2 (N : Nat) (xs : List T) (k : Int) : tailL env N 21 0 10 (outK env 21) (.exit 2) ⟨slots 82 [(0, .own 0), (2, .t (i64 k))], [.row 64 6 xs]⟩ = bif decide ((↑(List.length xs) : Int) > k) then Res.ok (T.tup [T.sl 6 [], T.bool false])
else Res.ok (T.tup [T.sl 6 xs, T.bool true]) := by kernel_rfl

theorem b17_2 (N : Nat) (xs : List T) (i : Nat) : bodyL env N 17 0 2 ⟨slots 21 [(0, .t (.sl 6 xs)), (3, .t (i64 (i : Int)))], []⟩ = bif decide ((↑i : Int) < (↑(List.length xs) : Int)) then
  atT xs (↑i : Int) fun e =>
    sllT (T.partD e 3 1 false) fun n =>
      bif decide (n > 100) then Res.ok (Ex.ret, { tmps := slots 21 [(2, PV.t (T.bool false))], heap := [] })
      else
        Res.ok
          (Ex.norm,
            {
              tmps :=
                slots 21
                  [(0, PV.t (T.sl 6 xs)),
                    (3, PV.t (i64 (IntKind.wrap IntKind.i64 ((↑i : Int) + 1))))],
              heap := [] })
else Res.ok (Ex.exit 0, { tmps := slots 21 [(0, PV.t (T.sl 6 xs))], heap := [] }) := by kernel_rfl

theorem t17_2_exit0 (N : Nat) (xs : List T) : tailL env N 17 0 2 (outK env 17) (.exit 0) ⟨slots 21 [(0, .t (.sl 6 xs))], []⟩ = Res.ok (T.bool (decide ((↑(List.length xs) : Int) ≤ 40))) := by kernel_rfl

theorem t17_2_ret (N : Nat) (b : Bool) : tailL env N 17 0 2 (outK env 17) (.ret) ⟨slots 21 [(2, .t (.bool b))], []⟩ = Res.ok (T.bool b) := by kernel_rfl

theorem b26_4 (N : Nat) (xs ys : List T) (i : Nat) : bodyL env N 26 0 4 ⟨slots 42 [(0, .t (.sl 6 xs)), (1, .t (.sl 6 ys)), (5, .t (i64 (i : Int)))], []⟩ = bif decide ((↑i : Int) < (↑(List.length xs) : Int)) then
  atT xs (↑i : Int) fun e =>
    atT ys (↑i : Int) fun e_1 =>
      match T.eqLs [0, 0] (T.cells (T.partD e 0 2 true)) (T.cells (T.partD e_1 0 2 true)) with
      | some b =>
        bif
            (!(b)) then
          Res.ok (Ex.ret, { tmps := slots 42 [(4, PV.t (T.bool false))], heap := [] })
        else
          atT xs (↑i : Int) fun e =>
            atT ys (↑i : Int) fun e_2 =>
              Res.bind (callP env N 25 [T.partD e 2 4 true, T.partD e_2 2 4 true]) fun x =>
                bT x fun b =>
                  bif
                      (!(b)) then
                    Res.ok (Ex.ret, { tmps := slots 42 [(4, PV.t (T.bool false))], heap := [] })
                  else
                    Res.ok
                      (Ex.norm,
                        {
                          tmps :=
                            slots 42
                              [(0, PV.t (T.sl 6 xs)), (1, PV.t (T.sl 6 ys)),
                                (5, PV.t (i64 (IntKind.wrap IntKind.i64 ((↑i : Int) + 1))))],
                          heap := [] })
      | none => Res.stuck
else Res.ok (Ex.exit 0, { tmps := slots 42 [], heap := [] }) := by kernel_rfl

theorem t26_4_exit0 (N : Nat)  : tailL env N 26 0 4 (outK env 26) (.exit 0) ⟨slots 42 [], []⟩ = Res.ok (T.bool true) := by kernel_rfl

theorem t26_4_ret (N : Nat) (b : Bool) : tailL env N 26 0 4 (outK env 26) (.ret) ⟨slots 42 [(4, .t (.bool b))], []⟩ = Res.ok (T.bool b) := by kernel_rfl

theorem b25_4 (N : Nat) (o h c o' h' c' : Int) (s s' : List T) (i : Nat) : bodyL env N 25 0 4 ⟨slots 52 [(2, .ptr 0 0), (3, .ptr 1 0), (5, .t (i64 (i : Int)))], [.box 43 4 (.t (.agg [i64 o, .sl 1 s, i64 h, i64 c])), .box 43 4 (.t (.agg [i64 o', .sl 1 s', i64 h', i64 c']))]⟩ = bif decide ((↑i : Int) < (↑(List.length s) : Int)) then
  atT s (↑i : Int) fun e =>
    atT s' (↑i : Int) fun e_1 =>
      iT IntKind.i64 e fun a =>
        iT IntKind.i64 e_1 fun b =>
          bif a != b then Res.ok (Ex.ret, { tmps := slots 52 [(4, PV.t (T.bool false))], heap := [] })
          else
            Res.ok
              (Ex.norm,
                {
                  tmps :=
                    slots 52
                      [(2, PV.ptr 0 0), (3, PV.ptr 1 0),
                        (5, PV.t (i64 (IntKind.wrap IntKind.i64 ((↑i : Int) + 1))))],
                  heap :=
                    [AObj.box 43 4
                        (PV.t (T.agg [i64 o, T.sl 1 s, i64 h, i64 c])),
                      AObj.box 43 4
                        (PV.t (T.agg [i64 o', T.sl 1 s', i64 h', i64 c']))] })
else Res.ok (Ex.exit 0, { tmps := slots 52 [], heap := [] }) := by kernel_rfl

theorem t25_4_exit0 (N : Nat)  : tailL env N 25 0 4 (outK env 25) (.exit 0) ⟨slots 52 [], []⟩ = Res.ok (T.bool true) := by kernel_rfl

theorem t25_4_ret (N : Nat) (b : Bool) : tailL env N 25 0 4 (outK env 25) (.ret) ⟨slots 52 [(4, .t (.bool b))], []⟩ = Res.ok (T.bool b) := by kernel_rfl

theorem e7 (N : Nat) (xs g m : List T) (o h c k : Int) (s : List T) : callP env (N + 1) 7 [.sl 6 xs, .agg [.sl 2 g, i64 o, .sl 1 s, i64 h, i64 c, .sl 2 m], i64 k] = bif T.wfs [.sl 6 xs, .agg [.sl 2 g, i64 o, .sl 1 s, i64 h, i64 c, .sl 2 m], i64 k] then (Res.bind (callP env N 16 []) fun x =>
  Res.bind (callP env N 17 [T.sl 6 xs]) fun x_1 =>
    bT x_1 fun b =>
      bif
          (!(b)) then
        Res.ok x
      else
        Res.bind
          (callP env N 18
            [T.agg [T.sl 2 g, i64 o, T.sl 1 s, i64 h, i64 c, T.sl 2 m]])
          fun x_2 =>
          bT x_2 fun b =>
            bif
                (!(b)) then
              Res.ok x
            else
              Res.bind
                (callP env N 21
                  [T.sl 6 xs,
                    T.agg [T.sl 2 g, i64 o, T.sl 1 s, i64 h, i64 c, T.sl 2 m],
                    i64 (1000)])
                fun x_3 =>
                compT x_3 0 fun y =>
                  compT x_3 1 fun y_1 =>
                    Res.bind
                      (callP env N 21
                        [T.sl 6 xs,
                          T.agg
                            [T.sl 2 g, i64 o, T.sl 1 s, i64 h, i64 c,
                              T.sl 2 m],
                          i64 k])
                      fun x_4 =>
                      compT x_4 0 fun y_2 =>
                        compT x_4 1 fun y_3 =>
                          bT y_1 fun b =>
                            bif
                                (!(b)) then
                              Res.ok (T.bool false)
                            else
                              sllT y fun n =>
                                bif decide (n > k) then
                                  bT x fun b =>
                                    bif b then
                                      bT y_3 fun b =>
                                        bif
                                            (!(b)) then
                                          sllT y_2 fun n => Res.ok (T.bool (n == 0))
                                        else Res.ok (T.bool false)
                                    else Res.ok (T.bool false)
                                else
                                  bT x fun b =>
                                    bif b then
                                      bT y_3 fun b =>
                                        bif b then Res.bind (callP env N 26 [y, y_2]) fun x => Res.ok x
                                        else Res.ok (T.bool false)
                                    else Res.ok (T.bool false)) else .absurd := by kernel_rfl

end Go.Sim
