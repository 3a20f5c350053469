/- What calls come to: printed by a program of ours (wip/tools/eqs.py): the rounds of ribin.Apply. -/
import Derived.Test.YtmidmdabmalhgaaR0
namespace Go.Sim
open Go.RowKit Go.Proofs
set_option linter.unusedVariables false
set_option maxRecDepth 100000

theorem b21_3 (N : Nat) (xs g m : List T) (o h c k : Int) (s : List T) (i : Nat) : bodyL env (N + 1) 21 0 3 ⟨slots 82 [(0, .own 0), (2, .t (i64 k)), (4, .ptr 1 0), (21, .t (.sl 2 g)), (22, .t (i64 (g.length : Int))), (23, .t (i64 (i : Int)))], [.row 64 6 xs, .box 45 6 (.t (.agg [.sl 2 g, i64 o, .sl 1 s, i64 h, i64 c, .sl 2 m]))]⟩ = bif decide ((↑i : Int) < (↑(List.length g) : Int)) then
  atT g (↑i : Int) fun e =>
    chk
      (match List.length (T.cells e) == 2 with
      | false => false
      | true =>
        (!(T.isTup e)))
      (Res.bind (callP env (N + 1) 44 [T.sl 6 xs, e]) fun x =>
        chk (T.plain x)
          (compT x 0 fun y =>
            compT x 1 fun y_1 =>
              bT y_1 fun v =>
                bif v then
                  iT IntKind.i64 y fun a =>
                    chk (decide ((↑(List.length xs) : Int) ≤ (↑(List.length xs) : Int)))
                      (chk
                        (match decide (0 ≤ IntKind.wrap IntKind.i64 (a + 1)) with
                        | false => false
                        | true =>
                          decide (IntKind.wrap IntKind.i64 (a + 1) ≤ (↑(Int.toNat (↑(List.length xs) : Int)) : Int)))
                        (anyT y fun i_1 =>
                          chk
                            (match decide (0 ≤ i_1) with
                            | false => false
                            | true => decide (i_1 ≤ (↑(Int.toNat (IntKind.wrap IntKind.i64 (a + 1))) : Int)))
                            (iT IntKind.i64 y fun a_1 =>
                              bif a_1 == IntKind.wrap IntKind.i64 (a + 1) then
                                Res.ok
                                  (Ex.norm,
                                    {
                                      tmps :=
                                        slots 82
                                          [(0, PV.own 0), (2, PV.t (i64 k)), (4, PV.ptr 1 0),
                                            (21, PV.t (T.sl 2 g)),
                                            (22, PV.t (i64 (↑(List.length g) : Int))),
                                            (23,
                                              PV.t
                                                (i64
                                                  (IntKind.wrap IntKind.i64 ((↑i : Int) + 1))))],
                                      heap :=
                                        [AObj.row 64 6 xs,
                                          AObj.box 45 6
                                            (PV.t
                                              (T.agg
                                                [T.sl 2 g, i64 o, T.sl 1 s, i64 h,
                                                  i64 c, T.sl 2 m]))] })
                              else
                                anyT y fun i_2 =>
                                  chk
                                    (match decide (0 ≤ i_2) with
                                    | false => false
                                    | true => decide (i_2 ≤ (↑(List.length xs - 0) : Int)))
                                    (chk
                                      (match decide (0 ≤ IntKind.wrap IntKind.i64 (a + 1)) with
                                      | false => false
                                      | true =>
                                        decide (IntKind.wrap IntKind.i64 (a + 1) ≤ (↑(List.length xs - 0) : Int)))
                                      (bif
                                          match
                                            decide
                                              (0 + Int.toNat (IntKind.wrap IntKind.i64 (a + 1)) ≤
                                                0 + (List.length xs - 0)) with
                                          | false => false
                                          | true => decide (0 + (List.length xs - 0) ≤ List.length xs) then
                                        chk
                                          (decide
                                            (0 + Int.toNat i_2 +
                                                List.length
                                                  (List.drop (0 + Int.toNat (IntKind.wrap IntKind.i64 (a + 1)))
                                                    (List.take (0 + (List.length xs - 0)) xs)) ≤
                                              List.length xs))
                                          (chk
                                            (decide
                                              ((↑(List.length xs) : Int) ≤
                                                (↑(List.length (spliceT xs (0 + Int.toNat i_2) (List.drop (0 + Int.toNat (IntKind.wrap IntKind.i64 (a + 1))) (List.take (0 + (List.length xs - 0)) xs))) - 0) : Int)))
                                            (chk
                                              (decide
                                                ((↑(0 + Int.toNat i_2 +
                                                          List.length
                                                            (List.drop
                                                              (0 + Int.toNat (IntKind.wrap IntKind.i64 (a + 1)))
                                                              (List.take (0 + (List.length xs - 0)) xs)) -
                                                        (0 + 0)) :
                                                    Int) ≤
                                                  (↑(Int.toNat (↑(List.length xs) : Int)) : Int)))
                                              (chk
                                                (match
                                                  decide
                                                    (0 + 0 +
                                                        Int.toNat
                                                          (↑(0 + Int.toNat i_2 +
                                                                  List.length
                                                                    (List.drop
                                                                      (0 + Int.toNat (IntKind.wrap IntKind.i64 (a + 1)))
                                                                      (List.take (0 + (List.length xs - 0)) xs)) -
                                                                (0 + 0)) :
                                                            Int) ≤
                                                      0 + 0 + Int.toNat (↑(List.length xs) : Int)) with
                                                | false => false
                                                | true =>
                                                  decide
                                                    (0 + 0 + Int.toNat (↑(List.length xs) : Int) ≤
                                                      List.length
                                                        (spliceT xs (0 + Int.toNat i_2)
                                                          (List.drop (0 + Int.toNat (IntKind.wrap IntKind.i64 (a + 1)))
                                                            (List.take (0 + (List.length xs - 0)) xs)))))
                                                (bif
                                                    decide
                                                      (0 + Int.toNat i_2 +
                                                          List.length
                                                            (List.drop
                                                              (0 + Int.toNat (IntKind.wrap IntKind.i64 (a + 1)))
                                                              (List.take (0 + (List.length xs - 0)) xs)) ≤
                                                        List.length
                                                          (spliceT
                                                            (spliceT xs (0 + Int.toNat i_2)
                                                              (List.drop
                                                                (0 + Int.toNat (IntKind.wrap IntKind.i64 (a + 1)))
                                                                (List.take (0 + (List.length xs - 0)) xs)))
                                                            (0 + 0 +
                                                              Int.toNat
                                                                (↑(0 + Int.toNat i_2 +
                                                                        List.length
                                                                          (List.drop
                                                                            (0 +
                                                                              Int.toNat
                                                                                (IntKind.wrap IntKind.i64 (a + 1)))
                                                                            (List.take (0 + (List.length xs - 0)) xs)) -
                                                                      (0 + 0)) :
                                                                  Int))
                                                            (List.replicate
                                                              (0 + 0 + Int.toNat (↑(List.length xs) : Int) -
                                                                (0 + 0 +
                                                                  Int.toNat
                                                                    (↑(0 + Int.toNat i_2 +
                                                                            List.length
                                                                              (List.drop
                                                                                (0 +
                                                                                  Int.toNat
                                                                                    (IntKind.wrap IntKind.i64 (a + 1)))
                                                                                (List.take (0 + (List.length xs - 0))
                                                                                  xs)) -
                                                                          (0 + 0)) :
                                                                      Int)))
                                                              (T.agg
                                                                [i64 0, i64 0,
                                                                  i64 0,
                                                                  T.sl
                                                                    ((fun x => TypeInfo.size x)
                                                                      (Tables.types (Program.toTables (Env.P env)))[3])
                                                                    [],
                                                                  i64 0, i64 0])))) then
                                                  Res.ok
                                                    (Ex.norm,
                                                      {
                                                        tmps :=
                                                          slots 82
                                                            [(0, PV.own 0), (2, PV.t (i64 k)),
                                                              (4, PV.ptr 1 0), (21, PV.t (T.sl 2 g)),
                                                              (22, PV.t (i64 (↑(List.length g) : Int))),
                                                              (23,
                                                                PV.t
                                                                  (i64
                                                                    (IntKind.wrap IntKind.i64
                                                                      ((↑i : Int) + 1))))],
                                                        heap :=
                                                          [AObj.row 64 6
                                                              (List.take
                                                                (0 + Int.toNat i_2 +
                                                                  List.length
                                                                    (List.drop
                                                                      (0 +
                                                                        Int.toNat
                                                                          (IntKind.wrap IntKind.i64 (a + 1)))
                                                                      (List.take (0 + (List.length xs - 0)) xs)))
                                                                (spliceT
                                                                  (spliceT xs (0 + Int.toNat i_2)
                                                                    (List.drop
                                                                      (0 +
                                                                        Int.toNat
                                                                          (IntKind.wrap IntKind.i64 (a + 1)))
                                                                      (List.take (0 + (List.length xs - 0)) xs)))
                                                                  (0 +
                                                                    Int.toNat
                                                                      (↑(0 + Int.toNat i_2 +
                                                                              List.length
                                                                                (List.drop
                                                                                  (0 +
                                                                                    Int.toNat
                                                                                      (IntKind.wrap IntKind.i64
                                                                                        (a + 1)))
                                                                                  (List.take (0 + (List.length xs - 0))
                                                                                    xs)) -
                                                                            0) :
                                                                        Int))
                                                                  (List.replicate
                                                                    (0 + Int.toNat (↑(List.length xs) : Int) -
                                                                      (0 +
                                                                        Int.toNat
                                                                          (↑(0 + Int.toNat i_2 +
                                                                                  List.length
                                                                                    (List.drop
                                                                                      (0 +
                                                                                        Int.toNat
                                                                                          (IntKind.wrap IntKind.i64
                                                                                            (a + 1)))
                                                                                      (List.take
                                                                                        (0 + (List.length xs - 0))
                                                                                        xs)) -
                                                                                0) :
                                                                            Int)))
                                                                    (T.agg
                                                                      [i64 (0),
                                                                        i64 (0),
                                                                        i64 (0), T.sl 1 [],
                                                                        i64 (0),
                                                                        i64 (0)])))),
                                                            AObj.box 45 6
                                                              (PV.t
                                                                (T.agg
                                                                  [T.sl 2 g, i64 o, T.sl 1 s,
                                                                    i64 h, i64 c,
                                                                    T.sl 2 m]))] })
                                                else
                                                  Res.ok
                                                    (Ex.norm,
                                                      {
                                                        tmps :=
                                                          slots 82
                                                            [(0,
                                                                PV.view 0 6 0
                                                                  (0 + Int.toNat i_2 +
                                                                    List.length
                                                                      (List.drop
                                                                        (0 +
                                                                          Int.toNat
                                                                            (IntKind.wrap IntKind.i64
                                                                              (a + 1)))
                                                                        (List.take (0 + (List.length xs - 0)) xs)))),
                                                              (2, PV.t (i64 k)), (4, PV.ptr 1 0),
                                                              (21, PV.t (T.sl 2 g)),
                                                              (22, PV.t (i64 (↑(List.length g) : Int))),
                                                              (23,
                                                                PV.t
                                                                  (i64
                                                                    (IntKind.wrap IntKind.i64
                                                                      ((↑i : Int) + 1))))],
                                                        heap :=
                                                          [AObj.row 64 6
                                                              (spliceT
                                                                (spliceT xs (0 + Int.toNat i_2)
                                                                  (List.drop
                                                                    (0 +
                                                                      Int.toNat
                                                                        (IntKind.wrap IntKind.i64 (a + 1)))
                                                                    (List.take (0 + (List.length xs - 0)) xs)))
                                                                (0 +
                                                                  Int.toNat
                                                                    (↑(0 + Int.toNat i_2 +
                                                                            List.length
                                                                              (List.drop
                                                                                (0 +
                                                                                  Int.toNat
                                                                                    (IntKind.wrap IntKind.i64
                                                                                      (a + 1)))
                                                                                (List.take (0 + (List.length xs - 0))
                                                                                  xs)) -
                                                                          0) :
                                                                      Int))
                                                                (List.replicate
                                                                  (0 + Int.toNat (↑(List.length xs) : Int) -
                                                                    (0 +
                                                                      Int.toNat
                                                                        (↑(0 + Int.toNat i_2 +
                                                                                List.length
                                                                                  (List.drop
                                                                                    (0 +
                                                                                      Int.toNat
                                                                                        (IntKind.wrap IntKind.i64
                                                                                          (a + 1)))
                                                                                    (List.take
                                                                                      (0 + (List.length xs - 0)) xs)) -
                                                                              0) :
                                                                          Int)))
                                                                  (T.agg
                                                                    [i64 (0),
                                                                      i64 (0),
                                                                      i64 (0), T.sl 1 [],
                                                                      i64 (0),
                                                                      i64 (0)]))),
                                                            AObj.box 45 6
                                                              (PV.t
                                                                (T.agg
                                                                  [T.sl 2 g, i64 o, T.sl 1 s,
                                                                    i64 h, i64 c,
                                                                    T.sl 2 m]))] })))))
                                      else Res.stuck)))))
                else
                  Res.ok
                    (Ex.norm,
                      {
                        tmps :=
                          slots 82
                            [(0, PV.own 0), (2, PV.t (i64 k)), (4, PV.ptr 1 0), (21, PV.t (T.sl 2 g)),
                              (22, PV.t (i64 (↑(List.length g) : Int))),
                              (23, PV.t (i64 (IntKind.wrap IntKind.i64 ((↑i : Int) + 1))))],
                        heap :=
                          [AObj.row 64 6 xs,
                            AObj.box 45 6
                              (PV.t
                                (T.agg
                                  [T.sl 2 g, i64 o, T.sl 1 s, i64 h, i64 c,
                                    T.sl 2 m]))] })))
else
  Res.ok
    (Ex.exit 0,
      { tmps := slots 82 [(0, PV.own 0), (2, PV.t (i64 k)), (4, PV.ptr 1 0)],
        heap :=
          [AObj.row 64 6 xs,
            AObj.box 45 6
              (PV.t
                (T.agg
                  [T.sl 2 g, i64 o, T.sl 1 s, i64 h, i64 c, T.sl 2 m]))] }) := by kernel_rfl
theorem b21_10 (N : Nat) (xs g m : List T) (o h c k : Int) (s : List T) (i : Nat) : bodyL env (N + 1) 21 0 10 ⟨slots 82 [(0, .own 0), (2, .t (i64 k)), (4, .ptr 1 0), (41, .t (.sl 2 m)), (42, .t (i64 (m.length : Int))), (43, .t (i64 (i : Int)))], [.row 64 6 xs, .box 45 6 (.t (.agg [.sl 2 g, i64 o, .sl 1 s, i64 h, i64 c, .sl 2 m]))]⟩ = bif decide ((↑i : Int) < (↑(List.length m) : Int)) then
  atT m (↑i : Int) fun e =>
    chk
      (match List.length (T.cells e) == 2 with
      | false => false
      | true =>
        (!(T.isTup e)))
      (Res.bind (callP env (N + 1) 32 [e]) fun x =>
        bT x fun b =>
          bif
              (!(b)) then
            Res.ok
              (Ex.norm,
                {
                  tmps :=
                    slots 82
                      [(0, PV.own 0), (2, PV.t (i64 k)), (4, PV.ptr 1 0), (41, PV.t (T.sl 2 m)),
                        (42, PV.t (i64 (↑(List.length m) : Int))),
                        (43, PV.t (i64 (IntKind.wrap IntKind.i64 ((↑i : Int) + 1))))],
                  heap :=
                    [AObj.row 64 6 xs,
                      AObj.box 45 6
                        (PV.t
                          (T.agg
                            [T.sl 2 g, i64 o, T.sl 1 s, i64 h, i64 c,
                              T.sl 2 m]))] })
          else
            Res.bind
              (callP env (N + 1) 33
                [T.agg
                    (List.take 4
                      (List.drop 1
                        [T.sl 2 g, i64 o, T.sl 1 s, i64 h, i64 c,
                          T.sl 2 m]))])
              fun x =>
              bT x fun b =>
                bif
                    (!(b)) then
                  Res.ok
                    (Ex.norm,
                      {
                        tmps :=
                          slots 82
                            [(0, PV.own 0), (2, PV.t (i64 k)), (4, PV.ptr 1 0), (41, PV.t (T.sl 2 m)),
                              (42, PV.t (i64 (↑(List.length m) : Int))),
                              (43, PV.t (i64 (IntKind.wrap IntKind.i64 ((↑i : Int) + 1))))],
                        heap :=
                          [AObj.row 64 6 xs,
                            AObj.box 45 6
                              (PV.t
                                (T.agg
                                  [T.sl 2 g, i64 o, T.sl 1 s, i64 h, i64 c,
                                    T.sl 2 m]))] })
                else
                  chk
                    (match List.length (T.cells e) == 2 with
                    | false => false
                    | true =>
                      (!(T.isTup e)))
                    (Res.bind (callP env (N + 1) 44 [T.sl 6 xs, e]) fun x =>
                      chk (T.plain x)
                        (compT x 0 fun y =>
                          compT x 1 fun y_1 =>
                            bT y_1 fun v =>
                              bif v then
                                anyT y fun i_1 =>
                                  chk
                                    (match decide (0 ≤ i_1) with
                                    | false => false
                                    | true => decide (i_1 < (↑(List.length xs) : Int)))
                                    (Res.ok
                                      (Ex.norm,
                                        {
                                          tmps :=
                                            slots 82
                                              [(0, PV.own 0), (2, PV.t (i64 k)), (4, PV.ptr 1 0),
                                                (41, PV.t (T.sl 2 m)),
                                                (42, PV.t (i64 (↑(List.length m) : Int))),
                                                (43,
                                                  PV.t
                                                    (i64
                                                      (IntKind.wrap IntKind.i64 ((↑i : Int) + 1))))],
                                          heap :=
                                            [AObj.row 64 6
                                                (List.set xs (Int.toNat i_1)
                                                  (T.agg
                                                    [T.cell e 0, T.cell e 1, i64 o, T.sl 1 s,
                                                      i64 h, i64 c])),
                                              AObj.box 45 6
                                                (PV.t
                                                  (T.agg
                                                    [T.sl 2 g, i64 o, T.sl 1 s, i64 h,
                                                      i64 c, T.sl 2 m]))] }))
                              else
                                chkAll (T.okE 6)
                                  [T.agg
                                      [T.cell e 0, T.cell e 1, i64 o, T.sl 1 s, i64 h,
                                        i64 c]]
                                  (Res.bind
                                    (insG 64 6 64
                                      [AObj.row 64 6 xs,
                                        AObj.box 45 6
                                          (PV.t
                                            (T.agg
                                              [T.sl 2 g, i64 o, T.sl 1 s, i64 h,
                                                i64 c, T.sl 2 m])),
                                        AObj.box 35 2 (PV.t e),
                                        AObj.box 64 6
                                          (PV.t
                                            (T.agg
                                              [T.cell e 0, T.cell e 1, i64 o, T.sl 1 s,
                                                i64 h, i64 c])),
                                        AObj.row 64 6
                                          [T.agg
                                              [T.cell e 0, T.cell e 1, i64 o, T.sl 1 s,
                                                i64 h, i64 c]]]
                                      xs
                                      [PV.t y,
                                        PV.own
                                          (List.length
                                            [AObj.row 64 6 xs,
                                              AObj.box 45 6
                                                (PV.t
                                                  (T.agg
                                                    [T.sl 2 g, i64 o, T.sl 1 s, i64 h,
                                                      i64 c, T.sl 2 m])),
                                              AObj.box 35 2 (PV.t e),
                                              AObj.box 64 6
                                                (PV.t
                                                  (T.agg
                                                    [T.cell e 0, T.cell e 1, i64 o, T.sl 1 s,
                                                      i64 h, i64 c]))])])
                                    fun ys =>
                                    Res.ok
                                      (Ex.norm,
                                        {
                                          tmps :=
                                            slots 82
                                              [(0, PV.own 0), (2, PV.t (i64 k)), (4, PV.ptr 1 0),
                                                (41, PV.t (T.sl 2 m)),
                                                (42, PV.t (i64 (↑(List.length m) : Int))),
                                                (43,
                                                  PV.t
                                                    (i64
                                                      (IntKind.wrap IntKind.i64 ((↑i : Int) + 1))))],
                                          heap :=
                                            [AObj.row 64 6 ys,
                                              AObj.box 45 6
                                                (PV.t
                                                  (T.agg
                                                    [T.sl 2 g, i64 o, T.sl 1 s, i64 h,
                                                      i64 c, T.sl 2 m]))] })))))
else
  Res.ok (Ex.exit 2, { tmps := slots 82 [(0, PV.own 0), (2, PV.t (i64 k))], heap := [AObj.row 64 6 xs] }) := by kernel_rfl
end Go.Sim
