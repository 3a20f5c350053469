/- What the functions of layer 18 answer: Apply. -/
import Derived.Test.YtmidmdabmalhgaaS3
import Derived.Test.YtmidmdabmalhgaaQ2
namespace Go.Sim
open Go.RowKit Go.Proofs
set_option linter.unusedVariables false
set_option linter.unusedSimpArgs false
set_option maxRecDepth 100000

def goneE (l : List En) (x : Px) : List En := bif thereE l x then l.take (placeE l x) ++ l.drop (placeE l x + 1) else l
def newE (p : Pa) (l : List En) (x : Px) : List En := bif psane x && asane p then (bif thereE l x then l.set (placeE l x) ⟨x, p⟩ else l.take (placeE l x) ++ [⟨x, p⟩] ++ l.drop (placeE l x)) else l
def applyE (t : List En) (n : Nw) : List En := n.m.foldl (newE n.p) (n.g.foldl goneE (known t))

def A21 (l : List En) (n : Nw) (k : Int) (i : Nat) : St := ⟨slots 82 [(0, .own 0), (2, .t (i64 k)), (4, .ptr 1 0), (21, .t (.sl 2 (n.g.map Px.t))), (22, .t (i64 ((n.g.map Px.t).length : Int))), (23, .t (i64 (i : Int)))], [.row 64 6 (l.map En.t), .box 45 6 (.t (.agg [.sl 2 (n.g.map Px.t), i64 n.p.o, .sl 1 (ints n.p.s), i64 n.p.h, i64 n.p.c, .sl 2 (n.m.map Px.t)]))]⟩
def B21 (l : List En) (n : Nw) (k : Int) (i : Nat) : St := ⟨slots 82 [(0, .own 0), (2, .t (i64 k)), (4, .ptr 1 0), (41, .t (.sl 2 (n.m.map Px.t))), (42, .t (i64 ((n.m.map Px.t).length : Int))), (43, .t (i64 (i : Int)))], [.row 64 6 (l.map En.t), .box 45 6 (.t (.agg [.sl 2 (n.g.map Px.t), i64 n.p.o, .sl 1 (ints n.p.s), i64 n.p.h, i64 n.p.c, .sl 2 (n.m.map Px.t)]))]⟩

theorem chk_true {β : Type} {b : Bool} {r : Res β} (h : b = true) : chk b r = r := by subst h; rfl

theorem b21_gone {N : Nat} {l : List En} {n : Nw} {k : Int} {i : Nat} {x : Px} (hx : n.g[i]? = some x) (hxo : x.ok) (hg : n.g.length ≤ big) (hl : l.length ≤ big) (hs : ∀ e ∈ l, e.ok) (hN : big + 8 ≤ N) :
    bodyL env (N + 1) 21 0 3 (A21 l n k i) = .ok (.norm, A21 (goneE l x) n k (i + 1)) := by
  have hi : i < n.g.length := (List.getElem?_eq_some_iff.1 hx).1
  have hf := f44_ok (M := N) (l := l) (x := x) (by omega) hl hs hxo
  unfold A21
  rw [b21_3, decide_eq_true (show ((i : Int) < ((n.g.map Px.t).length : Int)) by rw [List.length_map]; omega)]
  simp only [cond_true]
  rw [atT_get (map_get hx)]
  rw [hf]
  have hc : (Px.t x).cells.length = 2 := rfl
  have ht : (Px.t x).isTup = false := rfl
  simp only [hc, ht, Res.bind_ok, wrap_succ (show i ≤ big by omega)]
  generalize hxs : l.map En.t = xs
  have hxl : xs.length = l.length := by rw [← hxs]; simp
  have hpl : (T.tup [i64 (placeE l x : Int), .bool (thereE l x)]).plain = true := rfl
  rw [hpl]
  simp only [beq_self_eq_true, Bool.not_false, chk, cond_true, compT, List.getElem?_cons_zero, List.getElem?_cons_succ, bT]
  unfold goneE
  cases hth : thereE l x with
  | false => simp only [cond_false, hxs]
  | true =>
    have hp := thereE_lt hth
    generalize placeE l x = p at hp
    simp only [cond_true, iT_int, anyT, wrap_succ (show p ≤ big by omega)]
    have hp' : p < xs.length := by omega
    have hD : (xs.drop (p + 1)).length = xs.length - (p + 1) := by simp
    have hS : (spliceT xs p (xs.drop (p + 1))).length = xs.length := by unfold spliceT; rw [splice_len _ _ rfl (by rw [hD]; omega)]
    have hne : ((p : Int) == ((p + 1 : Nat) : Int)) = false := beq_eq_false_iff_ne.2 (by omega)
    simp only [Nat.zero_add, Nat.add_zero, Nat.sub_zero, Int.toNat_natCast, List.take_length, hne, cond_false, hD, hS]
    rw [decide_eq_true (show (xs.length : Int) ≤ (xs.length : Int) by omega), decide_eq_true (show (0 : Int) ≤ ((p + 1 : Nat) : Int) by omega), decide_eq_true (show ((p + 1 : Nat) : Int) ≤ (xs.length : Int) by omega), decide_eq_true (show (0 : Int) ≤ (p : Int) by omega), decide_eq_true (show (p : Int) ≤ ((p + 1 : Nat) : Int) by omega), decide_eq_true (show (p : Int) ≤ (xs.length : Int) by omega),
      decide_eq_true (show p + 1 ≤ xs.length by omega), decide_eq_true (show xs.length ≤ xs.length by omega), decide_eq_true (show p + (xs.length - (p + 1)) ≤ xs.length by omega)]
    simp only [cond_true]
    rw [decide_eq_true (show ((p + (xs.length - (p + 1)) : Nat) : Int) ≤ (xs.length : Int) by omega)]
    rw [decide_eq_true (show p + (xs.length - (p + 1)) ≤ (spliceT (spliceT xs p (List.drop (p + 1) xs)) (p + (xs.length - (p + 1))) (List.replicate (xs.length - (p + (xs.length - (p + 1)))) (T.agg [i64 0, i64 0, i64 0, T.sl env.P.types[3].size [], i64 0, i64 0]))).length by
      rw [show ∀ (ys zs : List T) (a : Nat), a + zs.length ≤ ys.length → (spliceT ys a zs).length = ys.length from fun ys zs a h => by unfold spliceT; exact splice_len _ _ rfl h]
      · rw [hS]; omega
      · rw [hS, List.length_replicate]; omega)]
    have htake : ∀ zs : List T, List.take (p + (xs.length - (p + 1))) (spliceT (spliceT xs p (List.drop (p + 1) xs)) (p + (xs.length - (p + 1))) zs) = List.map En.t (List.take p l ++ List.drop (p + 1) l) := fun zs => by
      have e1 : (xs.take p ++ xs.drop (p + 1)).length = p + (xs.length - (p + 1)) := by simp; omega
      have e2 : List.take (p + (xs.length - (p + 1))) (spliceT xs p (List.drop (p + 1) xs)) = xs.take p ++ xs.drop (p + 1) := by
        unfold spliceT
        rw [List.take_append_of_le_length (by rw [e1]; omega)]
        exact List.take_of_length_le (by rw [e1]; omega)
      have e3 : ∀ ys : List T, p + (xs.length - (p + 1)) ≤ ys.length → List.take (p + (xs.length - (p + 1))) (spliceT ys (p + (xs.length - (p + 1))) zs) = List.take (p + (xs.length - (p + 1))) ys := fun ys hy => by
        unfold spliceT
        rw [List.append_assoc, List.take_append_of_le_length (by rw [List.length_take]; omega)]
        rw [List.take_take, Nat.min_self]
      rw [e3 _ (by rw [hS]; omega), e2, ← hxs]
      simp [List.map_take, List.map_drop]
    simp only [cond_true, htake]

theorem okE_en (e : En) : T.okE 6 e.t = true := rfl
theorem b21_new {N : Nat} {l : List En} {n : Nw} {k : Int} {i : Nat} {x : Px} (hx : n.m[i]? = some x) (hxo : x.ok) (hno : n.p.ok) (hg : n.m.length ≤ big) (hl : (l.length + 1) * 64 ≤ big) (hs : ∀ e ∈ l, e.ok) (hN : big + 8 ≤ N) :
    bodyL env (N + 1) 21 0 10 (B21 l n k i) = .ok (.norm, B21 (newE n.p l x) n k (i + 1)) := by
  have hi : i < n.m.length := (List.getElem?_eq_some_iff.1 hx).1
  have hf := f44_ok (M := N) (l := l) (x := x) (by omega) (by omega) hs hxo
  have h32 := f32_ok (M := N) (x := x) hxo (by omega)
  have h33 := f33_ok (M := N) (p := n.p) hno (by omega)
  unfold B21
  rw [b21_10, decide_eq_true (show ((i : Int) < ((n.m.map Px.t).length : Int)) by rw [List.length_map]; omega)]
  simp only [cond_true]
  rw [atT_get (map_get hx)]
  rw [h32]
  have hc : (Px.t x).cells.length = 2 := rfl
  have ht : (Px.t x).isTup = false := rfl
  have e0 : (Px.t x).cell 0 = i64 x.a := rfl
  have e1 : (Px.t x).cell 1 = i64 x.n := rfl
  simp only [hc, ht, e0, e1, Res.bind_ok, bT_bool, wrap_succ (show i ≤ big by omega), List.drop, List.take]
  rw [show T.agg [i64 n.p.o, T.sl 1 (ints n.p.s), i64 n.p.h, i64 n.p.c] = n.p.t from rfl, h33, hf]
  have hpl : (T.tup [i64 (placeE l x : Int), .bool (thereE l x)]).plain = true := rfl
  have hen : T.agg [i64 x.a, i64 x.n, i64 n.p.o, T.sl 1 (ints n.p.s), i64 n.p.h, i64 n.p.c] = En.t ⟨x, n.p⟩ := rfl
  simp only [Res.bind_ok, bT_bool]
  rw [hpl, hen]
  simp only [beq_self_eq_true, Bool.not_false, chk, cond_true, Res.bind_ok, bT_bool, compT, List.getElem?_cons_zero, List.getElem?_cons_succ]
  unfold newE
  have hpe := placeE_le l x
  cases hps : psane x with
  | false => rfl
  | true =>
  cases has : asane n.p with
  | false => rfl
  | true =>
  simp only [Bool.not_true, cond_false, Bool.and_self, cond_true]
  cases hth : thereE l x with
  | true =>
    have hp := thereE_lt hth
    generalize placeE l x = p at hp hpe
    simp only [cond_true, anyT]
    rw [decide_eq_true (show (0 : Int) ≤ (p : Int) by omega), decide_eq_true (show (p : Int) < ((l.map En.t).length : Int) by rw [List.length_map]; omega)]
    simp only [cond_true, Int.toNat_natCast, List.map_set]
  | false =>
    generalize placeE l x = p at hpe
    simp only [cond_false, chkAll, okE_en, chk, cond_true]
    have hins : insG 64 6 64 [AObj.row 64 6 (l.map En.t), AObj.box 45 6 (PV.t (T.agg [T.sl 2 (n.g.map Px.t), i64 n.p.o, T.sl 1 (ints n.p.s), i64 n.p.h, i64 n.p.c, T.sl 2 (n.m.map Px.t)])), AObj.box 35 2 (PV.t x.t), AObj.box 64 6 (PV.t (En.t ⟨x, n.p⟩)), AObj.row 64 6 [En.t ⟨x, n.p⟩]] (l.map En.t)
        [PV.t (i64 (p : Int)), PV.own 4] = .ok ((l.take p ++ [(⟨x, n.p⟩ : En)] ++ l.drop p).map En.t) := by
      simp only [insG, List.getElem?_cons_succ, List.getElem?_cons_zero]
      rw [decide_eq_true (show (0 : Int) ≤ (p : Int) by omega), decide_eq_true (show (p : Int) ≤ ((l.map En.t).length : Int) by rw [List.length_map]; omega), decide_eq_true (show ((l.map En.t).length + [En.t ⟨x, n.p⟩].length) * 64 ≤ big by rw [List.length_map]; exact hl)]
      simp [List.map_take, List.map_drop]
    rw [show List.length [AObj.row 64 6 (l.map En.t), AObj.box 45 6 (PV.t (T.agg [T.sl 2 (n.g.map Px.t), i64 n.p.o, T.sl 1 (ints n.p.s), i64 n.p.h, i64 n.p.c, T.sl 2 (n.m.map Px.t)])), AObj.box 35 2 (PV.t x.t), AObj.box 64 6 (PV.t (En.t ⟨x, n.p⟩))] = 4 from rfl, hins]
    simp only [Res.bind_ok]
end Go.Sim
