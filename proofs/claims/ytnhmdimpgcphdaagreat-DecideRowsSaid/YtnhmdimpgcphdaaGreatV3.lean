/- The texts of a proof, one behind the other: an interpreter and its soundness, what the functions of the program answer, and plain laws on that. -/
import Derived.Test.YtnhmdimpgcphdaaGreatV2
import Derived.Test.YtnhmdimpgcphdaaGreatV1
import Derived.Test.YtnhmdimpgcphdaaGreatK3
import Derived.Test.YtnhmdimpgcphdaaGreatProg
import Derived.Shelf.SlSortCmp.WholeK
import Derived.Lib.QuietBelow
set_option linter.unusedVariables false
set_option linter.unusedSimpArgs false
set_option linter.unnecessarySimpa false
set_option linter.unusedSectionVars false
/- What the document's layers 2, 7, 9, 10, 12, 13 answer: the same as the program's. -/
namespace Go.Sim
open Go.RowKit Go.Proofs
set_option linter.unusedVariables false
set_option linter.unusedSimpArgs false
set_option linter.unusedSectionVars false
set_option maxRecDepth 100000

theorem seekI_min {p : Nat → Bool} : ∀ {k i j : Nat}, seekI p i k = some j → ∀ m, i ≤ m → m < j → p m = false
  | 0, i, j, h, m, a, b => by simp [seekI] at h
  | k + 1, i, j, h, m, a, b => by
    cases hp : p i with
    | true => simp [seekI, hp] at h; omega
    | false =>
      simp only [seekI, hp, cond_false] at h
      rcases Nat.lt_or_ge i m with c | c
      · exact seekI_min h m (by omega) b
      · have : m = i := by omega
        subst this; exact hp
def sizeI (n : Int) : Int := 2 ^ (32 - max n 0).toNat
theorem pow_le32 {s : Nat} (h : s ≤ 32) : (2 : Int) ^ s ≤ 4294967296 ∧ 0 < (2 : Int) ^ s := by
  constructor
  · have : (2 : Int) ^ s ≤ 2 ^ 32 := by exact_mod_cast Nat.pow_le_pow_right (by omega) h
    simpa using this
  · exact_mod_cast Nat.pow_pos (by omega : 0 < 2)
theorem and_range (a : Int) : 0 ≤ ((BitVec.toNat (BitVec.ofInt 64 a &&& BitVec.ofInt 64 4294967295) : Nat) : Int) ∧ ((BitVec.toNat (BitVec.ofInt 64 a &&& BitVec.ofInt 64 4294967295) : Nat) : Int) ≤ 4294967295 := by
  have h : BitVec.toNat (BitVec.ofInt 64 a &&& BitVec.ofInt 64 4294967295) ≤ 4294967295 := by
    rw [BitVec.toNat_and]
    exact Nat.le_trans Nat.and_le_right (by decide)
  omega
theorem mask_eq {a n : Int} (h0 : 0 ≤ n) (h1 : n ≤ 32) : maskI a n = ((BitVec.toNat (BitVec.ofInt 64 a &&& BitVec.ofInt 64 4294967295) : Nat) : Int) / 2 ^ (32 - n).toNat * 2 ^ (32 - n).toNat := by
  have hx := and_range a
  have hs : shiftI n = 32 - n := by rw [shiftI_eq]; omega
  unfold maskI
  rw [hs, Nat.min_eq_left (show (32 - n).toNat ≤ 64 by omega)]
  generalize ((BitVec.toNat (BitVec.ofInt 64 a &&& BitVec.ofInt 64 4294967295) : Nat) : Int) = y at hx ⊢
  obtain ⟨p1, p2⟩ := pow_le32 (s := (32 - n).toNat) (by omega)
  generalize (2 : Int) ^ (32 - n).toNat = p at p1 p2 ⊢
  have e1 : IntKind.i64.wrap y = y := wrap64 (by omega)
  rw [e1, Int.fdiv_eq_ediv_of_nonneg y (by omega)]
  have q1 := Int.ediv_mul_le y (show p ≠ 0 by omega)
  have q2 : 0 ≤ y / p * p := Int.mul_nonneg (Int.ediv_nonneg hx.1 (by omega)) (by omega)
  rw [wrap64 (by omega)]
theorem mask_range {a n : Int} (h0 : 0 ≤ n) (h1 : n ≤ 32) : 0 ≤ maskI a n ∧ maskI a n ≤ 4294967295 := by
  rw [mask_eq h0 h1]
  have hx := and_range a
  generalize ((BitVec.toNat (BitVec.ofInt 64 a &&& BitVec.ofInt 64 4294967295) : Nat) : Int) = y at hx ⊢
  obtain ⟨p1, p2⟩ := pow_le32 (s := (32 - n).toNat) (by omega)
  generalize (2 : Int) ^ (32 - n).toNat = p at p1 p2 ⊢
  have q1 := Int.ediv_mul_le y (show p ≠ 0 by omega)
  have q2 : 0 ≤ y / p * p := Int.mul_nonneg (Int.ediv_nonneg hx.1 (by omega)) (by omega)
  omega
theorem fresh_iff {α κ : Type} [DecidableEq κ] {kf : α → κ} {q : α → Bool} : ∀ {l : List α} {s : List κ}, freshB kf q s l = true ↔ ∀ (i : Nat) (x : α), l[i]? = some x → (s ++ (l.take i).map kf).contains (kf x) = false ∧ q x = true
  | [], s => by simp [freshB]
  | y :: l, s => by
    unfold freshB
    rw [Bool.and_eq_true, Bool.and_eq_true, fresh_iff]
    constructor
    · rintro ⟨h1, h2, h3⟩ i x hx
      cases i with
      | zero =>
        simp only [List.getElem?_cons_zero, Option.some.injEq] at hx
        subst hx
        refine ⟨?_, h2⟩
        simpa using h1
      | succ i =>
        have := h3 i x (by simpa using hx)
        rw [List.take_succ_cons, List.map_cons]
        rw [List.append_assoc] at this
        exact this
    · intro h
      have h0 := h 0 y rfl
      refine ⟨by simpa using h0.1, h0.2, fun i x hx => ?_⟩
      have := h (i + 1) x (by simpa using hx)
      rw [List.take_succ_cons, List.map_cons] at this
      rw [List.append_assoc]
      exact this
variable [Lv]
theorem f128_ok {M : Nat} {n : Int} (hM : 40 ≤ M) (hn : ok64 n = true) : callP env (M + 1) 128 [i64 n] = .ok (i64 (sizeI n)) := by
  rw [q128, W_ok (wfs1 (wf_int hn))]
  have hm : minmax true [0] n = max n 0 := by
    simp only [minmax, cond_true]
    split <;> omega
  rw [hm]
  have main : ∀ (d k : Nat) (i m : Int), (32 - i).toNat = d → 0 ≤ i → i ≤ 9223372036854775807 → 0 ≤ m → m * 2 ^ d ≤ 4294967296 → d < k → iterR (bodyL env M 128 0 3) k (sSz m i) = .ok (.exit 0, ⟨slots 14 [(3, .t (i64 (m * 2 ^ d)))], []⟩) := by
    intro d
    induction d with
    | zero =>
      intro k i m hd h0 h9 hm0 hm1 hk
      obtain ⟨k, rfl⟩ : ∃ j, k = j + 1 := ⟨k - 1, by omega⟩
      have hb : bodyL env M 128 0 3 (sSz m i) = .ok (.exit 0, ⟨slots 14 [(3, .t (i64 (m * 2 ^ 0)))], []⟩) := by
        rw [b128_3, decide_eq_false (by omega), Int.pow_zero, Int.mul_one]; rfl
      exact iterR_exit hb
    | succ d ih =>
      intro k i m hd h0 h9 hm0 hm1 hk
      obtain ⟨k, rfl⟩ : ∃ j, k = j + 1 := ⟨k - 1, by omega⟩
      have hp : (1 : Int) ≤ 2 ^ d := (by exact_mod_cast Nat.pow_pos (by omega : 0 < 2) : (0 : Int) < 2 ^ d)
      have e : m * 2 ^ (d + 1) = (m * 2) * 2 ^ d := by rw [Int.pow_succ, Int.mul_comm (2 ^ d) 2, Int.mul_assoc]
      have hle : m * 2 ≤ 4294967296 := by
        rw [e] at hm1
        exact Int.le_trans (by have := Int.mul_le_mul_of_nonneg_left hp (show 0 ≤ m * 2 by omega); omega) hm1
      have hb : bodyL env M 128 0 3 (sSz m i) = .ok (.norm, sSz (m * 2) (i + 1)) := by
        rw [b128_3, decide_eq_true (by omega), wrap64 (by omega), wrap64 (by omega)]; rfl
      rw [iterR_step hb, e]
      exact ih k (i + 1) (m * 2) (by omega) (by omega) (by omega) (by omega) (by rw [← e]; exact hm1) (by omega)
  have hn' := ok64_iff.1 hn
  have hd : (32 - max n 0).toNat ≤ 32 := by omega
  obtain ⟨p1, p2⟩ := pow_le32 hd
  have it := main (32 - max n 0).toNat M (max n 0) 1 rfl (by omega) (by omega) (by omega) (by rw [Int.one_mul]; exact p1) (by omega)
  refine (loopL_end it).trans ((t128_3_exit0 M _).trans ?_)
  rw [Int.one_mul]; rfl
theorem f106_ok {M : Nat} {a n : Int} (hM : 42 ≤ M) (ha : ok64 a = true) (hn : ok64 n = true) (h0 : 0 ≤ n) (h1 : n ≤ 32) : callP env (M + 1) 106 [i64 a, i64 n] = .ok (i64 (maskI a n)) := by
  obtain ⟨m, rfl⟩ := exM (show 1 ≤ M by omega)
  rw [q106, W_ok (wfs2 (wf_int ha) (wf_int hn)), clI_ok (f128_ok (by omega) hn), mask_eq h0 h1]
  have hs : sizeI n = 2 ^ (32 - n).toNat := by unfold sizeI; rw [show max n 0 = n by omega]
  rw [hs]
  have hx := and_range a
  generalize ((BitVec.toNat (BitVec.ofInt 64 a &&& BitVec.ofInt 64 4294967295) : Nat) : Int) = y at hx ⊢
  obtain ⟨p1, p2⟩ := pow_le32 (s := (32 - n).toNat) (by omega)
  generalize (2 : Int) ^ (32 - n).toNat = p at p1 p2 ⊢
  have hp : (p == 0) = false := beq_eq_false_iff_ne.2 (by omega)
  rw [hp, wrap64 (show -9223372036854775808 ≤ y ∧ y ≤ 9223372036854775807 by omega), Int.tmod_eq_emod_of_nonneg hx.1]
  have q1 := Int.ediv_mul_le y (show p ≠ 0 by omega)
  have q2 : 0 ≤ y / p * p := Int.mul_nonneg (Int.ediv_nonneg hx.1 (by omega)) (by omega)
  have q3 : y - y % p = y / p * p := by have := Int.emod_add_mul_ediv y p; rw [Int.mul_comm] at this; omega
  rw [q3, wrap64 (by omega)]
  rfl
theorem f82_ok {M : Nat} {x : Px} (hM : 44 ≤ M) (h : x.ok) : callP env (M + 1) 82 [x.t] = .ok (.bool (psane x)) := by
  obtain ⟨m, rfl⟩ := exM (show 1 ≤ M by omega)
  rw [q82, W_ok (wfs1 h.wf)]
  unfold psane
  by_cases h0 : x.n ≥ 0
  case neg => rw [decide_eq_false h0]; rfl
  by_cases h1 : x.n ≤ 32
  case neg => rw [decide_eq_true h0, decide_eq_false h1]; rfl
  have hr := mask_range (a := x.a) h0 h1
  rw [decide_eq_true h0, decide_eq_true h1]
  simp only [cond_true, Bool.true_and]
  by_cases h2 : x.a ≥ 0
  case neg => rw [decide_eq_false h2, beq_eq_false_iff_ne.2 (show x.a ≠ maskI x.a x.n by omega)]; rfl
  by_cases h3 : x.a ≤ 4294967295
  case neg => rw [decide_eq_true h2, decide_eq_false h3, beq_eq_false_iff_ne.2 (show x.a ≠ maskI x.a x.n by omega)]; rfl
  rw [decide_eq_true h2, decide_eq_true h3]
  simp only [cond_true]
  rw [clI_ok (f106_ok (by omega) h.a h.n h0 h1), Bool.beq_comm]
theorem f129_ok {M : Nat} {x y : Px} (hM : 46 ≤ M) (h : x.ok) (h' : y.ok) : callP env (M + 1) 129 [x.t, y.t] = .ok (.bool (phas x y)) := by
  obtain ⟨m, rfl⟩ := exM (show 1 ≤ M by omega)
  rw [q129, W_ok (wfs2 h.wf h'.wf), clB_ok (f82_ok (by omega) h)]
  unfold phas
  cases hx : psane x with
  | false => rfl
  | true =>
  rw [cond_true, clB_ok (f82_ok (by omega) h')]
  cases hy : psane y with
  | false => rfl
  | true =>
  have hx2 : 0 ≤ x.n ∧ x.n ≤ 32 := by unfold psane at hx; simp only [Bool.and_eq_true, decide_eq_true_eq] at hx; exact ⟨hx.1, hx.2.1⟩
  simp only [cond_true, Bool.true_and]
  by_cases h1 : x.n ≤ y.n
  · rw [decide_eq_true (show y.n ≥ x.n from h1)]
    simp only [cond_true]
    rw [clI_ok (f106_ok (by omega) h'.a h.n hx2.1 hx2.2)]
    rfl
  · rw [decide_eq_false (show ¬ y.n ≥ x.n from h1)]; rfl
theorem dec_pos {n : Int} : decide (n ≥ 1) = decide (n > 0) := decide_eq_decide.2 (by omega)
theorem dec_lt {n : Int} : decide (n ≤ 399) = decide (n < 400) := decide_eq_decide.2 (by omega)
theorem and_if {a b : Bool} : (bif a then rB b else rB false) = .ok (.bool (a && b)) := by cases a <;> rfl
theorem f138_ok {M : Nat} {r : Ru} (hM : 46 ≤ M) (h : r.ok) : callP env (M + 1) 138 [r.t] = .ok (.bool (matchB r)) := by
  obtain ⟨m, rfl⟩ := exM (show 1 ≤ M by omega)
  rw [q138, W_ok (wfs1 h.wf)]
  unfold matchB numB
  by_cases h0 : r.m = 0
  · rw [h0, if_pos rfl]
    have : (r.v == 0) = (decide (r.v ≥ 0) && decide (r.v ≤ 0)) := by
      rw [Bool.eq_iff_iff, beq_iff_eq, Bool.and_eq_true, decide_eq_true_eq, decide_eq_true_eq]; omega
    rw [this]
    exact and_if
  rw [beq_eq_false_iff_ne.2 h0, if_neg h0]
  by_cases h1 : r.m = 1
  · rw [h1, if_pos rfl]
    simp only [cond_false, beq_self_eq_true, cond_true]
    rw [clB_ok (f82_ok (by omega) h.x)]
    exact and_if
  rw [beq_eq_false_iff_ne.2 h1, if_neg h1]
  by_cases h2 : r.m = 2
  · rw [h2, if_pos rfl]
    simp only [cond_false, beq_self_eq_true, cond_true, and_rB]
  rw [beq_eq_false_iff_ne.2 h2, if_neg h2]
  by_cases h3 : r.m = 3
  · rw [h3, if_pos rfl]
    simp only [cond_false, beq_self_eq_true, cond_true, and_rB]
  rw [beq_eq_false_iff_ne.2 h3, if_neg h3]
  by_cases h4 : r.m = 4
  · rw [h4, if_pos rfl]
    simp only [cond_false, beq_self_eq_true, cond_true, and_rB]
  rw [beq_eq_false_iff_ne.2 h4, if_neg h4]
  rfl
theorem f127_ok {M : Nat} {r : Ru} {b : Bool} (hM : 48 ≤ M) (h : r.ok) : callP env (M + 1) 127 [r.t, .bool b] = .ok (.bool (rsane r b)) := by
  obtain ⟨m, rfl⟩ := exM (show 1 ≤ M by omega)
  rw [q127, W_ok (wfs2 h.wf (wf_bool b)), clB_ok (f138_ok (by omega) h)]
  unfold rsane
  cases matchB r with
  | false => rfl
  | true =>
  have key : (bif r.a == 0 then rB (r.n == 0) else bif r.a == 1 then bif !b then rB (r.n == 0) else rB false else bif r.a == 2 then bif b then bif decide (r.n ≥ 1) then rB (decide (r.n ≤ 399)) else rB false else rB false else bif r.a == 3 then bif !b then bif decide (r.n ≥ 1) then rB (decide (r.n ≤ 8)) else rB false else rB false else rB false) = .ok (.bool (actB r b)) := by
    unfold actB
    rw [dec_pos, dec_lt]
    by_cases h0 : r.a = 0
    · rw [h0, if_pos rfl]; rfl
    rw [beq_eq_false_iff_ne.2 h0, if_neg h0]
    by_cases h1 : r.a = 1
    · rw [h1, if_pos rfl]; simp only [cond_false, beq_self_eq_true, cond_true, and_rB]
    rw [beq_eq_false_iff_ne.2 h1, if_neg h1]
    by_cases h2 : r.a = 2
    · rw [h2, if_pos rfl]; simp only [cond_false, beq_self_eq_true, cond_true, and_rB]
    rw [beq_eq_false_iff_ne.2 h2, if_neg h2]
    by_cases h3 : r.a = 3
    · rw [h3, if_pos rfl]; simp only [cond_false, beq_self_eq_true, cond_true, and_rB]
    rw [beq_eq_false_iff_ne.2 h3, if_neg h3]
    rfl
  simp only [Bool.not_true, cond_false]
  rw [key]
  cases b with
  | false => rfl
  | true => cases r.m == 4 <;> rfl
theorem f130_ok {M : Nat} {l : List Int} {n : Int} (hM : big + 1 ≤ M) (hl : okL okI l) (hn : ok64 n = true) : callP env (M + 1) 130 [.sl 1 (ints l), i64 n] = .ok (.bool (l.contains n)) := by
  have hb := hl.1
  rw [q130, W_ok (wfs2 (wf_ints hl) (wf_int hn))]
  have it := iter_any (B := bodyL env M 130 0 2) (S := fun i => sHa l n i) (R := ⟨slots 18 [(4, .t (.bool true))], []⟩) (X := ⟨slots 18 [], []⟩) (id := 0) (fun x => x == n) l (n := M) (by omega) (fun j x hx => by
      have hj := (List.getElem?_eq_some_iff.1 hx).1
      rw [b130_2, decide_eq_true (by rw [ints_map, List.length_map]; omega)]
      simp only [cond_true]
      rw [atT_get (ints_get hx)]
      simp only [iT_int]
      rw [wrap_succ (show j ≤ big by omega)]) (by rw [b130_2, decide_eq_false (by rw [ints_map, List.length_map]; omega)]; rfl)
  have e : l.any (fun x => x == n) = l.contains n := by
    rw [Bool.eq_iff_iff, List.any_eq_true, List.contains_iff_mem]
    exact ⟨fun ⟨x, h, e⟩ => (beq_iff_eq.1 e) ▸ h, fun h => ⟨n, h, beq_self_eq_true n⟩⟩
  rw [e] at it
  cases hc : l.contains n with
  | true => rw [hc] at it; exact (loopL_end it).trans (t130_2_ret M true)
  | false => rw [hc] at it; exact (loopL_end it).trans (t130_2_exit0 M)
theorem f107_ok {M : Nat} {r : Ru} {v : Vw} (hM : big + 50 ≤ M) (h : r.ok) (hv : v.ok) : callP env (M + 1) 107 [r.t, v.t] = .ok (.bool (fitsB v r)) := by
  obtain ⟨m, rfl⟩ := exM (show 1 ≤ M by omega)
  rw [q107, W_ok (wfs2 h.wf hv.wf)]
  unfold fitsB
  by_cases h0 : r.m = 0
  · rw [h0, if_pos rfl]; rfl
  rw [beq_eq_false_iff_ne.2 h0, if_neg h0]
  by_cases h1 : r.m = 1
  · rw [h1, if_pos rfl]
    simp only [cond_false, beq_self_eq_true, cond_true]
    rw [cl_ok (f129_ok (by omega) h.x hv.x)]
  rw [beq_eq_false_iff_ne.2 h1, if_neg h1]
  by_cases h2 : r.m = 2
  · rw [h2, if_pos rfl]
    simp only [cond_false, beq_self_eq_true, cond_true]
    rw [cl_ok (f130_ok (by omega) hv.s h.v)]
  rw [beq_eq_false_iff_ne.2 h2, if_neg h2]
  by_cases h3 : r.m = 3
  · rw [h3, if_pos rfl, ints_map, List.length_map]; rfl
  rw [beq_eq_false_iff_ne.2 h3, if_neg h3]
  by_cases h4 : r.m = 4
  · rw [h4, if_pos rfl]; rfl
  rw [beq_eq_false_iff_ne.2 h4, if_neg h4]
  rfl
theorem f86_ok {M : Nat} {l : List Ru} {v : Vw} (hM : big + 52 ≤ M) (hl : okL Ru.ok l) (hv : v.ok) : callP env (M + 1) 86 [.sl 6 (l.map Ru.t), v.t] = .ok (match pickR l v with | some r => .tup [r.t, .bool true] | none => .tup [.agg [i64 0, i64 0, i64 0, i64 0, i64 0, i64 0], .bool false]) := by
  obtain ⟨m, rfl⟩ := exM (show 1 ≤ M by omega)
  have hb := hl.1
  rw [q86, W_ok (wfs2 (wf_okL (fun _ h => Ru.ok.wf h) hl) hv.wf)]
  have it := iter_seek (B := bodyL env (m + 1) 86 0 2) (S := fun i => sPk l v i) (R := fun i => ⟨slots 24 [(4, .ptr 0 0), (5, .t (.bool true))], [.box 62 6 (.t ((l.map Ru.t).getD i .nilp))]⟩) (X := ⟨slots 24 [(4, .ptr 0 0)], [.box 62 6 (.t (T.agg [i64 0, i64 0, i64 0, i64 0, i64 0, i64 0]))]⟩) (id := 0)
    (fun i => match l[i]? with | some r => fitsB v r | none => false) l.length 0 (m + 1) (by omega)
    (fun j h0 h1 hp => by
      have hj : j < l.length := by omega
      have e1 : l[j]? = some l[j] := List.getElem?_eq_getElem hj
      rw [e1] at hp
      simp only [] at hp
      rw [b86_2, decide_eq_true (by rw [List.length_map]; omega)]
      simp only [cond_true]
      rw [atT_get (map_get e1), clB_ok (f107_ok (by omega) (hl.2 _ (List.mem_of_getElem? e1)) hv), hp, cond_true, atT_get (map_get e1)]
      have : (l.map Ru.t).getD j .nilp = l[j].t := by rw [List.getD_eq_getElem?_getD, map_get e1]; rfl
      rw [this]; rfl)
    (fun j h0 h1 hp => by
      have hj : j < l.length := by omega
      have e1 : l[j]? = some l[j] := List.getElem?_eq_getElem hj
      rw [e1] at hp
      simp only [] at hp
      rw [b86_2, decide_eq_true (by rw [List.length_map]; omega)]
      simp only [cond_true]
      rw [atT_get (map_get e1), clB_ok (f107_ok (by omega) (hl.2 _ (List.mem_of_getElem? e1)) hv), hp, cond_false, wrap_succ (show j ≤ big by omega)]
      rfl)
    (by rw [Nat.zero_add, b86_2, decide_eq_false (by rw [List.length_map]; omega)]; rfl)
  refine Eq.trans (show _ = loopL env (m + 1) 86 2 (sPk l v 0) from rfl) ?_
  cases hk : seekI (fun i => match l[i]? with | some r => fitsB v r | none => false) 0 l.length with
  | some j =>
    rw [hk] at it
    obtain ⟨_, hj, hp⟩ := seekI_some hk
    have hj' : j < l.length := by omega
    have e1 : l[j]? = some l[j] := List.getElem?_eq_getElem hj'
    have hmin : ∀ i, i < j → (match l[i]? with | some r => fitsB v r | none => false) = false := fun i hi => seekI_min hk i (by omega) hi
    have hf : pickR l v = some l[j] := by
      unfold pickR
      rw [e1] at hp
      refine List.find?_eq_some_iff_getElem.2 ⟨hp, j, hj', rfl, fun i hi => ?_⟩
      have := hmin i hi
      rw [List.getElem?_eq_getElem (show i < l.length by omega)] at this
      simpa using this
    rw [hf]
    have e2 : (l.map Ru.t).getD j .nilp = l[j].t := by rw [List.getD_eq_getElem?_getD, map_get e1]; rfl
    simp only [e2] at it
    exact (loopL_end it).trans (t86_2_ret (m + 1) l[j])
  | none =>
    rw [hk] at it
    have hf : pickR l v = none := by
      unfold pickR
      rw [List.find?_eq_none]
      intro x hx
      obtain ⟨i, hi⟩ := List.getElem?_of_mem hx
      have := seekI_none hk i (by omega) (by have := (List.getElem?_eq_some_iff.1 hi).1; omega)
      rw [hi] at this
      simpa using this
    rw [hf]
    exact (loopL_end it).trans (t86_2_exit0 (m + 1) _)
theorem f77_ok {M : Nat} {n : Int} (hn : ok64 n = true) : callP env (M + 1) 77 [i64 n] = .ok (.bool (holdB n)) := by
  rw [q77, W_ok (wfs1 (wf_int hn))]
  simp only [and_rB, or_rB]
  rfl
theorem f104_ok {M : Nat} {l : List Ru} {b : Bool} (hM : big + 50 ≤ M) (hl : okL Ru.ok l) : callP env (M + 1) 104 [.sl 6 (l.map Ru.t), .bool b] = .ok (.bool (rulesB l b)) := by
  obtain ⟨m, rfl⟩ := exM (show 1 ≤ M by omega)
  have hb := hl.1
  rw [q104, W_ok (wfs2 (wf_okL (fun _ h => Ru.ok.wf h) hl) (wf_bool b))]
  have it := iter_any (B := bodyL env (m + 1) 104 0 2) (S := fun i => sRu l b i) (R := ⟨slots 22 [(4, .t (.bool false))], []⟩) (X := ⟨slots 22 [(0, .t (.sl 6 (l.map Ru.t)))], []⟩) (id := 0) (fun r => !rsane r b) l (n := m + 1) (by omega) (fun j x hx => by
      have hj := (List.getElem?_eq_some_iff.1 hx).1
      rw [b104_2, decide_eq_true (by rw [List.length_map]; omega)]
      simp only [cond_true]
      rw [atT_get (map_get hx), clB_ok (f127_ok (by omega) (hl.2 _ (List.mem_of_getElem? hx))), wrap_succ (show j ≤ big by omega)]) (by rw [b104_2, decide_eq_false (by rw [List.length_map]; omega)]; rfl)
  unfold rulesB
  cases hc : l.any (fun r => !rsane r b) with
  | true => rw [hc] at it; rw [Bool.not_true, Bool.and_false]; exact (loopL_end it).trans (t104_2_ret (m + 1) false)
  | false => rw [hc] at it; rw [Bool.not_false, Bool.and_true, ← List.length_map (f := Ru.t)]; exact (loopL_end it).trans (t104_2_exit0 (m + 1) l)
end Go.Sim

/- What the document's layers 7, 9, 12, 13, 14 answer: the same as the program's. -/
namespace Go.Sim
open Go.RowKit Go.Proofs
set_option linter.unusedVariables false
set_option linter.unusedSimpArgs false
set_option linter.unusedSectionVars false
set_option maxRecDepth 100000

/-- Does place i fall? -/
def ownF (l : List Px) (i : Nat) : Bool := match l[i]? with | some x => !psane x || (l.take i).contains x | none => false
def sideF (l : List Sd) (a : Int) (i : Nat) : Bool := match l[i]? with | some s => !(sideB s && !(s.a == a)) || ((l.take i).map Sd.a).contains s.a | none => false
theorem own_iff {l : List Px} : (seekI (ownF l) 0 l.length).isNone = freshB id psane [] l := by
  rw [Bool.eq_iff_iff, fresh_iff, Option.isNone_iff_eq_none]
  constructor
  · intro h i x hx
    have := seekI_none h i (by omega) (by have := (List.getElem?_eq_some_iff.1 hx).1; omega)
    unfold ownF at this
    rw [hx] at this
    simp only [Bool.or_eq_false_iff, Bool.not_eq_false'] at this
    exact ⟨by simpa using this.2, this.1⟩
  · intro h
    cases hk : seekI (ownF l) 0 l.length with
    | none => rfl
    | some j =>
      obtain ⟨_, hj, hp⟩ := seekI_some hk
      have hx := h j l[j] (List.getElem?_eq_getElem (by omega))
      unfold ownF at hp
      rw [List.getElem?_eq_getElem (show j < l.length by omega)] at hp
      simp only [Bool.or_eq_true, Bool.not_eq_true'] at hp
      rcases hp with hp | hp
      · rw [hp] at hx; exact absurd hx.2 (by simp)
      · have := hx.1; simp only [List.nil_append, List.map_id_fun, id] at this; rw [hp] at this; cases this
theorem side_iff {l : List Sd} {a : Int} : (seekI (sideF l a) 0 l.length).isNone = freshB Sd.a sideB [a] l := by
  rw [Bool.eq_iff_iff, fresh_iff, Option.isNone_iff_eq_none]
  have key : ∀ (i : Nat) (s : Sd), ([a] ++ (l.take i).map Sd.a).contains s.a = (s.a == a || ((l.take i).map Sd.a).contains s.a) := fun i s => by rw [List.singleton_append, List.contains_cons]
  constructor
  · intro h i x hx
    have := seekI_none h i (by omega) (by have := (List.getElem?_eq_some_iff.1 hx).1; omega)
    unfold sideF at this
    rw [hx] at this
    simp only [Bool.or_eq_false_iff, Bool.not_eq_false', Bool.and_eq_true, Bool.not_eq_true'] at this
    rw [key, this.1.2, this.2]
    exact ⟨rfl, this.1.1⟩
  · intro h
    cases hk : seekI (sideF l a) 0 l.length with
    | none => rfl
    | some j =>
      obtain ⟨_, hj, hp⟩ := seekI_some hk
      have hx := h j l[j] (List.getElem?_eq_getElem (by omega))
      rw [key, Bool.or_eq_false_iff] at hx
      unfold sideF at hp
      rw [List.getElem?_eq_getElem (show j < l.length by omega)] at hp
      simp only [hx.1.1, hx.1.2, hx.2, Bool.not_false, Bool.and_self, Bool.not_true, Bool.or_self] at hp
      cases hp
variable [Lv]
theorem loopI_end {N : Nat} {f : FuncId} {r q : Nat} {s s' : St} {e : Ex} (h : iterR (bodyI env N f 0 r q) N s = .ok (e, s')) : loopI env N f r q s = tailI env N f 0 r q e s' := by
  unfold loopI; rw [h]; rfl
theorem owns_in {M i : Nat} {l : List Px} {x : Px} (hM : big + 1 ≤ M) (hl : l.length ≤ big) (hx : l[i]? = some x) : loopI env M 78 2 7 (sOw2 l i 0) = bif (l.take i).contains x then .ok (.ret, ⟨slots 34 [(2, .t (.bool false))], []⟩) else .ok (.norm, sOw l (i + 1 : Nat)) := by
  have hi := (List.getElem?_eq_some_iff.1 hx).1
  have it := iter_any (B := bodyI env M 78 0 2 7) (S := fun k => sOw2 l i k) (R := ⟨slots 34 [(2, .t (.bool false))], []⟩) (X := sOw l i) (id := 2) (fun y => y == x) (l.take i) (n := M) (by rw [List.length_take]; omega) (fun j y hy => by
      have hj : j < i := by have := (List.getElem?_eq_some_iff.1 hy).1; rw [List.length_take] at this; omega
      have hy' : l[j]? = some y := by rw [List.getElem?_take, if_pos hj] at hy; exact hy
      rw [b78_2_7, decide_eq_true (by omega)]
      simp only [cond_true]
      rw [atT_get (map_get hy'), atT_get (map_get hx)]
      have e : T.eqLs [0, 0] y.t.cells x.t.cells = some (y.a == x.a && (y.n == x.n && true)) := rfl
      have e2 : (y.a == x.a && (y.n == x.n && true)) = (y == x) := by
        rw [Bool.eq_iff_iff]; obtain ⟨a, n⟩ := y; obtain ⟨a', n'⟩ := x; simp
      rw [e, e2, wrap_succ (show j ≤ big by omega)])
    (by rw [List.length_take, Nat.min_eq_left (by omega), b78_2_7, decide_eq_false (by omega)]; rfl)
  have e : (l.take i).any (fun y => y == x) = (l.take i).contains x := by
    rw [Bool.eq_iff_iff, List.any_eq_true, List.contains_iff_mem]
    exact ⟨fun ⟨y, h, e⟩ => (beq_iff_eq.1 e) ▸ h, fun h => ⟨x, h, beq_self_eq_true x⟩⟩
  rw [e] at it
  cases hc : (l.take i).contains x with
  | true => rw [hc] at it; exact (loopI_end it).trans (t78_2_7_ret M false)
  | false => rw [hc] at it; refine (loopI_end it).trans ((t78_2_7_exit2 M l i).trans ?_); rw [wrap_succ (show i ≤ big by omega)]; rfl
theorem f78_ok {M : Nat} {l : List Px} (hM : big + 50 ≤ M) (hl : okL Px.ok l) : callP env (M + 1) 78 [.sl 2 (l.map Px.t)] = .ok (.bool (decide (l.length ≤ 8) && freshB id psane [] l)) := by
  obtain ⟨m, rfl⟩ := exM (show 1 ≤ M by omega)
  have hb := hl.1
  rw [q78, W_ok (wfs1 (wf_okL (fun _ h => Px.ok.wf h) hl)), ← own_iff]
  have rd : ∀ j, j < l.length → bodyL env (m + 1) 78 0 2 (sOw l j) = bif ownF l j then .ok (.ret, ⟨slots 34 [(2, .t (.bool false))], []⟩) else .ok (.norm, sOw l (j + 1 : Nat)) := fun j hj => by
    have e1 : l[j]? = some l[j] := List.getElem?_eq_getElem hj
    rw [b78_2, decide_eq_true (by rw [List.length_map]; omega)]
    simp only [cond_true]
    rw [atT_get (map_get e1), clB_ok (f82_ok (by omega) (hl.2 _ (List.mem_of_getElem? e1)))]
    have e2 : ownF l j = (!psane l[j] || (l.take j).contains l[j]) := by unfold ownF; rw [e1]
    rw [e2]
    cases psane l[j] with
    | false => rfl
    | true => simp only [Bool.not_true, cond_false, Bool.false_or]; exact owns_in (by omega) hb e1
  have it := iter_seek (B := bodyL env (m + 1) 78 0 2) (S := fun i => sOw l i) (R := fun _ => ⟨slots 34 [(2, .t (.bool false))], []⟩) (X := ⟨slots 34 [(0, .t (.sl 2 (l.map Px.t)))], []⟩) (id := 0) (ownF l) l.length 0 (m + 1) (by omega)
    (fun j h0 h1 hp => by rw [rd j (by omega), hp]; rfl) (fun j h0 h1 hp => by rw [rd j (by omega), hp]; rfl)
    (by rw [Nat.zero_add, b78_2, decide_eq_false (by rw [List.length_map]; omega)]; rfl)
  cases hk : seekI (ownF l) 0 l.length with
  | some j => rw [hk] at it; rw [Option.isNone_some, Bool.and_false]; exact (loopL_end it).trans (t78_2_ret (m + 1) false)
  | none =>
    rw [hk] at it
    rw [Option.isNone_none, Bool.and_true]
    refine (loopL_end it).trans ((t78_2_exit0 (m + 1) l).trans ?_)
    rw [List.length_map, show decide ((l.length : Int) ≤ 8) = decide (l.length ≤ 8) from decide_eq_decide.2 (by omega)]
theorem sides_in {M i : Nat} {l : List Sd} {a : Int} {x : Sd} (hM : big + 1 ≤ M) (hl : l.length ≤ big) (hx : l[i]? = some x) : loopI env M 79 2 8 (sSi2 l a i x 0) = bif ((l.take i).map Sd.a).contains x.a then .ok (.ret, ⟨slots 70 [(4, .t (.bool false))], []⟩) else .ok (.norm, sSi l a (i + 1 : Nat)) := by
  have hi := (List.getElem?_eq_some_iff.1 hx).1
  have it := iter_any (B := bodyI env M 79 0 2 8) (S := fun k => sSi2 l a i x k) (R := ⟨slots 70 [(4, .t (.bool false))], []⟩) (X := sSi l a i) (id := 2) (fun y => y.a == x.a) (l.take i) (n := M) (by rw [List.length_take]; omega) (fun j y hy => by
      have hj : j < i := by have := (List.getElem?_eq_some_iff.1 hy).1; rw [List.length_take] at this; omega
      have hy' : l[j]? = some y := by rw [List.getElem?_take, if_pos hj] at hy; exact hy
      rw [b79_2_8, decide_eq_true (by omega)]
      simp only [cond_true]
      rw [atT_get (map_get hy')]
      have e : y.t.partD 0 1 false = i64 y.a := rfl
      rw [e]
      simp only [iT_int]
      rw [wrap_succ (show j ≤ big by omega)])
    (by rw [List.length_take, Nat.min_eq_left (by omega), b79_2_8, decide_eq_false (by omega)]; rfl)
  have e : (l.take i).any (fun y => y.a == x.a) = ((l.take i).map Sd.a).contains x.a := by
    rw [Bool.eq_iff_iff, List.any_eq_true, List.contains_iff_mem, List.mem_map]
    exact ⟨fun ⟨y, h, e⟩ => ⟨y, h, beq_iff_eq.1 e⟩, fun ⟨y, h, e⟩ => ⟨y, h, beq_iff_eq.2 e⟩⟩
  rw [e] at it
  cases hc : ((l.take i).map Sd.a).contains x.a with
  | true => rw [hc] at it; exact (loopI_end it).trans (t79_2_8_ret M false)
  | false => rw [hc] at it; refine (loopI_end it).trans ((t79_2_8_exit2 M l a i).trans ?_); rw [wrap_succ (show i ≤ big by omega)]; rfl
theorem f79_ok {M : Nat} {l : List Sd} {a : Int} (hM : big + 53 ≤ M) (hl : okL Sd.ok l) (ha : ok64 a = true) : callP env (M + 1) 79 [.sl 4 (l.map Sd.t), i64 a] = .ok (.bool (decide (l.length ≤ 8) && freshB Sd.a sideB [a] l)) := by
  obtain ⟨m, rfl⟩ := exM (show 1 ≤ M by omega)
  have hb := hl.1
  rw [q79, W_ok (wfs2 (wf_okL (fun _ h => Sd.ok.wf h) hl) (wf_int ha)), ← side_iff]
  have rd : ∀ j, j < l.length → bodyL env (m + 1) 79 0 2 (sSi l a j) = bif sideF l a j then .ok (.ret, ⟨slots 70 [(4, .t (.bool false))], []⟩) else .ok (.norm, sSi l a (j + 1 : Nat)) := fun j hj => by
    have e1 : l[j]? = some l[j] := List.getElem?_eq_getElem hj
    have ho := hl.2 _ (List.mem_of_getElem? e1)
    have c1 : (l[j].t.cells.length == 4 && !l[j].t.isTup) = true := rfl
    have p0 : l[j].t.partD 0 1 false = i64 l[j].a := rfl
    have p1 : l[j].t.partD 1 1 false = i64 l[j].r := rfl
    have p2 : l[j].t.partD 2 1 false = .sl 6 (l[j].i.map Ru.t) := rfl
    have p3 : l[j].t.partD 3 1 false = .sl 6 (l[j].o.map Ru.t) := rfl
    have e2 : sideF l a j = (!(sideB l[j] && !(l[j].a == a)) || ((l.take j).map Sd.a).contains l[j].a) := by unfold sideF; rw [e1]
    rw [b79_2, decide_eq_true (by rw [List.length_map]; omega)]
    simp only [cond_true]
    rw [atT_get (map_get e1), c1, chk_true, p0, p1, p2, p3, e2]
    simp only [iT_int]
    unfold sideB withinB
    by_cases h1 : l[j].a < 1
    · rw [decide_eq_true h1, decide_eq_false (show ¬ l[j].a > 0 by omega)]; rfl
    rw [decide_eq_false h1, decide_eq_true (show l[j].a > 0 by omega)]
    by_cases h2 : l[j].a > 4294967295
    · rw [decide_eq_true h2, decide_eq_false (show ¬ l[j].a ≤ 4294967295 by omega)]; rfl
    rw [decide_eq_false h2, decide_eq_true (show l[j].a ≤ 4294967295 by omega)]
    cases h3 : l[j].a == a with
    | true => simp only [cond_false, cond_true, Bool.not_true, Bool.and_false, Bool.not_false, Bool.true_or]
    | false =>
    by_cases h4 : l[j].r < 1
    · rw [decide_eq_true h4, decide_eq_false (show ¬ l[j].r ≥ 1 by omega)]; rfl
    rw [decide_eq_false h4, decide_eq_true (show l[j].r ≥ 1 by omega)]
    by_cases h5 : l[j].r > 3
    · rw [decide_eq_true h5, decide_eq_false (show ¬ l[j].r ≤ 3 by omega)]; rfl
    rw [decide_eq_false h5, decide_eq_true (show l[j].r ≤ 3 by omega)]
    simp only [cond_false]
    rw [clB_ok (f104_ok (by omega) ho.i)]
    cases h6 : rulesB l[j].i true with
    | false => rfl
    | true =>
    simp only [Bool.not_true, cond_false]
    rw [clB_ok (f104_ok (by omega) ho.o)]
    cases h7 : rulesB l[j].o false with
    | false => rfl
    | true =>
    simp only [Bool.not_true, cond_false, Bool.and_self, Bool.not_false, Bool.and_true, Bool.false_or]
    exact sides_in (x := l[j]) (by omega) hb e1
  have it := iter_seek (B := bodyL env (m + 1) 79 0 2) (S := fun i => sSi l a i) (R := fun _ => ⟨slots 70 [(4, .t (.bool false))], []⟩) (X := ⟨slots 70 [(0, .t (.sl 4 (l.map Sd.t)))], []⟩) (id := 0) (sideF l a) l.length 0 (m + 1) (by omega)
    (fun j h0 h1 hp => by rw [rd j (by omega), hp]; rfl) (fun j h0 h1 hp => by rw [rd j (by omega), hp]; rfl)
    (by rw [Nat.zero_add, b79_2, decide_eq_false (by rw [List.length_map]; omega)]; rfl)
  cases hk : seekI (sideF l a) 0 l.length with
  | some j => rw [hk] at it; rw [Option.isNone_some, Bool.and_false]; exact (loopL_end it).trans (t79_2_ret (m + 1) false)
  | none =>
    rw [hk] at it
    rw [Option.isNone_none, Bool.and_true]
    refine (loopL_end it).trans ((t79_2_exit0 (m + 1) l).trans ?_)
    rw [List.length_map, show decide ((l.length : Int) ≤ 8) = decide (l.length ≤ 8) from decide_eq_decide.2 (by omega)]
theorem f37_ok {M : Nat} {c : Cf} (hM : big + 56 ≤ M) (h : c.ok) : callP env (M + 1) 37 [c.t] = .ok (.bool (csane c)) := by
  obtain ⟨m, rfl⟩ := exM (show 1 ≤ M by omega)
  rw [q37, W_ok (wfs1 h.wf)]
  unfold csane withinB
  rw [dec_pos, dec_pos]
  by_cases h1 : c.a > 0
  case neg => rw [decide_eq_false h1]; rfl
  by_cases h2 : c.a ≤ 4294967295
  case neg => rw [decide_eq_true h1, decide_eq_false h2]; rfl
  by_cases h3 : c.d > 0
  case neg => rw [decide_eq_true h1, decide_eq_true h2, decide_eq_false h3]; rfl
  by_cases h4 : c.d ≤ 4294967295
  case neg => rw [decide_eq_true h1, decide_eq_true h2, decide_eq_true h3, decide_eq_false h4]; rfl
  rw [decide_eq_true h1, decide_eq_true h2, decide_eq_true h3, decide_eq_true h4]
  simp only [cond_true, Bool.and_self, Bool.true_and]
  rw [clB_ok (f77_ok h.h)]
  cases holdB c.h with
  | false => rfl
  | true =>
  simp only [cond_true, Bool.true_and]
  by_cases h5 : c.k ≥ 1
  case neg => rw [decide_eq_false h5]; rfl
  by_cases h6 : c.k ≤ 1000
  case neg => rw [decide_eq_true h5, decide_eq_false h6]; simp
  rw [decide_eq_true h5, decide_eq_true h6]
  simp only [cond_true, Bool.true_and]
  rw [clB_ok (f78_ok (by omega) h.w)]
  by_cases h7 : c.w.length ≤ 8
  case neg => rw [decide_eq_false h7]; rfl
  rw [decide_eq_true h7]
  simp only [Bool.true_and]
  cases hf : freshB id psane [] c.w with
  | false => simp
  | true =>
  simp only [cond_true, Bool.true_and]
  rw [cl_ok (f79_ok (by omega) h.s h.a)]
theorem f83_ok {M : Nat} {p : Pa} (hM : big + 1 ≤ M) (h : p.ok) : callP env (M + 1) 83 [p.t] = .ok (.bool (asane7 p)) := by
  have hb := h.l
  rw [q83, W_ok (wfs1 h.wf)]
  have it := iter_any (B := bodyL env M 83 0 2) (S := fun i => sPs p i) (R := ⟨slots 59 [(2, .t (.bool false))], []⟩) (X := ⟨slots 59 [(1, .ptr 0 0)], [.box 35 4 (.t p.t)]⟩) (id := 0) asnB p.s (n := M) (by omega) (fun j x hx => by
      have hj := (List.getElem?_eq_some_iff.1 hx).1
      rw [b83_2, decide_eq_true (by rw [ints_map, List.length_map]; omega)]
      simp only [cond_true]
      rw [atT_get (ints_get hx), atT_get (ints_get hx)]
      simp only [iT_int]
      rw [wrap_succ (show j ≤ big by omega)]
      unfold asnB
      cases decide (x < 1) <;> cases decide (x > 4294967295) <;> rfl) (by rw [b83_2, decide_eq_false (by rw [ints_map, List.length_map]; omega)]; rfl)
  unfold asane7
  cases hc : p.s.any asnB with
  | true => rw [hc] at it; exact (loopL_end it).trans (t83_2_ret M false)
  | false =>
    rw [hc] at it
    refine (loopL_end it).trans ((t83_2_exit0 M p).trans ?_)
    rw [ints_map, List.length_map, show decide ((p.s.length : Int) ≤ 255) = decide (p.s.length ≤ 255) from decide_eq_decide.2 (by omega), dec_pos]
    simp only [and_rB]
    cases decide (p.o ≥ 0) <;> cases decide (p.o ≤ 2) <;> cases decide (p.s.length ≤ 255) <;> rfl
theorem f19_ok {M : Nat} {a b : Rt} (hM : big + 3 ≤ M) (ha : a.ok) (hb : b.ok) : callP env (M + 1) 19 [a.t, b.t] = .ok (.bool (decide (a = b))) := by
  obtain ⟨m, rfl⟩ := exM (show 1 ≤ M by omega)
  have e : decide (a = b) = (decide (a.n = b.n) && (decide (a.f = b.f) && decide (a.p = b.p))) := by
    rw [Bool.eq_iff_iff]
    simp only [decide_eq_true_eq, Bool.and_eq_true]
    obtain ⟨n, p, f⟩ := a
    obtain ⟨n', p', f'⟩ := b
    simp only [Rt.mk.injEq]
    constructor
    · rintro ⟨h1, h2, h3⟩; exact ⟨h1, h3, h2⟩
    · rintro ⟨h1, h3, h2⟩; exact ⟨h1, h2, h3⟩
  rw [e, q19, W_ok (wfs2 ha.wf hb.wf)]
  by_cases h1 : a.n = b.n
  case neg => rw [beq_eq_false_iff_ne.2 h1, decide_eq_false h1]; rfl
  by_cases h2 : a.f = b.f
  case neg => rw [beq_iff_eq.2 h1, beq_eq_false_iff_ne.2 h2, decide_eq_true h1, decide_eq_false h2]; rfl
  rw [beq_iff_eq.2 h1, beq_iff_eq.2 h2, decide_eq_true h1, decide_eq_true h2]
  simp only [cond_true, Bool.true_and]
  rw [cl_ok (f44_ok (by omega) ha.p hb.p)]
theorem f85_ok {M : Nat} {a b c : Int} (ha : ok64 a = true) (hb : ok64 b = true) (hc : ok64 c = true) : callP env (M + 1) 85 [i64 a, i64 b, i64 c] = .ok (.tup [i64 ((roleIn a b c).getD 0), .bool (roleIn a b c).isSome]) := by
  rw [q85, W_ok (wfs3 (wf_int ha) (wf_int hb) (wf_int hc))]
  unfold roleIn orI
  by_cases h4 : c = 0
  · subst h4
    by_cases h1 : a = 1
    · subst h1; simp
    by_cases h2 : a = 2
    · subst h2; simp
    by_cases h3 : a = 3
    · subst h3; simp
    have h1' : (a == 1) = false := beq_eq_false_iff_ne.2 h1
    have h2' : (a == 2) = false := beq_eq_false_iff_ne.2 h2
    have h3' : (a == 3) = false := beq_eq_false_iff_ne.2 h3
    simp [h1, h2, h3, h1', h2', h3']
  have h4' : (c == 0) = false := beq_eq_false_iff_ne.2 h4
  have h4'' : (c != 0) = true := bne_iff_ne.2 h4
  by_cases h5 : c = b
  · subst h5
    by_cases h1 : a = 1
    · subst h1; simp [h4, h4', h4'']
    by_cases h2 : a = 2
    · subst h2; simp [h4, h4', h4'']
    by_cases h3 : a = 3
    · subst h3; simp [h4, h4', h4'']
    have h1' : (a == 1) = false := beq_eq_false_iff_ne.2 h1
    have h2' : (a == 2) = false := beq_eq_false_iff_ne.2 h2
    have h3' : (a == 3) = false := beq_eq_false_iff_ne.2 h3
    simp [h1, h2, h3, h1', h2', h3', h4, h4', h4'']
  have h5' : (c == b) = false := beq_eq_false_iff_ne.2 h5
  by_cases h1 : a = 1
  · subst h1; simp [h4, h4', h4'', h5, h5']
  by_cases h2 : a = 2
  · subst h2; simp [h4, h4', h4'', h5, h5']
  by_cases h3 : a = 3
  · subst h3; simp [h4, h4', h4'', h5, h5']
  have h1' : (a == 1) = false := beq_eq_false_iff_ne.2 h1
  have h2' : (a == 2) = false := beq_eq_false_iff_ne.2 h2
  have h3' : (a == 3) = false := beq_eq_false_iff_ne.2 h3
  simp [h1, h2, h3, h1', h2', h3', h4, h4', h4'', h5, h5']
theorem f81_ok {M : Nat} {c : Cf} {k : Int} (h : c.ok) (hk : ok64 k = true) : callP env (M + 1) 81 [c.t, i64 k] = .ok (.bool (hasB c k)) := by
  rw [q81, W_ok (wfs2 h.wf (wf_int hk)), and_rB, List.length_map]; rfl
theorem f84_ok {M : Nat} {l : List Int} {n : Int} (hM : big + 1 ≤ M) (hl : okL okI l) (hn : ok64 n = true) : callP env (M + 1) 84 [.sl 1 (ints l), i64 n] = .ok (.bool (l.contains n)) := by
  have hb := hl.1
  rw [q84, W_ok (wfs2 (wf_ints hl) (wf_int hn))]
  have it := iter_any (B := bodyL env M 84 0 2) (S := fun i => sHb l n i) (R := ⟨slots 18 [(4, .t (.bool true))], []⟩) (X := ⟨slots 18 [], []⟩) (id := 0) (fun x => x == n) l (n := M) (by omega) (fun j x hx => by
      have hj := (List.getElem?_eq_some_iff.1 hx).1
      rw [b84_2, decide_eq_true (by rw [ints_map, List.length_map]; omega)]
      simp only [cond_true]
      rw [atT_get (ints_get hx)]
      simp only [iT_int]
      rw [wrap_succ (show j ≤ big by omega)]
      rfl) (by rw [b84_2, decide_eq_false (by rw [ints_map, List.length_map]; omega)]; rfl)
  have e : l.any (fun x => x == n) = l.contains n := by
    rw [Bool.eq_iff_iff, List.any_eq_true, List.contains_iff_mem]
    exact ⟨fun ⟨x, h, e⟩ => (beq_iff_eq.1 e) ▸ h, fun h => ⟨n, h, beq_self_eq_true n⟩⟩
  rw [e] at it
  refine Eq.trans (show _ = loopL env M 84 2 (sHb l n 0) from rfl) ?_
  cases hc : l.contains n with
  | true => rw [hc] at it; exact (loopL_end it).trans (t84_2_ret M true)
  | false => rw [hc] at it; exact (loopL_end it).trans (t84_2_exit0 M)
end Go.Sim

/- What calls come to: printed by wip/tools/eq2.py: the document's Out. -/
namespace Go.Sim
open Go.RowKit Go.Proofs
set_option linter.unusedVariables false
set_option maxRecDepth 100000
variable [Lv]
def sOz (c : Cf) (x : Px) (r : Rt) (s : Sd) (u : Ru) (m : Int) (d : Nat → PV) : St := ⟨[d 0, d 1, d 2, d 3, .ptr 0 0, d 5, d 6, .ptr 2 0, .ptr 3 0, d 9, d 10, .ptr 5 0, d 12, .t (i64 m), d 14, d 15, d 16, d 17, d 18, d 19, d 20, d 21, d 22, d 23, d 24, d 25, d 26, d 27, d 28, d 29, d 30, d 31, d 32, d 33, d 34, d 35, d 36, d 37, d 38, d 39, d 40, d 41, d 42, d 43, d 44, d 45, d 46, d 47, d 48, d 49, d 50, d 51, d 52, d 53, d 54, d 55, d 56, d 57, d 58, d 59, d 60, d 61, d 62, d 63, d 64, d 65, d 66, d 67, d 68, d 69, d 70, d 71, d 72, d 73, d 74, d 75, d 76, d 77, d 78, d 79, d 80, d 81, d 82, d 83, d 84, d 85, d 86, d 87, d 88, d 89, d 90, d 91, d 92, d 93, d 94, d 95, d 96, d 97, d 98, d 99, d 100, d 101, d 102, d 103, d 104, d 105, d 106, d 107, d 108, d 109, d 110, d 111, d 112, d 113, d 114, d 115, d 116, d 117, d 118, d 119, d 120, d 121, d 122, d 123, d 124, d 125, d 126, d 127], [.box 25 6 (.t c.t), .box 29 2 (.t x.t), .box 37 6 (.t r.t), .box 35 4 (.agg [.t (i64 0), .nil 3 1, .t (i64 0), .t (i64 0)]), .box 65 4 (.t s.t), .box 62 6 (.t u.t)]⟩
def sO11 (c : Cf) (r : Rt) (u : Ru) (m : Int) (l : List Int) (i : Int) : St := ⟨slots 128 [(4, .ptr 0 0), (7, .ptr 1 0), (8, .ptr 2 0), (11, .ptr 3 0), (13, .t (i64 m)), (15, .own 4), (16, .t (i64 i))], [.box 25 6 (.t c.t), .box 37 6 (.t r.t), .box 35 4 (.agg [.t (i64 0), .own 5, .t (i64 0), .t (i64 0)]), .box 62 6 (.t u.t), .row 3 1 (ints l), .row 3 1 []]⟩
end Go.Sim

/- EdgeIs: its call comes to 'true'. -/
namespace Go.Sim
open Go.RowKit Go.Proofs
set_option linter.unusedVariables false
set_option linter.unusedSimpArgs false
set_option linter.unusedSectionVars false
set_option maxRecDepth 100000
variable [Lv]
theorem f40_ok {M : Nat} {c : Cf} {k : Int} {x : Px} {p : Pa} (hM : big + 60 ≤ M) (h : c.ok) (hk : ok64 k = true) (hx : x.ok) (hp : p.ok) : callP env (M + 1) 40 [c.t, i64 k, x.t, p.t] = .ok (optR (inR c k x p)) := by
  obtain ⟨m, rfl⟩ := exM (show 1 ≤ M by omega)
  have hw : T.wfs [c.t, i64 k, x.t, p.t] = true := by
    have h1 := h.wf; have h2 := wf_int hk; have h3 := hx.wf; have h4 := hp.wf
    simp only [T.wfs, h1, h2, h3, h4, Bool.and_self]
  rw [q40, W_ok hw, clB_ok (f37_ok (by omega) h)]
  unfold inR in1B
  cases csane c with
  | false => rfl
  | true =>
  simp only [Bool.not_true, cond_false, Bool.true_and]
  rw [clB_ok (f81_ok h hk)]
  cases hh : hasB c k with
  | false => rfl
  | true =>
  simp only [Bool.not_true, cond_false, Bool.true_and]
  rw [clB_ok (f82_ok (by omega) hx)]
  cases psane x with
  | false => rfl
  | true =>
  simp only [Bool.not_true, cond_false, Bool.true_and]
  rw [clB_ok (f83_ok (by omega) hp)]
  cases asane7 p with
  | false => rfl
  | true =>
  simp only [Bool.not_true, cond_false, if_true]
  obtain ⟨i, s, rfl, hi, hs⟩ := has_nat hh
  have ho := h.s.2 _ (List.mem_of_getElem? hs)
  rw [atT_get (map_get hs), Int.toNat_natCast, hs]
  have c1 : (s.t.cells.length == 4 && !s.t.isTup) = true := rfl
  have p0 : s.t.partD 0 1 false = i64 s.a := rfl
  have p1 : s.t.partD 1 1 false = i64 s.r := rfl
  have p2 : s.t.partD 2 1 false = .sl 6 (s.i.map Ru.t) := rfl
  rw [c1, chk_true, p0, p1, p2]
  have hl : ((ints p.s).length : Int) = (p.s.length : Int) := by rw [ints_map, List.length_map]
  rw [hl]
  by_cases h0 : p.s.length = 0
  · have hn : p.s = [] := List.eq_nil_of_length_eq_zero h0
    rw [beq_iff_eq.2 (show (p.s.length : Int) = 0 by omega)]
    simp only [cond_true]
    have : ¬ ((p.s[0]? = some s.a ∧ p.s.length ≤ 32) ∧ p.s.contains c.a = false) := by rw [hn]; simp
    rw [if_neg this]; rfl
  rw [beq_eq_false_iff_ne.2 (show (p.s.length : Int) ≠ 0 by omega)]
  simp only [cond_false]
  have hg : p.s[0]? = some (p.s[0]'(by omega)) := List.getElem?_eq_getElem (by omega)
  refine (atT_get (i := 0) (ints_get hg)).trans ?_
  simp only [iT_int]
  by_cases h1 : p.s[0]'(by omega) = s.a
  case neg =>
    rw [bne_iff_ne.2 h1]
    have : ¬ ((p.s[0]? = some s.a ∧ p.s.length ≤ 32) ∧ p.s.contains c.a = false) := fun e => by rw [hg] at e; exact h1 (Option.some.inj e.1.1)
    rw [if_neg this]; rfl
  rw [h1, bne_self_eq_false]
  simp only [cond_false]
  rw [clB_ok (f84_ok (by omega) (pa_ints hp) h.a)]
  cases h2 : p.s.contains c.a with
  | true =>
    rw [if_neg (by simp)]; rfl
  | false =>
  simp only [cond_false]
  by_cases h3 : p.s.length ≤ 32
  case neg => rw [decide_eq_true (show (p.s.length : Int) > 32 by omega), if_neg (fun e => h3 e.1.2)]; rfl
  rw [decide_eq_false (show ¬ (p.s.length : Int) > 32 by omega), if_pos (by simp [hg, h1, h3])]
  simp only [cond_false]
  rw [cl_ok (f85_ok ho.r ho.a hp.c)]
  have c2 : ((i64 s.r).cells.length == 1 && !(i64 s.r).isTup) = true := rfl
  simp only [compT, List.getElem?_cons_zero, List.getElem?_cons_succ, c2, chk_true]
  have hv : (vwI x p s.r).ok := ⟨hx, pa_ints hp, ho.r⟩
  refine (cl_ok (f := 86) (f86_ok (M := m) (v := vwI x p s.r) (by omega) ho.i hv)).trans ?_
  cases hr : roleIn s.r s.a p.c with
  | none =>
    cases pickR s.i (vwI x p s.r) <;> rfl
  | some o =>
    cases hp2 : pickR s.i (vwI x p s.r) with
    | none => rfl
    | some u =>
      have c3 : (u.t.cells.length == 6 && !u.t.isTup) = true := rfl
      have p4 : u.t.partD 4 1 false = i64 u.a := rfl
      simp only [compT, List.getElem?_cons_zero, List.getElem?_cons_succ, bT_bool, c3, chk_true, Option.isSome_some, Bool.not_true, cond_false, p4, iT_int, Option.getD_some]
      by_cases h4 : u.a = 2
      · rw [h4, if_pos rfl, bne_self_eq_false]; rfl
      · rw [bne_iff_ne.2 h4, if_neg h4]; rfl
theorem more_spec {u : Ru} (h : rsane u false = true) (ha : u.a ≠ 0) : u.n = if u.a = 3 then u.n else 0 := by
  unfold rsane actB at h
  simp only [Bool.and_eq_true] at h
  have h2 := h.2.2
  rw [if_neg ha] at h2
  split
  · rfl
  · rename_i h3
    split at h2
    · simpa using h2
    split at h2
    · simp at h2
    · first | cases h2 | (rw [if_neg h3] at h2; cases h2)
end Go.Sim

/- What the functions of layer 19 answer: the document's. -/
namespace Go.Sim
open Go.RowKit Go.Proofs
set_option linter.unusedVariables false
set_option linter.unusedSimpArgs false
set_option linter.unusedSectionVars false
set_option maxRecDepth 100000
def putS2 (x : Px) (s : List Px × Bool) (y : Px) : List Px × Bool := ((if cmpP x y < 0 ∧ s.2 = false then s.1 ++ [x] else s.1) ++ [y], s.2 || decide (cmpP x y ≤ 0))
theorem put_done (x : Px) : ∀ (l r : List Px), l.foldl (putS2 x) (r, true) = (r ++ l, true)
  | [], r => by simp
  | y :: l, r => by
    rw [List.foldl_cons, show putS2 x (r, true) y = (r ++ [y], true) by simp [putS2], put_done x l]
    simp
theorem put_fold (x : Px) : ∀ (l r : List Px), (l.foldl (putS2 x) (r, false)).1 ++ (if (l.foldl (putS2 x) (r, false)).2 then [] else [x]) = r ++ putP x l
  | [], r => by simp [putP]
  | y :: l, r => by
    rw [List.foldl_cons]
    simp only [putP]
    by_cases h1 : cmpP x y < 0
    · rw [show putS2 x (r, false) y = (r ++ [x] ++ [y], true) by simp [putS2, h1]; omega, put_done, if_pos h1]
      simp
    · rw [if_neg h1]
      by_cases h2 : cmpP x y = 0
      · rw [show putS2 x (r, false) y = (r ++ [y], true) by simp [putS2, h2], put_done, if_pos h2]
        simp
      · rw [show putS2 x (r, false) y = (r ++ [y], false) by simp [putS2, h1]; omega, put_fold x l, if_neg h2]
        simp
theorem put_len (x : Px) : ∀ l : List Px, (putP x l).length ≤ l.length + 1
  | [] => by simp [putP]
  | y :: l => by
    simp only [putP]
    split
    · simp
    · split
      · simp
      · have := put_len x l; simp; omega
theorem puts_len : ∀ (m l : List Px), (m.foldl (fun l x => putP x l) l).length ≤ m.length + l.length
  | [], l => by simp
  | x :: m, l => by
    rw [List.foldl_cons]
    have := puts_len m (putP x l)
    have := put_len x l
    simp; omega
theorem puts_ok {m l : List Px} (hm : ∀ x ∈ m, x.ok) (hl : ∀ x ∈ l, x.ok) : ∀ y ∈ m.foldl (fun l x => putP x l) l, y.ok := fun y hy => (puts_mem m l).1 hy |>.elim (hm y) (hl y)
variable [Lv]
theorem f74_ok {M : Nat} {x y : Px} (hx : x.ok) (hy : y.ok) : callP env (M + 1) 74 [x.t, y.t] = .ok (i64 (cmpP x y)) := by
  rw [q74, W_ok (wfs2 hx.wf hy.wf), eqPx_dec]
  rcases cmpP_cases x y with ⟨h, e⟩ | ⟨h, e⟩ | ⟨h, e⟩
  · rw [e]
    rcases h with h | ⟨h, h2⟩
    · rw [decide_eq_true h]; rfl
    · rw [decide_eq_false (by omega), h, beq_self_eq_true, decide_eq_true h2]; rfl
  · rw [e]
    have hne : x ≠ y := fun h2 => ltP_irrefl x (by rw [h2] at h ⊢; exact h)
    rw [decide_eq_false hne]
    rcases h with h | ⟨h, h2⟩
    · rw [decide_eq_false (by omega), show (x.a == y.a) = false by simp; omega]; rfl
    · rw [decide_eq_false (by omega), h, beq_self_eq_true, decide_eq_false (by omega)]; rfl
  · rw [e]
    subst h
    rw [decide_eq_false (by omega), beq_self_eq_true, decide_eq_false (by omega), decide_eq_true rfl]; rfl
def badS (l : List En) (i : Nat) : Bool := match l[i]? with | some e => !psane e.x || !asane7 e.p || (decide (0 < i) && upE l i) | none => false
theorem rises_cons {a : En} : ∀ {l : List En}, risesE (a :: l) = ((match l with | [] => true | b :: _ => decide (cmpP a.x b.x < 0)) && risesE l) := by
  intro l
  rw [Bool.eq_iff_iff, Bool.and_eq_true, rise_iff, rise_iff]
  cases l with
  | nil => simp [Rise]
  | cons b l =>
    simp only [decide_eq_true_eq, cmpP_lt]
    constructor
    · intro h
      obtain ⟨h1, h2⟩ := List.pairwise_cons.1 h
      exact ⟨h1 b List.mem_cons_self, h2⟩
    · rintro ⟨h1, h2⟩
      refine List.pairwise_cons.2 ⟨fun c hc => ?_, h2⟩
      rcases List.mem_cons.1 hc with rfl | hc
      · exact h1
      · exact ltP_trans h1 ((List.pairwise_cons.1 h2).1 c hc)
theorem bad_iff {l : List En} : (seekI (badS l) 0 l.length).isNone = tsane l := by
  rw [Bool.eq_iff_iff, Option.isNone_iff_eq_none, tsane_iff]
  constructor
  · intro h
    have h1 := seekI_none h
    have hs : ∀ i (hi : i < l.length), badS l i = false := fun i hi => h1 i (by omega) (by omega)
    refine ⟨?_, fun e he => ?_⟩
    · rw [← rise_iff]
      unfold risesE
      rw [Option.isNone_iff_eq_none]
      cases hu : seekI (upE l) 1 (l.length - 1) with
      | none => rfl
      | some j =>
        obtain ⟨a, b, c⟩ := seekI_some hu
        have hj : j < l.length := by omega
        have := hs j hj
        unfold badS at this
        rw [List.getElem?_eq_getElem hj] at this
        simp only [c, decide_eq_true (show 0 < j by omega), Bool.and_true, Bool.or_true] at this
        cases this
    · obtain ⟨i, hi, rfl⟩ := List.getElem_of_mem he
      have := hs i hi
      unfold badS at this
      rw [List.getElem?_eq_getElem hi] at this
      simp only [Bool.or_eq_false_iff, Bool.not_eq_false'] at this
      exact ⟨this.1.1, this.1.2⟩
  · rintro ⟨h1, h2⟩
    cases hk : seekI (badS l) 0 l.length with
    | none => rfl
    | some j =>
      obtain ⟨_, b, c⟩ := seekI_some hk
      have hj : j < l.length := by omega
      obtain ⟨p1, p2⟩ := h2 l[j] (List.getElem_mem hj)
      unfold badS at c
      rw [List.getElem?_eq_getElem hj] at c
      simp only [p1, p2, Bool.not_true, Bool.false_or, Bool.and_eq_true, decide_eq_true_eq] at c
      obtain ⟨c1, c2⟩ := c
      rw [← rise_iff] at h1
      unfold risesE at h1
      rw [Option.isNone_iff_eq_none] at h1
      have := seekI_none h1 j (by omega) (by omega)
      rw [this] at c2
      cases c2
theorem f105_ok {M : Nat} {l : List En} (hM : big + 50 ≤ M) (hl : okL En.ok l) : callP env (M + 1) 105 [.sl 6 (l.map En.t)] = .ok (.bool (tsane l)) := by
  obtain ⟨m, rfl⟩ := exM (show 1 ≤ M by omega)
  have hb := hl.1
  rw [q105, W_ok (wfs1 (wf_okL (fun _ h => En.ok.wf h) hl))]
  have := seek_gen (N := m + 1) (F := 105) (r := 2) (id := 0) (S := fun j => sS8 l (j : Int)) (R := fun _ => ⟨slots 45 [(2, .t (.bool false))], []⟩) (X := ⟨slots 45 [], []⟩) (badS l) (k := l.length) (by omega) (fun j hj => by
    have e1 : l[j]? = some l[j] := List.getElem?_eq_getElem hj
    have ho := hl.2 _ (List.getElem_mem hj)
    rw [b105_2, decide_eq_true (by rw [List.length_map]; omega)]
    simp only [cond_true]
    rw [atT_get (map_get e1), show (l[j].t.partD 0 2 true) = l[j].x.t from rfl, clB_ok (f82_ok (by omega) ho.x)]
    unfold badS
    rw [e1]
    simp only []
    cases psane l[j].x with
    | false => rfl
    | true =>
      simp only [Bool.not_true, cond_false, Bool.false_or]
      rw [atT_get (map_get e1), show (l[j].t.partD 2 4 true) = l[j].p.t from rfl, clB_ok (f83_ok (by omega) ho.p)]
      cases asane7 l[j].p with
      | false => rfl
      | true =>
        simp only [Bool.not_true, cond_false, Bool.false_or]
        by_cases h0 : 0 < j
        · have e0 : l[j - 1]? = some l[j - 1] := List.getElem?_eq_getElem (by omega)
          rw [decide_eq_true (show (j : Int) > 0 by omega), decide_eq_true h0]
          simp only [cond_true, Bool.true_and]
          rw [show IntKind.i64.wrap ((j : Int) - 1) = ((j - 1 : Nat) : Int) by rw [wrap64 (by have := big_val; omega)]; omega, atT_get (map_get e0), atT_get (map_get e1), show (l[j].t.partD 0 2 true) = l[j].x.t from rfl, show (l[j - 1].t.partD 0 2 true) = l[j - 1].x.t from rfl,
            clI_ok (f74_ok (hl.2 _ (List.getElem_mem _)).x ho.x), wrap_succ (show j ≤ big by omega)]
          unfold upE
          rw [e0, e1]
        · rw [decide_eq_false (show ¬ (j : Int) > 0 by omega), decide_eq_false h0, wrap_succ (show j ≤ big by omega)]
          rfl) (by rw [b105_2, decide_eq_false (by rw [List.length_map]; omega)]; rfl)
  refine this.trans ?_
  rw [← bad_iff]
  cases seekI (badS l) 0 l.length with
  | none => exact t105_2_exit0 _
  | some j => exact t105_2_ret _ _
theorem f80_ok {M : Nat} {l : List En} (hM : big + 51 ≤ M) (hl : okL En.ok l) : callP env (M + 1) 80 [.sl 6 (l.map En.t)] = .ok (.sl 6 ((known l).map En.t)) := by
  obtain ⟨m, rfl⟩ := exM (show 1 ≤ M by omega)
  rw [q80, W_ok (wfs1 (wf_okL (fun _ h => En.ok.wf h) hl)), clB_ok (f105_ok (by omega) hl)]
  unfold known
  cases tsane l <;> rfl
theorem okL_known {l : List En} (hl : okL En.ok l) : okL En.ok (known l) := ⟨Nat.le_trans (known_len l) hl.1, fun e he => hl.2 e (known_sub he)⟩
theorem find_seek {α : Type} (q : α → Bool) : ∀ (l : List α) (i : Nat) (p : Nat → Bool), (∀ j x, l[j]? = some x → p (i + j) = q x) → l.find? q = (seekI p i l.length).bind fun j => l[j - i]?
  | [], i, p, _ => rfl
  | x :: l, i, p, h => by
    have h0 := h 0 x rfl
    rw [Nat.add_zero] at h0
    rw [List.find?_cons]
    simp only [List.length_cons, seekI]
    rw [h0]
    cases q x with
    | true => simp
    | false =>
      simp only [cond_false]
      rw [find_seek q l (i + 1) p fun j y hy => by rw [show i + 1 + j = i + (j + 1) by omega]; exact h (j + 1) y (by simpa using hy)]
      cases hs : seekI p (i + 1) l.length with
      | none => rfl
      | some j =>
        have := (seekI_some hs).1
        simp only [Option.bind_some]
        rw [show j - i = (j - (i + 1)) + 1 by omega, List.getElem?_cons_succ]
theorem f39_ok {M : Nat} {l : List En} {x : Px} (hM : big + 53 ≤ M) (hl : okL En.ok l) (hx : x.ok) : callP env (M + 1) 39 [.sl 6 (l.map En.t), x.t] = .ok (.tup [((getE l x).getD Pa.none).t, .bool (getE l x).isSome]) := by
  obtain ⟨m, rfl⟩ := exM (show 1 ≤ M by omega)
  have hk := okL_known hl
  have hb := hk.1
  rw [q39, W_ok (wfs2 (wf_okL (fun _ h => En.ok.wf h) hl) hx.wf), cl_ok (f80_ok (by omega) hl)]
  generalize hL : known l = L at hk hb
  let p : Nat → Bool := fun j => match L[j]? with | some e => eqPx e.x x | none => false
  have hp : ∀ j e, L[j]? = some e → p j = eqPx e.x x := fun j e he => by show (match L[j]? with | some e => eqPx e.x x | none => false) = _; rw [he]
  have := seek_gen (N := m + 1) (F := 39) (r := 3) (id := 0) (S := fun j => sG8 L x (j : Int)) (R := fun j => ⟨slots 29 [(4, .ptr 0 0), (5, .t (.bool true))], [.box 35 4 (.t ((L.getD j ⟨⟨0, 0⟩, Pa.none⟩).p.t))]⟩)
    (X := ⟨slots 29 [(4, .ptr 0 0)], [.box 35 4 (.agg [.t (i64 0), .own 1, .t (i64 0), .t (i64 0)]), .row 3 1 []]⟩) p (k := L.length) (by omega) (fun j hj => by
    have e1 : L[j]? = some L[j] := List.getElem?_eq_getElem hj
    rw [b39_3, decide_eq_true (by rw [List.length_map]; omega)]
    simp only [cond_true]
    rw [atT_get (map_get e1), show (L[j].t.partD 0 2 true) = L[j].x.t from rfl, eqLs_cells, hp j _ e1, show eqPx L[j].x x = decide (L[j].x = x) from eqPx_dec _ _]
    simp only []
    cases decide (L[j].x = x) with
    | true =>
      simp only [cond_true]
      rw [atT_get (map_get e1), show (L[j].t.partD 2 4 true) = L[j].p.t from rfl, pa_chk, chk_true, List.getD_eq_getElem?_getD, e1]; rfl
    | false => rw [wrap_succ (show j ≤ big by omega)]; rfl) (by rw [b39_3, decide_eq_false (by rw [List.length_map]; omega)]; rfl)
  refine this.trans ?_
  have hg : getE l x = ((seekI p 0 L.length).bind fun j => L[j]?).map (·.p) := by
    unfold getE
    rw [hL, find_seek (fun e => eqPx e.x x) L 0 p fun j e he => by rw [Nat.zero_add]; exact hp j e he]
    simp
  rw [hg]
  cases hs : seekI p 0 L.length with
  | none => exact t39_3_exit0 _
  | some j =>
    have hj : j < L.length := by have := (seekI_some hs).2.1; omega
    have e1 : L[j]? = some L[j] := List.getElem?_eq_getElem hj
    simp only [Option.bind_some]
    rw [List.getD_eq_getElem?_getD, e1]
    exact t39_3_ret _ _ _
theorem f38_ok {M : Nat} {n : Int} (h : ok64 n = true) : callP env (M + 1) 38 [i64 n] = .ok (ownR n).t := by
  rw [q38, W_ok (wfs1 (wf_int h))]; rfl
theorem f103_ok {M : Nat} {a b : Int} (ha : ok64 a = true) (hb : ok64 b = true) : callP env (M + 1) 103 [i64 a, i64 b] = .ok (i64 (cmpI a b)) := by
  rw [q103, W_ok (wfs2 (wf_int ha) (wf_int hb))]
  unfold cmpI
  by_cases h : a < b
  · rw [decide_eq_true h, if_pos h]; rfl
  · rw [decide_eq_false h, if_neg h]
    by_cases h2 : b < a
    · rw [decide_eq_true (show a > b from h2), if_pos h2]; rfl
    · rw [decide_eq_false (show ¬ a > b from h2), if_neg h2]; rfl
theorem fnz_app : ∀ l m : List Int, fnz (l ++ m) = if fnz l = 0 then fnz m else fnz l
  | [], m => by simp [fnz]
  | a :: l, m => by
    have e1 : fnz (a :: l) = if a = 0 then fnz l else a := rfl
    have e2 : fnz (a :: (l ++ m)) = if a = 0 then fnz (l ++ m) else a := rfl
    show fnz (a :: (l ++ m)) = _
    by_cases h : a = 0
    · rw [if_pos h] at e1 e2
      rw [e1, e2]; exact fnz_app l m
    · rw [if_neg h] at e1 e2
      rw [e1, e2, if_neg h]
theorem fnz_zip : ∀ (l m : List Int), l.length = m.length → fnz ((l.zip m).map fun p => cmpI p.1 p.2) = cmpL l m
  | [], [], _ => rfl
  | [], _ :: _, h => by simp at h
  | _ :: _, [], h => by simp at h
  | a :: l, b :: m, h => by
    simp only [List.zip_cons_cons, List.map_cons, fnz, cmpL]
    by_cases e : a = b
    · rw [if_pos e, if_pos (cmpI_zero.2 e)]; exact fnz_zip l m (by simpa using h)
    · rw [if_neg e, if_neg (fun h => e (cmpI_zero.1 h))]
/-- The document's sum of comparisons is ours. -/
theorem fnz_cmpR (a b : Rt) : fnz ([cmpI b.n a.n, cmpI a.p.s.length b.p.s.length, cmpI a.p.o b.p.o] ++ ((a.p.s.zip b.p.s).map fun p => cmpI p.1 p.2) ++ [cmpI a.p.h b.p.h, cmpI a.p.c b.p.c, cmpI a.f b.f]) = cmpR a b := by
  rw [List.append_assoc, fnz_app]
  unfold cmpR
  by_cases h1 : cmpI b.n a.n = 0
  case neg => simp only [fnz, h1, if_false]
  by_cases h2 : cmpI (a.p.s.length : Int) (b.p.s.length : Int) = 0
  case neg => simp only [fnz, h1, h2, if_true, if_false]
  by_cases h3 : cmpI a.p.o b.p.o = 0
  case neg => simp only [fnz, h1, h2, h3, if_true, if_false]
  have hl : a.p.s.length = b.p.s.length := by have := cmpI_zero.1 h2; omega
  rw [fnz_app, fnz_zip _ _ hl]
  simp only [fnz, h1, h2, h3, if_true]
theorem f75_ok {M : Nat} {a b : Rt} (hM : big + 3 ≤ M) (ha : a.ok) (hb : b.ok) (hs : (a.p.s.length + 6) * 8 ≤ big) : callP env (M + 1) 75 [a.t, b.t] = .ok (i64 (cmpR a b)) := by
  obtain ⟨m, rfl⟩ := exM (show 1 ≤ M by omega)
  have hbig := big_val
  have ni : ∀ n : Nat, n ≤ big → ok64 (n : Int) = true := fun n hn => ok64_iff.2 (by omega)
  have la := ha.p.l
  have lb := hb.p.l
  rw [q75, W_ok (wfs2 ha.wf hb.wf), cl_ok (f103_ok hb.n ha.n), ints_map, ints_map, List.length_map, List.length_map, cl_ok (f103_ok (ni _ la) (ni _ lb)), cl_ok (f103_ok ha.p.o hb.p.o)]
  rw [show chkAll (T.okE 1) [i64 (cmpI b.n a.n), i64 (cmpI a.p.s.length b.p.s.length), i64 (cmpI a.p.o b.p.o)] = fun (K : Res T) => K from rfl]
  have hz : (a.p.s.zip b.p.s).length ≤ a.p.s.length := by rw [List.length_zip]; omega
  have hz2 : (a.p.s.zip b.p.s).length = min a.p.s.length b.p.s.length := List.length_zip
  have f1 := fold_gen (N := m + 1) (F := 75) (r := 3) (id := 0) (S := fun (l : List Int) j => sCp1 a b l (j : Int)) (X := fun l => ⟨slots 99 [(2, .ptr 0 0), (3, .ptr 1 0), (5, .own 2)], [.box 37 6 (.t a.t), .box 37 6 (.t b.t), .row 3 1 (ints l)]⟩) (fun (l : List Int) j => l.length = j + 3)
    (fun l (p : Int × Int) => l ++ [cmpI p.1 p.2]) (a.p.s.zip b.p.s) [cmpI b.n a.n, cmpI a.p.s.length b.p.s.length, cmpI a.p.o b.p.o] (by omega) (fun l j p hp hI => by
      obtain ⟨p1, p2⟩ := zip_at hp
      have hj : j < (a.p.s.zip b.p.s).length := (List.getElem?_eq_some_iff.1 hp).1
      rw [b75_3, decide_eq_true (by rw [ints_map, List.length_map]; omega), decide_eq_true (by rw [ints_map, List.length_map]; omega)]
      simp only [cond_true]
      rw [atT_get (ints_get p1), atT_get (ints_get p2), cl_ok (f103_ok (ha.p.s _ (List.mem_of_getElem? p1)) (hb.p.s _ (List.mem_of_getElem? p2)))]
      rw [show chkAll (T.okE 1) [i64 (cmpI p.1 p.2)] = fun (K : Res (Ex × St)) => K from rfl, decide_eq_true (by rw [ints_map, List.length_map]; omega), chk_true, wrap_succ (show j ≤ big by omega), show ints l ++ [i64 (cmpI p.1 p.2)] = ints (l ++ [cmpI p.1 p.2]) by simp [ints]]
      exact ⟨rfl, by simp; omega⟩) (fun l hI => by
      rw [b75_3]
      by_cases h : a.p.s.length ≤ b.p.s.length
      · rw [decide_eq_false (by rw [ints_map, List.length_map]; omega)]; rfl
      · rw [decide_eq_true (by rw [ints_map, List.length_map]; omega), decide_eq_false (by rw [ints_map, List.length_map]; omega)]; rfl) rfl
  obtain ⟨f1, f2⟩ := f1
  have hfold : ∀ (z : List (Int × Int)) (l : List Int), z.foldl (fun l p => l ++ [cmpI p.1 p.2]) l = l ++ z.map fun p => cmpI p.1 p.2 := by
    intro z
    induction z with
    | nil => simp
    | cons p z ih => intro l; rw [List.foldl_cons, ih]; simp
  rw [hfold] at f1 f2
  refine f1.trans ((t75_3_exit0 _ _ _ _).trans ?_)
  rw [cl_ok (f103_ok ha.p.h hb.p.h), cl_ok (f103_ok ha.p.c hb.p.c), cl_ok (f103_ok ha.f hb.f)]
  rw [show chkAll (T.okE 1) [i64 (cmpI a.p.h b.p.h), i64 (cmpI a.p.c b.p.c), i64 (cmpI a.f b.f)] = fun (K : Res T) => K from rfl, decide_eq_true (by rw [ints_map, List.length_map, f2]; omega), chk_true]
  rw [show ∀ l : List Int, ints l ++ [i64 (cmpI a.p.h b.p.h), i64 (cmpI a.p.c b.p.c), i64 (cmpI a.f b.f)] = ints (l ++ [cmpI a.p.h b.p.h, cmpI a.p.c b.p.c, cmpI a.f b.f]) by intro l; simp [ints], ← fnz_cmpR]
  generalize hv : [cmpI b.n a.n, cmpI a.p.s.length b.p.s.length, cmpI a.p.o b.p.o] ++ ((a.p.s.zip b.p.s).map fun p => cmpI p.1 p.2) ++ [cmpI a.p.h b.p.h, cmpI a.p.c b.p.c, cmpI a.f b.f] = vs
  have hvl : vs.length ≤ a.p.s.length + 6 := by rw [← hv]; simp; omega
  have hloop := iter_fnz (B := bodyL env (m + 1) 75 0 8) (S := fun j => sCp2 vs (j : Int)) (R := fun v => ⟨slots 99 [(4, .t (i64 v))], []⟩) (X := ⟨slots 99 [], []⟩) (id := 2) vs 0 (m + 1) (fun j v hv => by
    have hj : j < vs.length := (List.getElem?_eq_some_iff.1 hv).1
    rw [Nat.zero_add, b75_8, decide_eq_true (by rw [ints_map, List.length_map]; omega), show (decide ((0 : Int) ≤ (j : Int))) = true by simp]
    simp only [cond_true, Bool.and_self, chk_true, Int.toNat_natCast]
    rw [show (ints vs).getD j T.nilp = i64 v by rw [List.getD_eq_getElem?_getD, ints_get hv]; rfl]
    simp only [iT_int]
    by_cases h0 : v = 0
    · rw [if_pos h0, h0, wrap_succ (show j ≤ big by omega)]; rfl
    · rw [if_neg h0, show (v != 0) = true by simp [h0]]; rfl) (by rw [Nat.zero_add, b75_8, decide_eq_false (by rw [ints_map, List.length_map]; omega)]; rfl) (by omega)
  by_cases h0 : fnz vs = 0
  · rw [if_pos h0] at hloop
    rw [h0]
    exact (loopL_end hloop).trans (t75_8_exit2 _)
  · rw [if_neg h0] at hloop
    exact (loopL_end hloop).trans (t75_8_ret _ _)
theorem f35_ok {M : Nat} {l : List Rt} (hM : big + 5 ≤ M) (hl : okL Rt.ok l) (hs : ∀ r ∈ l, (r.p.s.length + 6) * 8 ≤ big) : callP env (M + 1) 35 [.sl 6 (l.map Rt.t)] = .ok (optR (bestR l)) := by
  obtain ⟨m, rfl⟩ := exM (show 1 ≤ M by omega)
  rw [q35, W_ok (wfs1 (wf_okL (fun _ h => Rt.ok.wf h) hl)), List.length_map]
  cases l with
  | nil => rfl
  | cons r l =>
    have hb := hl.1
    simp only [List.length_cons] at hb
    rw [show (((r :: l).length : Int) == 0) = false by simp; omega]
    simp only [cond_false]
    rw [show atT ((r :: l).map Rt.t) 0 = fun K : T → Res T => K r.t from by funext K; exact atT_get (i := 0) rfl]
    simp only []
    rw [rt_chk, chk_true]
    refine ((fold_gen (S := fun (b : Rt) j => sBs (r :: l) b ((j + 1 : Nat) : Int)) (X := fun b => ⟨slots 31 [(2, .ptr 0 0), (4, .ptr 1 0)], [.box 37 6 (.agg [.t (i64 0), .t (i64 0), .own 2, .t (i64 0), .t (i64 0), .t (i64 0)]), .box 37 6 (.t b.t), .row 3 1 []]⟩) (id := 0) (fun b _ => b.ok) (fun b r => if cmpR r b < 0 then r else b) l r (by omega) (fun b j x hx hI => ?_) (fun b hI => ?_) (hl.2 r List.mem_cons_self)).1).trans ((t35_5_exit0 _ _).trans rfl)
    · have hj : j < l.length := (List.getElem?_eq_some_iff.1 hx).1
      have hx' : (r :: l)[j + 1]? = some x := by simpa using hx
      have hm := List.mem_cons_of_mem r (List.mem_of_getElem? hx)
      have ho := hl.2 x hm
      rw [b35_5, decide_eq_true (by rw [List.length_map, List.length_cons]; omega)]
      simp only [cond_true]
      rw [atT_get (map_get hx'), clI_ok (f75_ok (by omega) ho hI (hs x hm))]
      rw [atT_get (map_get hx'), rt_chk, chk_true, wrap_succ (show j + 1 ≤ big by omega)]
      by_cases hc : cmpR x b < 0
      · rw [decide_eq_true hc, if_pos hc]; exact ⟨rfl, ho⟩
      · rw [decide_eq_false hc, if_neg hc]; exact ⟨rfl, hI⟩
    · rw [b35_5, decide_eq_false (by rw [List.length_map, List.length_cons]; omega)]; rfl
set_option maxHeartbeats 4000000 in
theorem f34_ok {M : Nat} {l : List Px} {x : Px} (hM : big + 2 ≤ M) (hl : okL Px.ok l) (hc : (l.length + 2) * 16 ≤ big) (hx : x.ok) : callP env (M + 1) 34 [.sl 2 (l.map Px.t), x.t] = .ok (.sl 2 ((putP x l).map Px.t)) := by
  obtain ⟨m, rfl⟩ := exM (show 1 ≤ M by omega)
  have hb := hl.1
  have hbig := big_val
  rw [q34, W_ok (wfs2 (wf_okL (fun _ h => Px.ok.wf h) hl) hx.wf)]
  have c2 : ∀ (y : Px) (K : Res (Ex × St)), chkAll (T.okE 2) [y.t] K = K := fun y K => rfl
  have app : ∀ (r : List Px) (y : Px), r.map Px.t ++ [y.t] = (r ++ [y]).map Px.t := fun r y => by simp
  have := fold_gen (N := m + 1) (F := 34) (r := 4) (id := 0) (S := fun (s : List Px × Bool) j => sPt l x s.1 s.2 (j : Int)) (X := fun s => ⟨slots 50 [(3, .ptr 0 0), (5, .own 1), (6, .t (.bool s.2))], [.box 29 2 (.t x.t), .row 29 2 (s.1.map Px.t)]⟩)
    (fun (s : List Px × Bool) j => s.1.length ≤ j + (if s.2 then 1 else 0)) (putS2 x) l ([], false) (by omega) (fun s j y hy hI => by
      obtain ⟨r, d⟩ := s
      have hj : j < l.length := (List.getElem?_eq_some_iff.1 hy).1
      simp only at hI ⊢
      have hr : r.length ≤ j + 1 := by split at hI <;> omega
      rw [b34_4, decide_eq_true (by rw [List.length_map]; omega)]
      simp only [cond_true]
      rw [atT_get (map_get hy), cl_ok (f74_ok hx (hl.2 y (List.mem_of_getElem? hy)))]
      simp only [iT_int]
      by_cases h1 : cmpP x y < 0
      · rw [decide_eq_true h1]
        simp only [cond_true]
        cases d with
        | true =>
          simp only [Bool.not_true, cond_false, cond_true]
          rw [atT_get (map_get hy), c2, decide_eq_true (by rw [List.length_map]; omega), chk_true, app, wrap_succ (show j ≤ big by omega)]
          refine ⟨?_, ?_⟩
          · simp [putS2, sPt]
          · simp [putS2]; simpa using hI
        | false =>
          simp only [Bool.not_false, cond_true, cond_false]
          rw [c2, decide_eq_true (by rw [List.length_map]; omega), chk_true, atT_get (map_get hy), c2, decide_eq_true (by rw [List.length_append, List.length_map]; simp; omega), chk_true, app, app, wrap_succ (show j ≤ big by omega), decide_eq_true (show cmpP x y ≤ 0 by omega)]
          refine ⟨?_, ?_⟩
          · have h2 : cmpP x y ≤ 0 := by omega
            simp [putS2, sPt, h1, h2]
          · have h2 : cmpP x y ≤ 0 := by omega
            simp [putS2, h1, h2]; simpa using hI
      · rw [decide_eq_false h1]
        simp only [cond_false]
        cases d with
        | true =>
          simp only [cond_true]
          rw [atT_get (map_get hy), c2, decide_eq_true (by rw [List.length_map]; omega), chk_true, app, wrap_succ (show j ≤ big by omega)]
          refine ⟨?_, ?_⟩
          · simp [putS2, sPt]
          · simp [putS2]; simpa using hI
        | false =>
          simp only [cond_false]
          rw [atT_get (map_get hy), c2, decide_eq_true (by rw [List.length_map]; omega), chk_true, app, wrap_succ (show j ≤ big by omega)]
          refine ⟨?_, ?_⟩
          · simp [putS2, sPt, h1]
          · simp [putS2, h1]; split <;> simp at hI <;> omega) (fun s hI => by
      rw [b34_4, decide_eq_false (by rw [List.length_map]; omega)]; rfl) (by simp)
  obtain ⟨g1, g2⟩ := this
  refine g1.trans ((t34_4_exit0 _ _ _ _).trans ?_)
  have hf := put_fold x l []
  rw [List.nil_append] at hf
  rw [← hf]
  generalize l.foldl (putS2 x) ([], false) = s at g2
  obtain ⟨r, d⟩ := s
  simp only at g2 ⊢
  cases d with
  | true => simp
  | false =>
    simp only [Bool.not_false, cond_true, Bool.false_eq_true, if_false]
    rw [show ∀ K : Res T, chkAll (T.okE 2) [x.t] K = K from fun K => rfl, decide_eq_true (by rw [List.length_map]; simp at g2; omega), chk_true, app]
end Go.Sim

/- What the functions of layer 19 answer: the document's, that go over tables and choices. -/
namespace Go.Sim
open Go.RowKit Go.Proofs
set_option linter.unusedVariables false
set_option linter.unusedSimpArgs false
set_option linter.unusedSectionVars false
set_option maxRecDepth 100000
def fewT (t : List (List En)) : Bool := !(t.any fun l => !fewE l) && decide (t.length ≤ 10)
def fewC (l : List Ch) : Bool := !(l.any fun c => decide (c.r.p.s.length > 100)) && decide (l.length ≤ 60)
variable [Lv]
theorem getC_seek {l : List Ch} {x : Px} {p : Nat → Bool} (hp : ∀ j c, l[j]? = some c → p j = decide (c.x = x)) : getC l x = ((seekI p 0 l.length).bind fun j => l[j]?).map Ch.r := by
  unfold getC
  rw [find_seek (fun c : Ch => c.x == x) l 0 p fun j c hc => by rw [Nat.zero_add, hp j c hc, Bool.eq_iff_iff]; simp]
  simp
theorem f10_ok {M : Nat} {l : List Ch} (hM : big + 1 ≤ M) (hl : okL Ch.ok l) : callP env (M + 1) 10 [.sl 8 (l.map Ch.t)] = .ok (.bool (fewC l)) := by
  obtain ⟨m, rfl⟩ := exM (show 1 ≤ M by omega)
  have hb := hl.1
  rw [q10, W_ok (wfs1 (wf_okL (fun _ h => Ch.ok.wf h) hl))]
  have := any_gen (N := m + 1) (F := 10) (r := 2) (id := 0) (S := fun j => sFC l (j : Int)) (fun c : Ch => decide (c.r.p.s.length > 100)) l (by omega) (fun j c hc => by
    have hj : j < l.length := (List.getElem?_eq_some_iff.1 hc).1
    rw [b10_2, decide_eq_true (by rw [List.length_map]; omega)]
    simp only [cond_true]
    rw [atT_get (map_get hc), show c.t.partD 4 1 false = .sl 1 (ints c.r.p.s) from rfl]
    simp only [sllT]
    rw [wrap_succ (show j ≤ big by omega), show decide (((ints c.r.p.s).length : Int) > 100) = decide (c.r.p.s.length > 100) by rw [ints_map, List.length_map]; exact decide_eq_decide.2 (by omega)]) (by
    rw [b10_2, decide_eq_false (by rw [List.length_map]; omega)]; rfl) (t10_2_ret _ _) (t10_2_exit0 _ _)
  refine this.trans ?_
  unfold fewC
  rw [show decide (((List.map Ch.t l).length : Int) ≤ 60) = decide (l.length ≤ 60) by rw [List.length_map]; exact decide_eq_decide.2 (by omega)]
  cases l.any fun c : Ch => decide (c.r.p.s.length > 100) <;> rfl
theorem f31_ok {M : Nat} {t : List (List En)} (hM : big + 3 ≤ M) (ht : okT t) : callP env (M + 1) 31 [.sl 1 (tabT t)] = .ok (.bool (fewT t)) := by
  obtain ⟨m, rfl⟩ := exM (show 1 ≤ M by omega)
  have hb := ht.1
  rw [q31, W_ok (wfs1 ht.wf)]
  have := any_gen (N := m + 1) (F := 31) (r := 2) (id := 0) (S := fun j => sFw t (j : Int)) (fun l : List En => !fewE l) t (by omega) (fun j l hl => by
    have hj : j < t.length := (List.getElem?_eq_some_iff.1 hl).1
    have ho := ht.2 l (List.mem_of_getElem? hl)
    rw [b31_2, decide_eq_true (by rw [List.length_map]; omega)]
    simp only [cond_true]
    rw [atT_get (tabs_get hl), clB_ok (f73_ok (by omega) ho.1 ho.2), wrap_succ (show j ≤ big by omega)]) (by
    rw [b31_2, decide_eq_false (by rw [List.length_map]; omega)]; rfl) (t31_2_ret _ _) (t31_2_exit0 _ _)
  refine this.trans ?_
  unfold fewT
  rw [show decide (((List.map (fun l => T.sl 6 (List.map En.t l)) t).length : Int) ≤ 10) = decide (t.length ≤ 10) by rw [List.length_map]; exact decide_eq_decide.2 (by omega)]
  cases t.any fun l : List En => !fewE l <;> rfl
theorem f12_ok {M : Nat} {l : List Ch} {x : Px} (hM : big + 1 ≤ M) (hl : okL Ch.ok l) (hx : x.ok) : callP env (M + 1) 12 [.sl 8 (l.map Ch.t), x.t] = .ok (optR (getC l x)) := by
  obtain ⟨m, rfl⟩ := exM (show 1 ≤ M by omega)
  have hb := hl.1
  rw [q12, W_ok (wfs2 (wf_okL (fun _ h => Ch.ok.wf h) hl) hx.wf)]
  let p : Nat → Bool := fun j => match l[j]? with | some c => decide (c.x = x) | none => false
  have hp : ∀ j c, l[j]? = some c → p j = decide (c.x = x) := fun j c hc => by show (match l[j]? with | some c => decide (c.x = x) | none => false) = _; rw [hc]
  have := seek_gen (N := m + 1) (F := 12) (r := 2) (id := 0) (S := fun j => sGt l x (j : Int)) (R := fun j => ⟨slots 26 [(4, .ptr 0 0), (5, .t (.bool true))], [.box 37 6 (.t (l.getD j ⟨⟨0, 0⟩, zRt⟩).r.t)]⟩)
    (X := ⟨slots 26 [(4, .ptr 0 0)], [.box 37 6 (.agg [.t (i64 0), .t (i64 0), .own 1, .t (i64 0), .t (i64 0), .t (i64 0)]), .row 3 1 []]⟩) p (k := l.length) (by omega) (fun j hj => by
    have e1 : l[j]? = some l[j] := List.getElem?_eq_getElem hj
    rw [b12_2, decide_eq_true (by rw [List.length_map]; omega)]
    simp only [cond_true]
    rw [atT_get (map_get e1), ch_x, eqLs_cells, hp j _ e1]
    simp only []
    cases decide (l[j].x = x) with
    | true =>
      simp only [cond_true]
      rw [atT_get (map_get e1), ch_r, rt_chk, chk_true, List.getD_eq_getElem?_getD, e1]; rfl
    | false => rw [wrap_succ (show j ≤ big by omega)]; rfl) (by rw [b12_2, decide_eq_false (by rw [List.length_map]; omega)]; rfl)
  refine this.trans ?_
  rw [getC_seek hp]
  cases hs : seekI p 0 l.length with
  | none => exact t12_2_exit0 _
  | some j =>
    have hj : j < l.length := by have := (seekI_some hs).2.1; omega
    have e1 : l[j]? = some l[j] := List.getElem?_eq_getElem hj
    simp only [Option.bind_some]
    rw [List.getD_eq_getElem?_getD, e1]
    exact t12_2_ret _ _ _
theorem f14_ok {M : Nat} {l m : List Rt} (hM : big + 5 ≤ M) (hl : okL Rt.ok l) (hm : okL Rt.ok m) : callP env (M + 1) 14 [.sl 6 (l.map Rt.t), .sl 6 (m.map Rt.t)] = .ok (.bool (decide (l = m))) := by
  obtain ⟨k, rfl⟩ := exM (show 1 ≤ M by omega)
  have hbl := hl.1
  have hbm := hm.1
  rw [q14, W_ok (wfs2 (wf_okL (fun _ h => Rt.ok.wf h) hl) (wf_okL (fun _ h => Rt.ok.wf h) hm)), ← same_gen (q := fun a b => decide (a = b)) (by simp) l m, List.length_map, List.length_map]
  by_cases h : l.length = m.length
  · rw [if_pos h, show ((l.length : Int) != (m.length : Int)) = false by rw [h]; simp]
    simp only [cond_false]
    refine pair_gen (S := fun i => sSr l m (i : Int)) (R := ⟨slots 27 [(4, .t (.bool false))], []⟩) (X := ⟨slots 27 [], []⟩) (id := 0) _ (by omega) h (fun j x y hx hy => ?_) ?_ (t14_4_ret _ _) (t14_4_exit0 _)
    · have hj : j < l.length := (List.getElem?_eq_some_iff.1 hx).1
      rw [b14_4, decide_eq_true (by rw [List.length_map]; omega)]
      simp only [cond_true]
      rw [atT_get (map_get hx), atT_get (map_get hy), clB_ok (f19_ok (by omega) (hl.2 x (List.mem_of_getElem? hx)) (hm.2 y (List.mem_of_getElem? hy))), wrap_succ (show j ≤ big by omega)]
    · rw [b14_4, decide_eq_false (by rw [List.length_map]; omega)]; rfl
  · rw [if_neg h, show ((l.length : Int) != (m.length : Int)) = true by simp; omega]; rfl
theorem f17_ok {M : Nat} {l m : List Ch} (hM : big + 5 ≤ M) (hl : okL Ch.ok l) (hm : okL Ch.ok m) : callP env (M + 1) 17 [.sl 8 (l.map Ch.t), .sl 8 (m.map Ch.t)] = .ok (.bool (decide (l = m))) := by
  obtain ⟨k, rfl⟩ := exM (show 1 ≤ M by omega)
  have hbl := hl.1
  have hbm := hm.1
  rw [q17, W_ok (wfs2 (wf_okL (fun _ h => Ch.ok.wf h) hl) (wf_okL (fun _ h => Ch.ok.wf h) hm)), ← same_gen (q := fun a b => decide (a = b)) (by simp) l m, List.length_map, List.length_map]
  by_cases h : l.length = m.length
  · rw [if_pos h, show ((l.length : Int) != (m.length : Int)) = false by rw [h]; simp]
    simp only [cond_false]
    refine pair_gen (S := fun i => sSm l m (i : Int)) (R := ⟨slots 42 [(4, .t (.bool false))], []⟩) (X := ⟨slots 42 [], []⟩) (id := 0) _ (by omega) h (fun j x y hx hy => ?_) ?_ (t17_4_ret _ _) (t17_4_exit0 _)
    · have hj : j < l.length := (List.getElem?_eq_some_iff.1 hx).1
      have e : decide (x = y) = (decide (x.x = y.x) && decide (x.r = y.r)) := by
        rw [Bool.eq_iff_iff]
        simp only [decide_eq_true_eq, Bool.and_eq_true]
        obtain ⟨a, b⟩ := x
        obtain ⟨a', b'⟩ := y
        simp
      rw [b17_4, decide_eq_true (by rw [List.length_map]; omega), e]
      simp only [cond_true]
      rw [atT_get (map_get hx), atT_get (map_get hy), ch_x, ch_x, show y.x.t.cells = [i64 y.x.a, i64 y.x.n] from rfl, eqLs_cells]
      simp only []
      cases decide (x.x = y.x) with
      | false => rfl
      | true =>
        simp only [Bool.not_true, cond_false, Bool.true_and]
        rw [atT_get (map_get hx), atT_get (map_get hy), ch_r, ch_r, clB_ok (f19_ok (by omega) (hl.2 x (List.mem_of_getElem? hx)).r (hm.2 y (List.mem_of_getElem? hy)).r), wrap_succ (show j ≤ big by omega)]
    · rw [b17_4, decide_eq_false (by rw [List.length_map]; omega)]; rfl
  · rw [if_neg h, show ((l.length : Int) != (m.length : Int)) = true by simp; omega]; rfl
/-- One's own route, once for each time that a prefix stands among one's own. -/
def ownAdd (c : Cf) (x : Px) (r : List Rt) (y : Px) : List Rt := if y = x then r ++ [ownR c.d] else r
theorem own_len (c : Cf) (x : Px) : ∀ (l : List Px) (r : List Rt), (l.foldl (ownAdd c x) r).length ≤ l.length + r.length
  | [], r => by simp
  | y :: l, r => by
    rw [List.foldl_cons]
    have h1 := own_len c x l (ownAdd c x r y)
    have h2 : (ownAdd c x r y).length ≤ r.length + 1 := by unfold ownAdd; split <;> simp
    simp only [List.length_cons]
    omega
theorem own_fold {c : Cf} (h : csane c = true) (x : Px) : c.w.foldl (ownAdd c x) [] = if c.w.contains x then [ownR c.d] else [] := by
  have hf : freshB id psane [] c.w = true := by
    unfold csane at h
    simp only [Bool.and_eq_true] at h
    exact h.2.2.2.2.2.2.2.1
  have hn := (fresh_iff.1 hf)
  have hnd : c.w.Nodup := by
    rw [List.nodup_iff_pairwise_ne, List.pairwise_iff_getElem]
    intro i j hi hj hij he
    have h3 := (hn j c.w[j] (List.getElem?_eq_getElem hj)).1
    have h4 : ([] ++ (c.w.take j).map id).contains (id c.w[j]) = true := by
      rw [List.nil_append, List.map_id, id, List.contains_iff_mem, ← he]
      exact List.mem_take_iff_getElem.2 ⟨i, by omega, rfl⟩
    rw [h4] at h3
    cases h3
  clear hf hn h
  have main : ∀ (l : List Px) (r : List Rt), l.Nodup → l.foldl (ownAdd c x) r = r ++ if l.contains x then [ownR c.d] else [] := by
    intro l
    induction l with
    | nil => intro r _; simp
    | cons y l ih =>
      intro r hl
      obtain ⟨h1, h2⟩ := List.nodup_cons.1 hl
      rw [List.foldl_cons, ih _ h2]
      unfold ownAdd
      by_cases e : y = x
      · subst e
        have : l.contains y = false := by rw [Bool.eq_false_iff]; intro h; exact h1 (List.contains_iff_mem.1 h)
        rw [if_pos rfl, this, show (y :: l).contains y = true by simp]; simp
      · rw [if_neg e]
        have : (y :: l).contains x = l.contains x := by rw [List.contains_cons, show (x == y) = false by simp; exact fun h => e h.symm]; rfl
        rw [this]
  rw [main _ _ hnd]; simp
theorem f16_ok {M : Nat} {c : Cf} {t : List (List En)} {x : Px} (hM : big + 70 ≤ M) (h : c.ok) (ht : okT t) (hx : x.ok) : callP env (M + 1) 16 [c.t, .sl 1 (tabT t), x.t] = .ok (.sl 6 ((thoseR c t x).map Rt.t)) := by
  obtain ⟨m, rfl⟩ := exM (show 1 ≤ M by omega)
  have hbt := ht.1
  have hbs := h.s.1
  have hbw := h.w.1
  have hbig := big_val
  rw [q16, W_ok (wfs3 h.wf ht.wf hx.wf), clB_ok (f37_ok (by omega) h)]
  unfold thoseR
  cases hc : csane c with
  | false => rfl
  | true =>
    have hs8 : c.s.length ≤ 8 := (csane_parts hc).2.2.2.2
    have hw8 : c.w.length ≤ 8 := by
      have h := hc
      unfold csane at h
      simp only [Bool.and_eq_true, decide_eq_true_eq] at h
      exact h.2.2.2.2.2.1
    simp only [Bool.not_true, cond_false, if_true]
    have c6 : ∀ (q : Rt) (K : Res (Ex × St)), chkAll (T.okE 6) [q.t] K = K := fun q K => rfl
    have app : ∀ (r : List Rt) (q : Rt), r.map Rt.t ++ [q.t] = (r ++ [q]).map Rt.t := fun r q => by simp
    have f1 := fold_gen (N := m + 1) (F := 16) (r := 5) (id := 0) (S := fun (r : List Rt) j => sTh1 c t x r (j : Int)) (X := fun r => ⟨slots 76 [(1, .t (.sl 1 (tabT t))), (3, .ptr 0 0), (5, .ptr 1 0), (7, .own 2)], [.box 25 6 (.t c.t), .box 29 2 (.t x.t), .row 37 6 (r.map Rt.t)]⟩)
      (fun (r : List Rt) j => r.length ≤ j) (ownAdd c x) c.w [] (by omega) (fun r j y hy hI => by
        have hj : j < c.w.length := (List.getElem?_eq_some_iff.1 hy).1
        rw [b16_5, decide_eq_true (by rw [List.length_map]; omega)]
        simp only [cond_true]
        rw [atT_get (map_get hy), eqLs_cells]
        simp only []
        unfold ownAdd
        by_cases e : y = x
        · rw [decide_eq_true e, if_pos e]
          simp only [cond_true]
          rw [cl_ok (f38_ok h.d), c6, decide_eq_true (by rw [List.length_map]; omega), chk_true, app, wrap_succ (show j ≤ big by omega)]
          exact ⟨rfl, by simp; omega⟩
        · rw [decide_eq_false e, if_neg e, wrap_succ (show j ≤ big by omega)]
          exact ⟨rfl, by omega⟩) (fun r hI => by rw [b16_5, decide_eq_false (by rw [List.length_map]; omega)]; rfl) (by simp)
    refine f1.1.trans ((t16_5_exit0 _ _ _ _ _).trans ?_)
    have hol := f1.2
    rw [own_fold hc] at hol ⊢
    have hr0 : (if c.w.contains x then [ownR c.d] else []).length ≤ 1 := by split <;> simp
    generalize (if c.w.contains x then [ownR c.d] else []) = r0 at hr0
    have := fold_gen (N := m + 1) (F := 16) (r := 10) (id := 2) (S := fun (r : List Rt) j => sTh2 c t x r (j : Int)) (X := fun r => ⟨slots 76 [(7, .own 0)], [.row 37 6 (r.map Rt.t)]⟩) (fun (r : List Rt) j => r.length ≤ j + 1) (fun r k => r ++ addR c t x k) (List.range (min t.length c.s.length)) r0 (by rw [List.length_range]; omega)
        (fun r j k hk hI => by
          have hk' : j < min t.length c.s.length := by have := (List.getElem?_eq_some_iff.1 hk).1; simpa using this
          obtain rfl : j = k := by rw [List.getElem?_range hk'] at hk; simpa using hk
          have hjt : j < t.length := by omega
          have e1 : t[j]? = some t[j] := List.getElem?_eq_getElem hjt
          have hl := ht.2 _ (List.getElem_mem hjt)
          have hko : ok64 (j : Int) = true := ok64_iff.2 (by omega)
          rw [b16_10, decide_eq_true (by rw [List.length_map]; omega), decide_eq_true (by rw [List.length_map]; omega)]
          simp only [cond_true]
          rw [atT_get (tabs_get e1), cl_ok (f39_ok (by omega) hl hx)]
          simp only [compT, List.getElem?_cons_zero, List.getElem?_cons_succ, pa_chk, chk_true]
          have hp : ((getE t[j] x).getD Pa.none).ok := get_ok hl.2
          rw [cl_ok (f40_ok (by omega) h hko hx hp), optR_eq]
          simp only [compT, List.getElem?_cons_zero, List.getElem?_cons_succ, rt_chk, chk_true, bT_bool]
          rw [wrap_succ (show j ≤ big by omega)]
          cases hg : getE t[j] x with
          | none =>
            have : addR c t x j = [] := by unfold addR; rw [e1, Option.bind_some, hg]; rfl
            rw [this, List.append_nil]
            exact ⟨rfl, by omega⟩
          | some p =>
            simp only [Option.getD_some, Option.isSome_some, cond_true]
            cases hi : inR c (j : Int) x p with
            | none =>
              have : addR c t x j = [] := by unfold addR; rw [e1, Option.bind_some, hg, Option.bind_some, hi]; rfl
              rw [this, List.append_nil]
              exact ⟨rfl, by omega⟩
            | some q =>
              have : addR c t x j = [q] := by unfold addR; rw [e1, Option.bind_some, hg, Option.bind_some, hi]; rfl
              rw [this]
              simp only [Option.isSome_some, cond_true, Option.getD_some]
              rw [c6, decide_eq_true (by rw [List.length_map]; omega), chk_true, app]
              exact ⟨rfl, by rw [List.length_append, List.length_singleton]; omega⟩)
        (fun r hI => by
          rw [List.length_range, b16_10]
          by_cases hlt : c.s.length ≤ t.length
          · rw [decide_eq_false (by rw [List.length_map]; omega)]; rfl
          · rw [decide_eq_true (by rw [List.length_map]; omega), decide_eq_false (by rw [List.length_map]; omega)]; rfl) (by omega)
    refine this.1.trans ((t16_10_exit2 _ _).trans ?_)
    rw [foldl_pre, filterMap_flat]; rfl
end Go.Sim

/- What the functions of layer 19 answer: the document's choices. -/
namespace Go.Sim
open Go.RowKit Go.Proofs
set_option linter.unusedVariables false
set_option linter.unusedSimpArgs false
set_option linter.unusedSectionVars false
set_option maxRecDepth 100000
theorem those_len {c : Cf} {t : List (List En)} {x : Px} : (thoseR c t x).length ≤ 1 + t.length := by
  unfold thoseR
  split
  · rw [List.length_append]
    have h1 := List.length_filterMap_le (fun (k : Nat) => (t[k]?).bind fun l => (getE l x).bind fun p => inR c (k : Int) x p) (List.range (min t.length c.s.length))
    rw [List.length_range] at h1
    split <;> simp <;> omega
  · simp
/-- Are there few enough prefixes? -/
def roomT (c : Cf) (t : List (List En)) : Prop := (seenL c t).length * 128 ≤ big
def rowX (l : List Px) (r : List En) : List Px := r.foldl (fun l e => putP e.x l) l
theorem rowX_map (l : List Px) (r : List En) : rowX l r = (r.map En.x).foldl (fun l x => putP x l) l := by rw [List.foldl_map]; rfl
theorem rows_flat : ∀ (t : List (List En)) (l : List Px), t.foldl rowX l = (t.flatMap fun r => r.map En.x).foldl (fun l x => putP x l) l
  | [], l => rfl
  | r :: t, l => by rw [List.foldl_cons, List.flatMap_cons, List.foldl_append, rows_flat t, rowX_map]
theorem keys_rows (c : Cf) (t : List (List En)) : keysR c t = (t.take c.s.length).foldl rowX (c.w.foldl (fun l x => putP x l) []) := by
  unfold keysR seenL
  rw [List.foldl_append, rows_flat]
theorem flat_take_le {α : Type} {t : List (List α)} {j : Nat} {r : List α} (h : t[j]? = some r) : ((t.take j).flatten).length + r.length ≤ t.flatten.length := flat_take h
theorem fm_flat {α β : Type} (f : α → List β) (t : List α) : (t.flatMap f) = (t.map f).flatten := by rw [List.flatMap_def]
variable [Lv]
theorem those_short {c : Cf} {t : List (List En)} {x : Px} : ∀ r ∈ thoseR c t x, r.p.s.length ≤ 32 := fun r hr => by
  rcases (mem_those.1 hr).2 with ⟨_, rfl⟩ | ⟨k, l, p, h1, h2, h3, h4⟩
  · exact Nat.zero_le _
  · obtain ⟨g1, g2, g3, i, s, m, u, e, hi, hs, h4', h5, h6, h7, h8, h9, rfl⟩ := inR_spec h4
    exact h5
theorem choice_step {c : Cf} {t : List (List En)} {x : Px} : locR c t = (keysR c t).foldl (fun r x => r ++ (choiceR c t x).toList) [] := filterMap_flat _ _
/-- How many prefixes there are at most, behind so many tables. -/
theorem weights (c : Cf) (t : List (List En)) : ∃ w : Nat → Nat, w 0 = c.w.length ∧ (∀ j r, (t.take c.s.length)[j]? = some r → w (j + 1) = w j + r.length ∧ w (j + 1) ≤ (seenL c t).length) ∧ w (t.take c.s.length).length ≤ (seenL c t).length := by
  have hsl : (seenL c t).length = c.w.length + (((t.take c.s.length).map fun r => r.map En.x).flatten).length := by unfold seenL; rw [List.length_append, fm_flat]
  refine ⟨fun j => c.w.length + ((((t.take c.s.length).map fun r => r.map En.x).take j).flatten).length, by simp, fun j r hr => ?_, ?_⟩
  · have hm : ((t.take c.s.length).map fun r => r.map En.x)[j]? = some (r.map En.x) := by rw [List.getElem?_map, hr]; rfl
    have h1 := flat_take hm
    have h2 := take_flat hm
    rw [List.length_map] at h1
    refine ⟨?_, ?_⟩
    · show c.w.length + _ = c.w.length + _ + _
      rw [h2, List.length_append, List.length_map, Nat.add_assoc]
    · show c.w.length + _ ≤ _
      rw [h2, List.length_append, List.length_map, hsl]
      exact Nat.add_le_add_left h1 _
  · show c.w.length + _ ≤ _
    rw [hsl, List.take_of_length_le (by rw [List.length_map]; exact Nat.le_refl _)]
    exact Nat.le_refl _
theorem cond_two {α : Type} {a b : Bool} {x y : α} (h : (a && b) = false) : (bif a then bif b then x else y else y) = y := by cases a <;> cases b <;> simp_all
theorem cap_le {a b c k B : Nat} (h : a ≤ b + k) (hk : k < c) (hc : (b + c + 2) * 16 ≤ B) : (a + 2) * 16 ≤ B ∧ a ≤ B := by omega
/-- What has been laid so far: nothing yet, or some. -/
def stepO (o : Option (List Px)) (x : Px) : Option (List Px) := some (putP x (o.getD []))
def rowO (o : Option (List Px)) (r : List En) : Option (List Px) := r.foldl (fun o e => stepO o e.x) o
theorem foldO {α : Type} (f : α → Px) : ∀ (m : List α) (o : Option (List Px)), (m.foldl (fun o a => stepO o (f a)) o).getD [] = m.foldl (fun l a => putP (f a) l) (o.getD [])
  | [], o => rfl
  | x :: m, o => by rw [List.foldl_cons, List.foldl_cons, foldO f m]; rfl
theorem rowO_get (o : Option (List Px)) (r : List En) : (rowO o r).getD [] = rowX (o.getD []) r := foldO En.x r o
theorem rowsO_get : ∀ (t : List (List En)) (o : Option (List Px)), (t.foldl rowO o).getD [] = t.foldl rowX (o.getD [])
  | [], o => rfl
  | r :: t, o => by rw [List.foldl_cons, List.foldl_cons, rowsO_get t, rowO_get]
def oL1 (c : Cf) (t : List (List En)) (o : Option (List Px)) (i : Int) : St := match o with | none => sL1o c t i | some l => sL1 c t l i
def oL2 (c : Cf) (t : List (List En)) (o : Option (List Px)) (i : Int) : St := match o with | none => sL2o c t i | some l => sL2 c t l i
def oL3 (c : Cf) (t : List (List En)) (o : Option (List Px)) (i j : Int) : St := match o with | none => sL3o c t i j | some l => sL3 c t l i j
def oX (c : Cf) (t : List (List En)) (o : Option (List Px)) : St := match o with
  | none => ⟨slots 87 [(1, .t (.sl 1 (tabT t))), (2, .ptr 0 0), (5, .own 1)], [.box 25 6 (.t c.t), .row 29 2 []]⟩
  | some l => ⟨slots 87 [(1, .t (.sl 1 (tabT t))), (2, .ptr 0 0), (5, .t (.sl 2 (l.map Px.t)))], [.box 25 6 (.t c.t)]⟩
theorem loc_in {m : Nat} {c : Cf} {t : List (List En)} {o : Option (List Px)} {j : Nat} {r : List En} (hM : big + 80 ≤ m + 1) (ht : okT t) (e1 : t[j]? = some r) (hl : ∀ x ∈ o.getD [], x.ok) (hlen : ((o.getD []).length + r.length + 2) * 16 ≤ big) :
    loopI env (m + 1) 13 7 10 (oL3 c t o (j : Int) 0) = tailI env (m + 1) 13 0 7 10 (.exit 4) (oL2 c t (rowO o r) (j : Int)) ∧ ((rowO o r).getD []).length ≤ (o.getD []).length + r.length ∧ ∀ x ∈ (rowO o r).getD [], x.ok := by
  have hbig := big_val
  have hro := ht.2 r (List.mem_of_getElem? e1)
  have hbr := hro.1
  have f3 := iter_fold (B := bodyI env (m + 1) 13 0 7 10) (S := fun (o : Option (List Px)) k => oL3 c t o (j : Int) (k : Int)) (X := fun o => oL2 c t o (j : Int)) (id := 4) (n := m + 1) (fun (o' : Option (List Px)) k => (o'.getD []).length ≤ (o.getD []).length + k ∧ ∀ x ∈ o'.getD [], x.ok) (fun o e => stepO o e.x) r o (by omega) (fun o' k e he hK => by
        have hk : k < r.length := (List.getElem?_eq_some_iff.1 he).1
        have hxo := (hro.2 e (List.mem_of_getElem? he)).x
        have hd : decide ((k : Int) < ((r.map En.t).length : Int)) = true := decide_eq_true (by rw [List.length_map]; omega)
        obtain ⟨hc3, hc2⟩ := cap_le hK.1 hk hlen
        have hput := f34_ok (M := m) (by omega) ⟨hc2, hK.2⟩ hc3 hxo
        have hw := wrap_succ (show k ≤ big by omega)
        refine ⟨?_, ?_, fun y hy => ?_⟩
        · cases o' with
          | none =>
            refine (bo13_7_10 _ _ _ _ _).trans ?_
            rw [atT_get (tabs_get e1)]
            simp only [sllT]
            rw [hd]
            simp only [cond_true]
            rw [atT_get (tabs_get e1)]
            simp only [slT, if_true]
            rw [atT_get (map_get he), show e.t.partD 0 2 true = e.x.t from rfl, show (T.sl 2 [] : T) = .sl 2 (((none : Option (List Px)).getD []).map Px.t) from rfl, cl_ok hput, hw]
            rfl
          | some l =>
            refine (b13_7_10 _ _ _ _ _ _).trans ?_
            rw [atT_get (tabs_get e1)]
            simp only [sllT]
            rw [hd]
            simp only [cond_true]
            rw [atT_get (tabs_get e1)]
            simp only [slT, if_true]
            rw [atT_get (map_get he), show e.t.partD 0 2 true = e.x.t from rfl, show l.map Px.t = ((some l).getD []).map Px.t from rfl, cl_ok hput, hw]
            rfl
        · have := put_len e.x (o'.getD []); have := hK.1; simp only [stepO, Option.getD_some]; omega
        · rcases mem_put.1 hy with rfl | hy
          · exact hxo
          · exact hK.2 y hy) (fun o' hK => by
        have hd : decide ((r.length : Int) < ((r.map En.t).length : Int)) = false := decide_eq_false (by rw [List.length_map]; omega)
        cases o' with
        | none =>
          refine (bo13_7_10 _ _ _ _ _).trans ?_
          rw [atT_get (tabs_get e1)]
          simp only [sllT]
          rw [hd]; rfl
        | some l =>
          refine (b13_7_10 _ _ _ _ _ _).trans ?_
          rw [atT_get (tabs_get e1)]
          simp only [sllT]
          rw [hd]; rfl) ⟨by omega, hl⟩
  exact ⟨loopI_end f3.1, f3.2.1, f3.2.2⟩
theorem loc_one {m : Nat} {c : Cf} {t : List (List En)} (hM : big + 80 ≤ m + 1) (h : c.ok) (hbw : c.w.length * 128 ≤ big) :
    loopL env (m + 1) 13 3 (oL1 c t none 0) = tailL env (m + 1) 13 0 3 (outK env 13) (.exit 0) (oX c t (c.w.foldl stepO none)) ∧ ((c.w.foldl stepO none).getD []).length ≤ c.w.length ∧ ∀ x ∈ (c.w.foldl stepO none).getD [], x.ok := by
  have hbig := big_val
  exact fold_gen (N := m + 1) (F := 13) (r := 3) (id := 0) (S := fun (o : Option (List Px)) j => oL1 c t o (j : Int)) (X := oX c t) (fun (o : Option (List Px)) j => (o.getD []).length ≤ j ∧ ∀ x ∈ o.getD [], x.ok) stepO c.w none (by omega) (fun o j x hx hI => by
      have hj : j < c.w.length := (List.getElem?_eq_some_iff.1 hx).1
      have hxo := h.w.2 x (List.mem_of_getElem? hx)
      have hd : decide ((j : Int) < ((c.w.map Px.t).length : Int)) = true := decide_eq_true (by rw [List.length_map]; omega)
      have h1 := hI.1
      generalize hol : (o.getD []).length = n at h1
      have hput := f34_ok (M := m) (l := o.getD []) (by omega) ⟨by rw [hol]; omega, hI.2⟩ (by rw [hol]; omega) hxo
      have hw := wrap_succ (show j ≤ big by omega)
      refine ⟨?_, ?_, fun y hy => ?_⟩
      · cases o with
        | none =>
          refine (bo13_3 _ _ _ _).trans ?_
          rw [hd]
          simp only [cond_true]
          rw [atT_get (map_get hx), show (T.sl 2 [] : T) = .sl 2 (((none : Option (List Px)).getD []).map Px.t) from rfl, cl_ok hput, hw]
          rfl
        | some l =>
          refine (b13_3 _ _ _ _ _).trans ?_
          rw [hd]
          simp only [cond_true]
          rw [atT_get (map_get hx), show l.map Px.t = ((some l).getD []).map Px.t from rfl, cl_ok hput, hw]
          rfl
      · have := put_len x (o.getD []); simp only [stepO, Option.getD_some]; omega
      · rcases mem_put.1 hy with rfl | hy
        · exact hxo
        · exact hI.2 y hy) (fun o hI => by
      have hd : decide ((c.w.length : Int) < ((c.w.map Px.t).length : Int)) = false := decide_eq_false (by rw [List.length_map]; omega)
      cases o with
      | none => refine (bo13_3 _ _ _ _).trans ?_; rw [hd]; rfl
      | some l => refine (b13_3 _ _ _ _ _).trans ?_; rw [hd]; rfl) ⟨by simp, by simp⟩
theorem loc_two {m W : Nat} {c : Cf} {t : List (List En)} {w : Nat → Nat} {o0 : Option (List Px)} (hM : big + 80 ≤ m + 1) (hbs : c.s.length ≤ big) (ht : okT t) (hr : W * 128 ≤ big) (w1 : ∀ j r, (t.take c.s.length)[j]? = some r → w (j + 1) = w j + r.length ∧ w (j + 1) ≤ W) (g1 : (o0.getD []).length ≤ w 0) (g2 : ∀ x ∈ o0.getD [], x.ok) :
    loopL env (m + 1) 13 7 (oL2 c t o0 0) = tailL env (m + 1) 13 0 7 (outK env 13) (.exit 2) (oX c t ((t.take c.s.length).foldl rowO o0)) ∧ (((t.take c.s.length).foldl rowO o0).getD []).length ≤ w (t.take c.s.length).length ∧ ∀ x ∈ ((t.take c.s.length).foldl rowO o0).getD [], x.ok := by
  have hbig := big_val
  have hbt := ht.1
  have hget : ∀ {j : Nat} {r : List En}, (t.take c.s.length)[j]? = some r → t[j]? = some r ∧ j < c.s.length ∧ j < t.length := fun {j r} hr => by
    rw [List.getElem?_take] at hr
    split at hr
    · exact ⟨hr, by assumption, (List.getElem?_eq_some_iff.1 hr).1⟩
    · cases hr
  exact fold_gen (N := m + 1) (F := 13) (r := 7) (id := 2) (S := fun (o : Option (List Px)) j => oL2 c t o (j : Int)) (X := oX c t) (fun (o : Option (List Px)) j => (o.getD []).length ≤ w j ∧ ∀ x ∈ o.getD [], x.ok) rowO (t.take c.s.length) o0 (by rw [List.length_take]; omega) (fun o j r hr' hI => by
      obtain ⟨e1, hj1, hj2⟩ := hget hr'
      obtain ⟨x1, x2⟩ := w1 j r hr'
      have hI1 := hI.1
      generalize hol : (o.getD []).length = n at hI1
      obtain ⟨f3a, f3b, f3c⟩ := loc_in (m := m) (c := c) hM ht e1 hI.2 (by rw [hol]; omega)
      have hd1 : decide ((j : Int) < ((t.map fun l => T.sl 6 (l.map En.t)).length : Int)) = true := decide_eq_true (by rw [List.length_map]; omega)
      have hd2 : decide ((j : Int) < ((c.s.map Sd.t).length : Int)) = true := decide_eq_true (by rw [List.length_map]; omega)
      have hw := wrap_succ (show j ≤ big by omega)
      have htail : tailI env (m + 1) 13 0 7 10 (.exit 4) (oL2 c t (rowO o r) (j : Int)) = .ok (.norm, oL2 c t (rowO o r) ((j + 1 : Nat) : Int)) := by
        rw [← hw]
        cases rowO o r with
        | none => exact to13_7_10_exit4 _ _ _ _
        | some l => exact t13_7_10_exit4 _ _ _ _ _
      refine ⟨?_, ?_, f3c⟩
      · cases o with
        | none => refine (bo13_7 _ _ _ _).trans ?_; rw [hd1, hd2]; exact f3a.trans htail
        | some l => refine (b13_7 _ _ _ _ _).trans ?_; rw [hd1, hd2]; exact f3a.trans htail
      · rw [hol] at f3b
        exact Nat.le_trans f3b (by omega)) (fun o hI => by
      rw [List.length_take]
      have hd : (decide (((min c.s.length t.length : Nat) : Int) < ((t.map fun l => T.sl 6 (l.map En.t)).length : Int)) && decide (((min c.s.length t.length : Nat) : Int) < ((c.s.map Sd.t).length : Int))) = false := by
        rw [List.length_map, List.length_map, Bool.and_eq_false_iff, decide_eq_false_iff_not, decide_eq_false_iff_not]; omega
      cases o with
      | none => exact (bo13_7 _ _ _ _).trans (cond_two hd)
      | some l => exact (b13_7 _ _ _ _ _).trans (cond_two hd)) ⟨g1, g2⟩
theorem loc_three {m : Nat} {c : Cf} {t : List (List En)} {ks : List Px} (hM : big + 80 ≤ m + 1) (h : c.ok) (ht : okT t) (kx : ∀ x ∈ ks, x.ok) (klen : ks.length * 128 ≤ big) :
    loopL env (m + 1) 13 15 (sL4 c t ks [] 0) = tailL env (m + 1) 13 0 15 (outK env 13) (.exit 6) ⟨slots 87 [(9, .own 0)], [.row 49 8 ((ks.foldl (fun r x => r ++ (choiceR c t x).toList) []).map Ch.t)]⟩ := by
  have hbig := big_val
  refine (fold_gen (N := m + 1) (F := 13) (r := 15) (id := 6) (S := fun (r : List Ch) j => sL4 c t ks r (j : Int)) (X := fun r => ⟨slots 87 [(9, .own 0)], [.row 49 8 (r.map Ch.t)]⟩)
    (fun (r : List Ch) j => r.length ≤ j) (fun r x => r ++ (choiceR c t x).toList) ks [] (by omega) (fun r j x hx hI => by
      have hj : j < ks.length := (List.getElem?_eq_some_iff.1 hx).1
      have hxo := kx x (List.mem_of_getElem? hx)
      have hto := those_step_ok (x := x) h ht
      have htl := those_len (c := c) (t := t) (x := x)
      have hth := those_short (c := c) (t := t) (x := x)
      have hq : okL Rt.ok (thoseR c t x) := ⟨by
        unfold thoseR
        cases hcs : csane c with
        | false => simp
        | true =>
          have := (csane_parts hcs).2.2.2.2
          have h1 := List.length_filterMap_le (fun (k : Nat) => (t[k]?).bind fun l => (getE l x).bind fun p => inR c (k : Int) x p) (List.range (min t.length c.s.length))
          rw [List.length_range] at h1
          simp only [if_true, List.length_append]
          split <;> simp <;> omega, hto⟩
      rw [b13_15, decide_eq_true (by rw [List.length_map]; omega)]
      simp only [cond_true]
      rw [atT_get (map_get hx), cl_ok (f16_ok (by omega) h ht hxo), cl_ok (f35_ok (by omega) hq (fun r hr => by have := hth r hr; omega)), optR_eq]
      simp only [compT, List.getElem?_cons_zero, List.getElem?_cons_succ, rt_chk, chk_true, bT_bool]
      rw [wrap_succ (show j ≤ big by omega)]
      unfold choiceR
      cases hb : bestR (thoseR c t x) with
      | none => exact ⟨by simp, by simp; omega⟩
      | some q =>
        simp only [Option.isSome_some, cond_true, Option.getD_some, Option.map_some, Option.toList_some]
        rw [atT_get (map_get hx), show (x.t.cells.length == 2 && !x.t.isTup) = true from rfl, chk_true]
        rw [show T.agg [x.t.cell 0, x.t.cell 1, q.t.cell 0, q.t.cell 1, q.t.cell 2, q.t.cell 3, q.t.cell 4, q.t.cell 5] = (Ch.mk x q).t from rfl, show ∀ K : Res (Ex × St), chkAll (T.okE 8) [(Ch.mk x q).t] K = K from fun K => rfl, decide_eq_true (by rw [List.length_map]; omega), chk_true]
        refine ⟨?_, by simp; omega⟩
        unfold sL4
        rw [List.map_append]; rfl) (fun r hI => by rw [b13_15, decide_eq_false (by rw [List.length_map]; omega)]; rfl) (by simp)).1
theorem f13_ok {M : Nat} {c : Cf} {t : List (List En)} (hM : big + 80 ≤ M) (h : c.ok) (ht : okT t) (hr : roomT c t) : callP env (M + 1) 13 [c.t, .sl 1 (tabT t)] = .ok (.sl 8 ((locR c t).map Ch.t)) := by
  obtain ⟨m, rfl⟩ := exM (show 1 ≤ M by omega)
  unfold roomT at hr
  obtain ⟨w, w0, w1, w2⟩ := weights c t
  obtain ⟨W, hW⟩ : ∃ W, (seenL c t).length = W := ⟨_, rfl⟩
  rw [hW] at hr w2
  have w1' : ∀ j r, (t.take c.s.length)[j]? = some r → w (j + 1) = w j + r.length ∧ w (j + 1) ≤ W := by rw [← hW]; exact w1
  have hwc : c.w.length ≤ W := by rw [← hW]; unfold seenL; rw [List.length_append]; exact Nat.le_add_right _ _
  rw [q13, W_ok (wfs2 h.wf ht.wf)]
  obtain ⟨f1, g1, g2⟩ := loc_one (t := t) hM h (Nat.le_trans (Nat.mul_le_mul_right 128 hwc) hr)
  refine f1.trans ?_
  obtain ⟨f2, k1, k2⟩ := loc_two hM h.s.1 ht hr w1' (by rw [w0]; exact g1) g2
  have hkeys : ((t.take c.s.length).foldl rowO (c.w.foldl stepO none)).getD [] = keysR c t := by
    rw [rowsO_get, keys_rows, foldO (fun x => x)]; rfl
  have t1 : tailL env (m + 1) 13 0 3 (outK env 13) (.exit 0) (oX c t (c.w.foldl stepO none)) = loopL env (m + 1) 13 7 (oL2 c t (c.w.foldl stepO none) 0) := by
    cases c.w.foldl stepO none with
    | none => exact to13_3_exit0 _ _ _
    | some l => exact t13_3_exit0 _ _ _ _
  refine t1.trans (f2.trans ?_)
  have klen : (((t.take c.s.length).foldl rowO (c.w.foldl stepO none)).getD []).length ≤ W := Nat.le_trans k1 w2
  rw [show locR c t = (keysR c t).foldl (fun r x => r ++ (choiceR c t x).toList) [] from choice_step (x := ⟨0, 0⟩)]
  rw [← hkeys]
  generalize (t.take c.s.length).foldl rowO (c.w.foldl stepO none) = o at k2 klen
  cases o with
  | none =>
    refine (to13_7_exit2 _ _ _).trans ?_
    have : bodyL env (m + 1) 13 0 15 (sL4o c t 0) = .ok (.exit 6, ⟨slots 87 [(9, .own 0)], [.row 49 8 (([] : List Ch).map Ch.t)]⟩) := by rw [bo13_15]; rfl
    exact (loopL_end (iterR_exit this)).trans (t13_15_exit6 _ [])
  | some ks =>
    refine (t13_7_exit2 _ _ _ _).trans ?_
    exact (loc_three hM h ht k2 (Nat.le_trans (Nat.mul_le_mul_right 128 klen) hr)).trans (t13_15_exit6 _ _)
end Go.Sim

/- Which functions and types of this seat the sort of the library leans on (printed by wip/tools/genlay.py). -/
namespace Go.Proofs
set_option maxRecDepth 100000
def sortL_ren : Go.Shelf.Ren := ⟨fun | 6 => 42 | 15 => 89 | 14 => 88 | 28 => 116 | 29 => 117 | 20 => 108 | 21 => 109 | 22 => 110 | 23 => 111 | 24 => 112 | 25 => 113 | 26 => 114 | 27 => 115 | 46 => 131 | 47 => 132 | 48 => 133 | 49 => 134 | 50 => 135 | 57 => 139 | n => n, fun | 22 => 27 | 24 => 49 | 25 => 76 | 3 => 3 | 39 => 108 | 0 => 0 | 53 => 127 | 55 => 129 | 4 => 4 | 46 => 121 | 45 => 120 | 50 => 86 | 5 => 5 | 9 => 9 | 66 => 143 | 70 => 147 | 76 => 152 | 77 => 153 | n => n, fun | n => n⟩
theorem sortL : Go.Proofs.SlLaysF0.n6 Tryz.prog sortL_ren where
  mixed := by kernel_rfl
  f6 := ⟨ "slices.SortFunc[[]ridgeway/api.Choice,ridgeway/api.Choice]", by decide, Tryz.func42.trans (congrArg some (by kernel_rfl))⟩
  f14 := ⟨ "slices.pdqsortCmpFunc[ridgeway/api.Choice]", by decide, Tryz.func88.trans (congrArg some (by kernel_rfl))⟩
  f15 := Tryz.func89.trans (congrArg some (by kernel_rfl))
  f20 := ⟨ "slices.insertionSortCmpFunc[ridgeway/api.Choice]", by decide, Tryz.func108.trans (congrArg some (by kernel_rfl))⟩
  f21 := ⟨ "slices.heapSortCmpFunc[ridgeway/api.Choice]", by decide, Tryz.func109.trans (congrArg some (by kernel_rfl))⟩
  f22 := ⟨ "slices.breakPatternsCmpFunc[ridgeway/api.Choice]", by decide, Tryz.func110.trans (congrArg some (by kernel_rfl))⟩
  f23 := ⟨ "slices.choosePivotCmpFunc[ridgeway/api.Choice]", by decide, Tryz.func111.trans (congrArg some (by kernel_rfl))⟩
  f24 := ⟨ "slices.reverseRangeCmpFunc[ridgeway/api.Choice]", by decide, Tryz.func112.trans (congrArg some (by kernel_rfl))⟩
  f25 := ⟨ "slices.partialInsertionSortCmpFunc[ridgeway/api.Choice]", by decide, Tryz.func113.trans (congrArg some (by kernel_rfl))⟩
  f26 := ⟨ "slices.partitionEqualCmpFunc[ridgeway/api.Choice]", by decide, Tryz.func114.trans (congrArg some (by kernel_rfl))⟩
  f27 := ⟨ "slices.partitionCmpFunc[ridgeway/api.Choice]", by decide, Tryz.func115.trans (congrArg some (by kernel_rfl))⟩
  f28 := Tryz.func116.trans (congrArg some (by kernel_rfl))
  f29 := Tryz.func117.trans (congrArg some (by kernel_rfl))
  f46 := ⟨ "slices.siftDownCmpFunc[ridgeway/api.Choice]", by decide, Tryz.func131.trans (congrArg some (by kernel_rfl))⟩
  f47 := Tryz.func132.trans (congrArg some (by kernel_rfl))
  f48 := Tryz.func133.trans (congrArg some (by kernel_rfl))
  f49 := ⟨ "slices.medianAdjacentCmpFunc[ridgeway/api.Choice]", by decide, Tryz.func134.trans (congrArg some (by kernel_rfl))⟩
  f50 := ⟨ "slices.medianCmpFunc[ridgeway/api.Choice]", by decide, Tryz.func135.trans (congrArg some (by kernel_rfl))⟩
  f57 := ⟨ "slices.order2CmpFunc[ridgeway/api.Choice]", by decide, Tryz.func139.trans (congrArg some (by kernel_rfl))⟩
  t0 := Tryz.underlying0
  a0 := Tryz.isAgg0
  z0 := Tryz.sizeOf0
  v0 := Tryz.zeroValue0
  t3 := Tryz.underlying3
  a3 := Tryz.isAgg3
  z3 := Tryz.sizeOf3
  v3 := Tryz.zeroValue3
  t4 := Tryz.underlying4
  a4 := Tryz.isAgg4
  z4 := Tryz.sizeOf4
  v4 := Tryz.zeroValue4
  t5 := Tryz.underlying5
  a5 := Tryz.isAgg5
  z5 := Tryz.sizeOf5
  v5 := Tryz.zeroValue5
  t9 := Tryz.underlying9
  a9 := Tryz.isAgg9
  z9 := Tryz.sizeOf9
  v9 := Tryz.zeroValue9
  t22 := Tryz.underlying27
  a22 := Tryz.isAgg27
  z22 := Tryz.sizeOf27
  v22 := Tryz.zeroValue27
  t25 := Tryz.underlying76
  a25 := Tryz.isAgg76
  z25 := Tryz.sizeOf76
  v25 := Tryz.zeroValue76
  t39 := Tryz.underlying108
  a39 := Tryz.isAgg108
  z39 := Tryz.sizeOf108
  v39 := Tryz.zeroValue108
  t45 := Tryz.underlying120
  a45 := Tryz.isAgg120
  z45 := Tryz.sizeOf120
  v45 := Tryz.zeroValue120
  t46 := Tryz.underlying121
  a46 := Tryz.isAgg121
  z46 := Tryz.sizeOf121
  v46 := Tryz.zeroValue121
  t50 := Tryz.underlying86
  a50 := Tryz.isAgg86
  z50 := Tryz.sizeOf86
  v50 := Tryz.zeroValue86
  t53 := Tryz.underlying127
  a53 := Tryz.isAgg127
  z53 := Tryz.sizeOf127
  v53 := Tryz.zeroValue127
  t55 := Tryz.underlying129
  a55 := Tryz.isAgg129
  z55 := Tryz.sizeOf129
  v55 := Tryz.zeroValue129
  t66 := Tryz.underlying143
  a66 := Tryz.isAgg143
  z66 := Tryz.sizeOf143
  v66 := Tryz.zeroValue143
  t70 := Tryz.underlying147
  a70 := Tryz.isAgg147
  z70 := Tryz.sizeOf147
  v70 := Tryz.zeroValue147
  t76 := Tryz.underlying152
  a76 := Tryz.isAgg152
  z76 := Tryz.sizeOf152
  v76 := Tryz.zeroValue152
  t77 := Tryz.underlying153
  a77 := Tryz.isAgg153
  z77 := Tryz.sizeOf153
  v77 := Tryz.zeroValue153
end Go.Proofs

/- slices.SortFunc, of choices, by their prefixes: what its caller leans on. -/
namespace Go.Sim
open Go.RowKit Go.Proofs Go.Sort Go.Shelf
set_option linter.unusedVariables false
set_option linter.unusedSimpArgs false
set_option linter.unusedSectionVars false
set_option maxRecDepth 100000
/-- Cells, and the choice that they read as. -/
def CellsC (F : Nat → Prop) (w : World) : Type := { p : List Value × Ch // Rd F w p.2.t (.agg p.1.toArray) }
section
variable {F : Nat → Prop} {w : World}
def CellsC.mk (v : List Value) (c : Ch) (h : Rd F w c.t (.agg v.toArray)) : CellsC F w := ⟨(v, c), h⟩
def CellsC.enc (x : CellsC F w) : List Value := x.1.1
def CellsC.key (x : CellsC F w) : Ch := x.1.2
theorem CellsC.rd (x : CellsC F w) : Rd F w x.key.t (.agg x.enc.toArray) := x.2
theorem rd_parts {c : Ch} {v : List Value} (h : Rd F w c.t (.agg v.toArray)) : v.length = 8 ∧ (∀ u ∈ v, u.oneCell' = true) ∧ ∀ (i : Nat) (x : T) (u : Value), c.t.cells[i]? = some x → v[i]? = some u → Rd F w x u := by
  unfold Ch.t at h
  generalize hv : v.toArray = a at h
  cases h with
  | agg hl h1 hr =>
    have := congrArg Array.toList hv
    simp only at this
    subst this
    exact ⟨hl, h1, hr⟩
def cfC (x y : CellsC F w) : Int := cmpP x.key.x y.key.x
theorem cfC_swo : SWO (ltOf (cfC (F := F) (w := w))) where
  irrefl x := by unfold ltOf cfC; rw [decide_eq_false_iff_not, cmpP_lt]; exact ltP_irrefl _
  trans x y z h1 h2 := by
    unfold ltOf cfC at *
    rw [decide_eq_true_eq, cmpP_lt] at *
    exact ltP_trans h1 h2
  ntrans x y z h1 h2 := by
    unfold ltOf cfC at *
    rw [decide_eq_false_iff_not, cmpP_lt] at *
    unfold ltP at *
    omega
end
theorem sortW_heap {α : Type} [Inhabited α] {enc : α → List Value} {k : Nat} {w : World} {g m : Nat} {dk : Array α} {os : Array Obj} {b : Nat} (hb : b < w.heap.size) (hne : b ≠ g) : (sortWorldK enc k w g 0 m dk os).heap[b]? = w.heap[b]? := by
  unfold sortWorldK grow putRowK putRow mapBlock
  show (((Sort.ahead w m).heap.modify g _) ++ os)[b]? = _
  rw [Array.getElem?_append_left (by simpa [Sort.ahead] using hb), Array.getElem?_modify, if_neg (fun h => hne h.symm)]
  rfl
theorem sortW_row {α : Type} [Inhabited α] {enc : α → List Value} {k : Nat} {w : World} {g m : Nat} {dk : Array α} {os : Array Obj} {cur : Array Value} {e : TypeId} {fr : Nat × Nat} (hg : w.heap[g]? = some (.cells cur e fr)) :
    (sortWorldK enc k w g 0 m dk os).heap[g]? = some (.cells (putCells id 0 (flatK enc k dk) cur) e fr) := by
  unfold sortWorldK grow putRowK putRow mapBlock
  show (((Sort.ahead w m).heap.modify g _) ++ os)[g]? = _
  have hlt := (Array.getElem?_eq_some_iff.1 hg).1
  rw [Array.getElem?_append_left (by simpa [Sort.ahead] using hlt), Array.getElem?_modify, if_pos rfl]
  show Option.map _ w.heap[g]? = _
  rw [hg]; rfl
variable [Lv]
theorem sort_choice (he : EnvOk env) {l : List Ch} (hne : l ≠ []) (ho : okL Ch.ok l) : SrtOk env 42 49 8 (l.map Ch.t) [.fn 43 [] []] fun ys => ∃ m : List Ch, ys = m.map Ch.t ∧ m.Perm l ∧ m.Pairwise fun a b => ¬ cmpP b.x a.x < 0 := by
  intro F κ w H i vals s hH hl hr
  obtain ⟨cs, o1, o2, o3, o4, o5⟩ := s.ro i _ hH
  have hn : (l.map Ch.t).length = l.length := by simp
  rw [hn] at o1 o2
  have hcs : cs.length = l.length * 8 := o1.1
  have hpos : 0 < l.length := List.length_pos_iff.2 hne
  rcases o1.2 with ⟨_, h0⟩ | ⟨g, cap, cur, e1, _, e3, e4, e5, e6, e7⟩
  · omega
  have hglt : g < w.heap.size := (Array.getElem?_eq_some_iff.1 e3).1
  have hgF : ¬ F g := (s.lt i _ g hH (by simp [blk, e1, Value.ownBlock])).2
  -- the closure
  obtain ⟨v, rfl⟩ : ∃ v, vals = [v] := by
    match vals, hl with
    | [v], _ => exact ⟨v, rfl⟩
  have hv : v = .func (.func 43) #[] #[] := by
    have := hr 0 _ v rfl rfl
    cases this with
    | fn hlf hlc _ _ => simp at hlf hlc; subst hlf; subst hlc; rfl
  subst hv
  -- the elements
  have hchunk : ∀ j (hj : j < l.length), Rd F w l[j].t (.agg ((cs.drop (j * 8)).take 8).toArray) := fun j hj => by
    have hlen : ((cs.drop (j * 8)).take 8).length = 8 := by rw [List.length_take, List.length_drop, hcs]; omega
    have hx : (l.map Ch.t)[j]? = some l[j].t := map_get (List.getElem?_eq_getElem hj)
    unfold Ch.t at hx ⊢
    refine .agg hlen (fun u hu => o4 u (List.mem_of_mem_drop (List.mem_of_mem_take hu))) fun q x u hq hu => ?_
    have hq8 : q < 8 := by have := (List.getElem?_eq_some_iff.1 hq).1; simpa using this
    refine o5 j _ q x u hx hq ?_
    rw [List.getElem?_take, if_pos hq8, List.getElem?_drop] at hu
    exact hu
  let dl : List (CellsC F w) := List.ofFn fun j : Fin l.length => CellsC.mk ((cs.drop (j * 8)).take 8) l[j] (hchunk j j.2)
  have hdl : dl.length = l.length := List.length_ofFn
  have hdget : ∀ j (hj : j < l.length), dl[j]? = some (CellsC.mk ((cs.drop (j * 8)).take 8) l[j] (hchunk j hj)) := fun j hj => by
    show (List.ofFn _)[j]? = _
    rw [List.getElem?_ofFn, dif_pos hj]
    rfl
  have hkeys : dl.map CellsC.key = l := by
    refine List.ext_getElem? fun j => ?_
    rw [List.getElem?_map]
    rcases Nat.lt_or_ge j l.length with hj | hj
    · rw [hdget j hj, List.getElem?_eq_getElem hj]; rfl
    · rw [List.getElem?_eq_none (by rw [hdl]; exact hj), List.getElem?_eq_none hj]; rfl
  haveI : Inhabited (CellsC F w) := ⟨CellsC.mk ((cs.drop (0 * 8)).take 8) l[0] (hchunk 0 hpos)⟩
  have hsz : dl.toArray.size = l.length := by simp [hdl]
  have eg : ∀ args w, (callFunc 43 args).run Tryz.prog w = .ok (.enter 43 args) w := enters_of Tryz.func43 (by kernel_rfl) rfl
  have hflat : ∀ (dk : Array (CellsC F w)) j q, j < dk.size → q < 8 → (flatK CellsC.enc 8 dk)[j * 8 + q]? = (dk[j]!).enc[q]? := fun dk j q hj hq => by
    have hlt : j * 8 + q < dk.size * 8 := by omega
    have h8 := (rd_parts (dk[j]!).rd).1
    have h1 := get_flatK CellsC.enc 8 dk (j * 8 + q) hlt
    rw [show (j * 8 + q) / 8 = j by omega, show (j * 8 + q) % 8 = q by omega] at h1
    rw [Array.getElem?_eq_getElem (by rw [size_flatK]; exact hlt), List.getElem?_eq_getElem (by omega)]
    rw [getElem!_pos _ _ (by rw [size_flatK]; exact hlt), getElem!_pos _ _ (by omega)] at h1
    rw [h1]
  have hHolds : HoldsK CellsC.enc 8 w g 0 dl.toArray := fun j hj => by
    rw [size_flatK, hsz] at hj
    have hj8 : j / 8 < l.length := by omega
    have e8 : j / 8 * 8 + j % 8 = j := by omega
    have hc : cs[j]? = some cs[j] := List.getElem?_eq_getElem (by omega)
    refine ⟨?_, ?_⟩
    · have h1 : (flatK CellsC.enc 8 dl.toArray)[j]? = cs[j]? := by
        have h0 := hflat dl.toArray (j / 8) (j % 8) (by rw [hsz]; exact hj8) (Nat.mod_lt _ (by omega))
        rw [e8] at h0
        rw [h0]
        have : dl.toArray[j / 8]! = CellsC.mk ((cs.drop (j / 8 * 8)).take 8) l[j / 8] (hchunk _ hj8) := by
          rw [getElem!_pos _ _ (by rw [hsz]; exact hj8)]
          have := hdget _ hj8
          rw [List.getElem?_eq_getElem (by rw [hdl]; exact hj8)] at this
          exact Option.some.inj this
        rw [this]
        show ((cs.drop (j / 8 * 8)).take 8)[j % 8]? = cs[j]?
        rw [List.getElem?_take, if_pos (Nat.mod_lt _ (by omega)), List.getElem?_drop, e8]
      have h2 : (flatK CellsC.enc 8 dl.toArray)[j]! = cs[j] := by
        rw [hc] at h1
        obtain ⟨h3, h4⟩ := Array.getElem?_eq_some_iff.1 h1
        rw [getElem!_pos (flatK CellsC.enc 8 dl.toArray) j h3, h4]
      rw [h2, Nat.zero_add]
      show w.cell? ⟨g, j, none⟩ = some cs[j]
      have h5 : cur.toList[j]? = some cs[j] := by
        have : (cur.toList.take (l.length * 8))[j]? = cs[j]? := by rw [e7]
        rw [List.getElem?_take, if_pos (by omega), hc] at this
        exact this
      simp only [World.cell?, e3]
      simpa using h5
    · simp [World.frozen?, e3]
  have hFw : ∀ (m : Nat) (os : Array Obj) (dk : Array (CellsC F w)) b, F b → (sortWorldK CellsC.enc 8 w g 0 m dk os).heap[b]? = w.heap[b]? := fun m os dk b hb => sortW_heap (s.fl b hb) fun h => hgF (h ▸ hb)
  have hcmp : CmpLays Tryz.prog 43 #[] CellsC.enc 8 cfC g 0 dl.toArray.size w := fun m os dk hdk x y => by
    have hx := x.rd.mono (fun _ h => h) (hFw m os dk)
    have hy := y.rd.mono (fun _ h => h) (hFw m os dk)
    have hok : ∀ z : CellsC F w, z.key.ok := fun z => by
      have hw := z.rd.wf
      unfold Ch.t at hw
      simp only [T.wf, T.wfs, Bool.and_eq_true, decide_eq_true_eq, Bool.and_true] at hw
      obtain ⟨a1, a2, a3, a4, ⟨a5, a6⟩, a7, a8, a9⟩ := hw
      exact ⟨⟨a1, a2⟩, ⟨a3, ⟨a4, by rw [ints_map, List.length_map] at a5; exact a5, fun n hn => (by
        have := T.wfs_iff.1 a6 (i64 n) (List.mem_map.2 ⟨n, hn, rfl⟩)
        simpa [T.wf] using this), a7, a8⟩, a9⟩⟩
    have hcall := f43_ok (M := big + 3) (Nat.le_refl _) (hok x) (hok y)
    have hfl : ∀ b, F b → b < (sortWorldK CellsC.enc 8 w g 0 m dk os).heap.size := fun b hb => by
      have h1 := s.fl b hb
      have h2 := hFw m os dk b hb
      rw [Array.getElem?_eq_getElem h1] at h2
      exact (Array.getElem?_eq_some_iff.1 h2).1
    have := callP_calls_drawn (E := env) (F := F) (w := sortWorldK CellsC.enc 8 w g 0 m dk os) he (n := big + 3 + 1) (f := 43) (ts := [x.key.t, y.key.t]) rfl (by rw [hcall]; simp) (vals := [.agg x.enc.toArray, .agg y.enc.toArray]) rfl (fun q z u h1 h2 => by
      match q with
      | 0 => simp at h1 h2; subst h1; subst h2; exact hx
      | 1 => simp at h1 h2; subst h1; subst h2; exact hy
      | q + 2 => simp at h1) hfl
    refine Calls.mono this fun e w' => ?_
    rintro ⟨v, rfl, ⟨z, F', c1, c2, c3⟩, hd⟩
    rw [hcall] at c1
    injection c1 with c1
    subst c1
    have hvv : v = .int .i64 (cfC x y) := by
      cases c2 with
      | frozen _ h => cases h; rfl
    subst hvv
    refine ⟨rfl, ?_⟩
    obtain ⟨p, hp⟩ := regrown_of_below (w := sortWorldK CellsC.enc 8 w g 0 m dk os) (w' := w') ⟨c3.os, c3.tape, c3.output, c3.size, c3.old⟩
    refine ⟨p.d - (sortWorldK CellsC.enc 8 w g 0 m dk os).drawn, p.os, ?_⟩
    have hdp : w'.drawn = p.d := by rw [hp]; rfl
    rw [hdp] at hd
    rw [hp]
    unfold redrawn World.drewN
    rw [Nat.add_sub_cancel' hd]
  have hmain := AnyQ.slices_SortFunc sortL 8 (fun w => (run_isAgg' (show aggP Tryz.prog 49 = some true by kernel_rfl) w)) (fun w => run_sizeOf' (show szP Tryz.prog 49 = some 8 by kernel_rfl) w) CellsC.enc (fun x => (rd_parts x.rd).1) (fun x => (rd_parts x.rd).2.1) cfC cfC_swo 43 #[] g 0 cap dl.toArray w eg hcmp hHolds hglt (by rw [hsz]; have := ho.1; have := big_val; omega)
  rw [hsz] at hmain
  have hargs : (κ i :: [Value.func (.func 43) #[] #[]]).toArray = #[.slice (some ⟨g, 0, none⟩) l.length cap, .func (.func 43) #[] #[]] := by rw [e1]
  rw [hargs]
  refine invokes_of_calls he ⟨_, _, Tryz.func42, rfl⟩ (Calls.mono hmain ?_)
  rintro e w' ⟨rfl, d', n, os, hp, hs, rfl⟩
  rw [← hsz] at hp hs
  obtain ⟨p1, _, p3⟩ := hp
  have hw' : ∀ a b : Array (CellsC F w), a.extract 0 a.size = a := fun a b => by simp
  rw [← p1, hw' d' d', p1, hw' _ d'] at p3
  have hperm : (d'.toList.map CellsC.key).Perm l := by
    have := p3.map CellsC.key
    simp only [List.toList_toArray] at this
    rwa [hkeys] at this
  refine ⟨.tuple #[], rfl, ⟨rfl, ⟨rfl, rfl, rfl, ?_, fun b hb hne => ?_⟩, (d'.toList.map CellsC.key).map Ch.t, ⟨_, rfl, hperm, ?_⟩, ?_⟩, ?_⟩
  · show w.heap.size ≤ ((putRowK CellsC.enc 8 (Sort.ahead w n) g 0 d').heap ++ os).size
    rw [Array.size_append]
    have : (putRowK CellsC.enc 8 (Sort.ahead w n) g 0 d').heap.size = w.heap.size := by unfold putRowK; rw [Sort.size_putRow]; rfl
    omega
  · refine sortW_heap hb fun h => hne ?_
    rw [h, e1]; rfl
  · rw [List.pairwise_map, List.pairwise_iff_getElem]
    intro a b ha hb hab
    have ha' : a < d'.size := by simpa using ha
    have hb' : b < d'.size := by simpa using hb
    have := hs a b (Nat.zero_le _) hab (by rw [← p1]; exact hb')
    unfold ltOf at this
    rw [decide_eq_false_iff_not, getElem!_pos d' b hb', getElem!_pos d' a ha'] at this
    exact this
  · have hd' : d'.size = l.length := by rw [p1, hsz]
    have hrow := sortW_row (enc := CellsC.enc) (k := 8) (m := n) (dk := d') (os := os) e3
    have hF0 := hFw n os d'
    generalize hwe : sortWorldK CellsC.enc 8 w g 0 n d' os = w1 at hrow hF0
    have hcl : (flatK CellsC.enc 8 d').size = l.length * 8 := by rw [size_flatK, hd']
    refine ⟨(flatK CellsC.enc 8 d').toList, ⟨by simp [hcl, hd'], .inr ⟨g, cap, _, by rw [e1]; simp [hd'], Nat.zero_le _, hrow, by simpa [hd'] using e4, e5, by simpa [putCells] using e6, ?_⟩⟩, by simpa [hd'] using o2, fun x hx => ?_, fun c hc => ?_, fun a x q y u ha hq hu => ?_⟩
    · have hcs2 : cur.size = cap * 8 := e6
      refine List.ext_getElem? fun j => ?_
      rw [List.getElem?_take]
      simp only [List.length_map, Array.length_toList, hd']
      split
      · rename_i hj
        have h1 : j < cur.size := by rw [hcs2]; calc j < l.length * 8 := hj
          _ ≤ cap * 8 := Nat.mul_le_mul_right _ e4
        have h2 : j < (flatK CellsC.enc 8 d').size := by rw [hcl]; exact hj
        unfold putCells
        simp only [Array.getElem?_toList, Array.getElem?_mapIdx, Array.getElem?_eq_getElem h1, Option.map_some, Nat.zero_le, true_and, Nat.zero_add, hcl, hj, if_true, Nat.sub_zero, id]
        rw [getElem!_pos (flatK CellsC.enc 8 d') j h2, Array.getElem?_eq_getElem h2]
      · rename_i hj
        rw [Array.getElem?_toList, Array.getElem?_eq_none (by rw [hcl]; omega)]
    · obtain ⟨c, _, rfl⟩ := List.mem_map.1 hx
      exact ⟨rfl, fun h => by cases h⟩
    · obtain ⟨t, ht, rfl⟩ := List.getElem_of_mem hc
      simp only [Array.length_toList, hcl] at ht
      have h1 := hflat d' (t / 8) (t % 8) (by rw [hd']; omega) (Nat.mod_lt _ (by omega))
      rw [show t / 8 * 8 + t % 8 = t by omega, Array.getElem?_eq_getElem (by rw [hcl]; exact ht)] at h1
      have := (rd_parts (d'[t / 8]!).rd).2.1 _ (List.mem_of_getElem? h1.symm)
      simpa using this
    · have ha' : a < l.length := by have := (List.getElem?_eq_some_iff.1 ha).1; simpa [hd'] using this
      rw [List.getElem?_map, List.getElem?_map, Array.getElem?_toList, Array.getElem?_eq_getElem (by rw [hd']; exact ha')] at ha
      simp only [Option.map_some, Option.some.injEq] at ha
      subst ha
      have hq8 : q < 8 := by have := (List.getElem?_eq_some_iff.1 hq).1; simpa [Ch.t, T.cells] using this
      have h1 := hflat d' a q (by rw [hd']; exact ha') hq8
      rw [Array.getElem?_toList] at hu
      rw [hu] at h1
      have hz : d'[a]! = d'[a]'(by rw [hd']; exact ha') := getElem!_pos _ _ _
      have := (rd_parts (d'[a]!).rd).2.2 q y u (by rw [hz]; exact hq) h1.symm
      exact this.mono (fun _ h => h) hF0
  · show w.drawn ≤ w.drawn + n
    omega
end Go.Sim

/- What calls come to: printed by wip/tools/eq2.py: decide.Loc. -/
namespace Go.Sim
open Go.RowKit Go.Proofs
set_option linter.unusedVariables false
set_option maxRecDepth 100000
variable [Lv]

abbrev Ent : Type := T × T × Nat
def sA (c : Cf) (t : List (List En)) (es : List Ent) (cc : Nat) (i : Int) : St := ⟨slots 81 [(1, .t (.sl 1 (tabT t))), (2, .ptr 0 0), (5, .mp 1), (17, .t (.sl 2 (c.w.map Px.t))), (18, .t (i64 (c.w.map Px.t).length)), (19, .t (i64 i))], [.box 25 6 (.t c.t), .map es cc]⟩
def sB (c : Cf) (t : List (List En)) (es : List Ent) (cc : Nat) (n i : Int) : St := ⟨slots 81 [(1, .t (.sl 1 (tabT t))), (2, .ptr 0 0), (5, .mp 1), (35, .t (i64 n)), (36, .t (i64 i))], [.box 25 6 (.t c.t), .map es cc]⟩
def sC (c : Cf) (t : List (List En)) (es : List Ent) (cc : Nat) (n i : Int) (l : List En) (j : Int) : St := ⟨slots 81 [(1, .t (.sl 1 (tabT t))), (2, .ptr 0 0), (5, .mp 1), (35, .t (i64 n)), (36, .t (i64 i)), (42, .t (.sl 6 (l.map En.t))), (43, .t (i64 (l.map En.t).length)), (44, .t (i64 j))], [.box 25 6 (.t c.t), .map es cc]⟩
def sX (c : Cf) (t : List (List En)) (es : List Ent) (cc : Nat) : St := ⟨slots 81 [(1, .t (.sl 1 (tabT t))), (2, .ptr 0 0), (5, .mp 1)], [.box 25 6 (.t c.t), .map es cc]⟩
def sR (c : Cf) (t : List (List En)) (es : List Ent) (cc since last : Nat) (seen : List Nat) (r : List Ch) : St := ⟨slots 81 [(1, .t (.sl 1 (tabT t))), (2, .ptr 0 0), (11, .own 1), (58, .ptr 2 0)], [.box 25 6 (.t c.t), .row 49 8 (r.map Ch.t), .iter 3 since seen last, .map es cc]⟩
def nxF (st : St) (d : Nat) : St := ⟨setT st.tmps (some d) (.t (.tup [.bool false])), st.heap⟩
def nxT (st : St) (d l m since cc : Nat) (seen : List Nat) (e : T × T × Nat) : St := ⟨setT st.tmps (some d) (.t (.tup [.bool true, e.1, e.2.1])), st.heap.set l (.iter m since (seen ++ [e.2.2]) cc)⟩
theorem zLA (N : Nat) (c : Cf) (t : List (List En)) : canX env 18 [] 3 (seqX env N 18 [] 0 3 (startS env 18 [.t c.t, .t (.sl 1 (tabT t))])) = Res.ok (Ex.norm, sA c t [] 0 0) := by kernel_rfl
theorem b18_3 (N : Nat) (c : Cf) (t : List (List En)) (es : List Ent) (cc : Nat) (i : Int) : bodyL env N 18 0 3 (sA c t es cc i) = bif decide (i < (↑(List.map Px.t c.w).length : Int)) then atT (List.map Px.t c.w) i fun e => chk (e.cells.length == 2 && !e.isTup) (chk (keyT [0, 0] e) (entK [0, 0] e es (chk (keyT [0, 0] e) (entK [0, 0] e es (chk (decide (cc ≤ 140737488355328)) (someK (stampE (es ++ [(e, i64 0, cc)]) (↑cc : Int)) fun i_1 => match (es ++ [(e, i64 0, cc)])[i_1]? with | some (k, fst, b) => Res.ok (Ex.norm, sA c t ((es ++ [(e, i64 0, cc)]).set i_1 (k, i64 1, b)) (cc + 1) (IntKind.i64.wrap (i + 1))) | none => Res.stuck)) fun x v b => chk (decide (b ≤ 140737488355328)) (someK (stampE es (↑b : Int)) fun i_1 => match es[i_1]? with | some (k, fst, b) => Res.ok (Ex.norm, sA c t (es.set i_1 (k, i64 1, b)) cc (IntKind.i64.wrap (i + 1))) | none => Res.stuck))) fun x v x_1 => iT IntKind.i64 v fun a => chk (keyT [0, 0] e) (entK [0, 0] e es (chk (decide (cc ≤ 140737488355328)) (someK (stampE (es ++ [(e, i64 0, cc)]) (↑cc : Int)) fun i_1 => match (es ++ [(e, i64 0, cc)])[i_1]? with | some (k, fst, b) => Res.ok (Ex.norm, sA c t ((es ++ [(e, i64 0, cc)]).set i_1 (k, i64 (IntKind.i64.wrap (a + 1)), b)) (cc + 1) (IntKind.i64.wrap (i + 1))) | none => Res.stuck)) fun x v b => chk (decide (b ≤ 140737488355328)) (someK (stampE es (↑b : Int)) fun i_1 => match es[i_1]? with | some (k, fst, b) => Res.ok (Ex.norm, sA c t (es.set i_1 (k, i64 (IntKind.i64.wrap (a + 1)), b)) cc (IntKind.i64.wrap (i + 1))) | none => Res.stuck)))) else Res.ok (Ex.exit 0, sX c t es cc) := by kernel_rfl
theorem zLB (N : Nat) (c : Cf) (t : List (List En)) (es : List Ent) (cc : Nat) : canX env 18 [] 5 (seqX env N 18 [] 4 1 (sX c t es cc)) = Res.ok (Ex.norm, sB c t es cc (minmax false [(↑(List.map Sd.t c.s).length : Int)] (↑(List.map (fun l => T.sl 6 (List.map En.t l)) t).length : Int)) 0) := by kernel_rfl
theorem b18_8 (N : Nat) (c : Cf) (t : List (List En)) (es : List Ent) (cc : Nat) (n i : Int) : bodyL env N 18 0 8 (sB c t es cc n i) = bif decide (i < n) then atT (List.map (fun l => T.sl 6 (List.map En.t l)) t) i fun e => sllT e fun n_1 => loopI env N 18 8 11 { tmps := slots 81 [(1, PV.t (T.sl 1 (List.map (fun l => T.sl 6 (List.map En.t l)) t))), (2, PV.ptr 0 0), (5, PV.mp 1), (35, PV.t (i64 n)), (36, PV.t (i64 i)), (42, PV.t e), (43, PV.t (i64 n_1)), (44, PV.t (i64 0))], heap := [AObj.box 25 6 (PV.t c.t), AObj.map es cc] } else Res.ok (Ex.exit 2, sX c t es cc) := by kernel_rfl
theorem b18_8_11 (N : Nat) (c : Cf) (t : List (List En)) (es : List Ent) (cc : Nat) (n i : Int) (l : List En) (j : Int) : bodyI env N 18 0 8 11 (sC c t es cc n i l j) = bif decide (j < (↑(List.map En.t l).length : Int)) then atT (List.map En.t l) j fun e => chk (e.cells.length == 6 && !e.isTup) (chk (keyT [0, 0] (e.partD 0 2 true)) (entK [0, 0] (e.partD 0 2 true) es (chk (keyT [0, 0] (e.partD 0 2 true)) (entK [0, 0] (e.partD 0 2 true) es (chk (decide (cc ≤ 140737488355328)) (someK (stampE (es ++ [(e.partD 0 2 true, i64 0, cc)]) (↑cc : Int)) fun i_1 => match (es ++ [(e.partD 0 2 true, i64 0, cc)])[i_1]? with | some (k, fst, b) => Res.ok (Ex.norm, sC c t ((es ++ [(e.partD 0 2 true, i64 0, cc)]).set i_1 (k, i64 1, b)) (cc + 1) n i l (IntKind.i64.wrap (j + 1))) | none => Res.stuck)) fun x v b => chk (decide (b ≤ 140737488355328)) (someK (stampE es (↑b : Int)) fun i_1 => match es[i_1]? with | some (k, fst, b) => Res.ok (Ex.norm, sC c t (es.set i_1 (k, i64 1, b)) cc n i l (IntKind.i64.wrap (j + 1))) | none => Res.stuck))) fun x v x_1 => iT IntKind.i64 v fun a => chk (keyT [0, 0] (e.partD 0 2 true)) (entK [0, 0] (e.partD 0 2 true) es (chk (decide (cc ≤ 140737488355328)) (someK (stampE (es ++ [(e.partD 0 2 true, i64 0, cc)]) (↑cc : Int)) fun i_1 => match (es ++ [(e.partD 0 2 true, i64 0, cc)])[i_1]? with | some (k, fst, b) => Res.ok (Ex.norm, sC c t ((es ++ [(e.partD 0 2 true, i64 0, cc)]).set i_1 (k, i64 (IntKind.i64.wrap (a + 1)), b)) (cc + 1) n i l (IntKind.i64.wrap (j + 1))) | none => Res.stuck)) fun x v b => chk (decide (b ≤ 140737488355328)) (someK (stampE es (↑b : Int)) fun i_1 => match es[i_1]? with | some (k, fst, b) => Res.ok (Ex.norm, sC c t (es.set i_1 (k, i64 (IntKind.i64.wrap (a + 1)), b)) cc n i l (IntKind.i64.wrap (j + 1))) | none => Res.stuck)))) else Res.ok (Ex.exit 4, sB c t es cc n i) := by kernel_rfl
theorem t18_8_11_exit4 (N : Nat) (c : Cf) (t : List (List En)) (es : List Ent) (cc : Nat) (n i : Int) : tailI env N 18 0 8 11 (.exit 4) (sB c t es cc n i) = Res.ok (Ex.norm, sB c t es cc n (IntKind.i64.wrap (i + 1))) := by kernel_rfl
theorem zLR (N : Nat) (c : Cf) (t : List (List En)) (es : List Ent) (cc : Nat) : canX env 18 [] 8 (seqY env N 18 [] 6 2 (sX c t es cc)) = Res.ok (Ex.norm, { tmps := slots 81 [(1, PV.t (T.sl 1 (List.map (fun l => T.sl 6 (List.map En.t l)) t))), (2, PV.ptr 0 0), (11, PV.own 1), (58, PV.ptr 2 0)], heap := [AObj.box 25 6 (PV.t c.t), AObj.row 49 8 [], AObj.iter 3 cc [] cc, AObj.map es cc] }) := by kernel_rfl
theorem zLF (N : Nat) (c : Cf) (t : List (List En)) (es : List Ent) (cc since last : Nat) (seen : List Nat) (r : List Ch) : exX env 18 [] 8 (restY env N 18 [8] 0 1 1 (nxF (sR c t es cc since last seen r) 59)) = Res.ok (Ex.exit 6, { tmps := slots 81 [(11, PV.own 0)], heap := [AObj.row 49 8 (List.map Ch.t r)] }) := by kernel_rfl
def sT (c : Cf) (t : List (List En)) (es : List Ent) (cc since : Nat) (seen : List Nat) (r : List Ch) (x : Px) (v : Int) : St := ⟨slots 81 [(1, .t (.sl 1 (tabT t))), (2, .ptr 0 0), (11, .own 1), (58, .ptr 2 0), (59, .t (.tup [.bool true, x.t, i64 v])), (60, .t (.bool true)), (61, .t (.tup [x.t, i64 v]))], [.box 25 6 (.t c.t), .row 49 8 (r.map Ch.t), .iter 3 since seen cc, .map es cc]⟩
def sU (c : Cf) (t : List (List En)) (es : List Ent) (cc since : Nat) (seen : List Nat) (r : List Ch) (x : Px) (v : Int) (x1 x2 : T) (q : Rt) (b : Bool) : St := ⟨slots 81 [(1, .t (.sl 1 (tabT t))), (2, .ptr 0 0), (11, .own 1), (12, .ptr 4 0), (13, .ptr 5 0), (14, .t (.bool b)), (58, .ptr 2 0), (59, .t (.tup [.bool true, x.t, i64 v])), (60, .t (.bool true)), (61, .t (.tup [x.t, i64 v])), (62, .t x.t), (63, .t x2), (64, .t c.t), (65, .t (.sl 1 (tabT t))), (66, .t x.t), (67, .t x1), (68, .t x2), (69, .t q.t), (70, .t (.bool b)), (71, .t (.bool b))], [.box 25 6 (.t c.t), .row 49 8 (r.map Ch.t), .iter 3 since seen cc, .map es cc, .box 29 2 (.t x.t), .box 37 6 (.t q.t)]⟩
def sE (r : List Ch) : St := ⟨slots 81 [(11, .own 0)], [.row 49 8 (r.map Ch.t)]⟩
theorem zLT0 (N : Nat) (c : Cf) (t : List (List En)) (es : List Ent) (cc since last : Nat) (seen : List Nat) (r : List Ch) (x : Px) (v : Int) (n : Nat) : (restY env N 18 [8] 0 1 1 (nxT (sR c t es cc since last seen r) 59 2 3 since cc seen (x.t, i64 v, n))) = Res.ok (Ex.norm, { tmps := slots 81 [(1, PV.t (T.sl 1 (List.map (fun l => T.sl 6 (List.map En.t l)) t))), (2, PV.ptr 0 0), (11, PV.own 1), (58, PV.ptr 2 0), (59, PV.t (T.tup [T.bool true, x.t, i64 v])), (60, PV.t (T.bool true))], heap := [AObj.box 25 6 (PV.t c.t), AObj.row 49 8 (List.map Ch.t r), AObj.iter 3 since (seen ++ [n]) cc, AObj.map es cc] }) := by kernel_rfl
theorem zLT1 (N : Nat) (c : Cf) (t : List (List En)) (es : List Ent) (cc since : Nat) (seen : List Nat) (r : List Ch) (x : Px) (v : Int) : (restT env N 18 [8, 2] 0 1 2 (sT c t es cc since seen r x v) fun e s => (.ok (e, s) : Res (Ex × St))) = cl N 15 [c.t, T.sl 1 (List.map (fun l => T.sl 6 (List.map En.t l)) t), x.t] fun x_1 => cl N 41 [x_1] fun x_2 => compT x_2 0 fun y => compT x_2 1 fun y_1 => chk (y.cells.length == 6 && !y.isTup) (Res.ok (Ex.norm, { tmps := slots 81 [(1, PV.t (T.sl 1 (List.map (fun l => T.sl 6 (List.map En.t l)) t))), (2, PV.ptr 0 0), (11, PV.own 1), (12, PV.ptr 4 0), (13, PV.ptr 5 0), (14, PV.t y_1), (58, PV.ptr 2 0), (59, PV.t (T.tup [T.bool true, x.t, i64 v])), (60, PV.t (T.bool true)), (61, PV.t (T.tup [x.t, i64 v])), (62, PV.t x.t), (63, PV.t x_2), (64, PV.t c.t), (65, PV.t (T.sl 1 (List.map (fun l => T.sl 6 (List.map En.t l)) t))), (66, PV.t x.t), (67, PV.t x_1), (68, PV.t x_2), (69, PV.t y), (70, PV.t y_1), (71, PV.t y_1)], heap := [AObj.box 25 6 (PV.t c.t), AObj.row 49 8 (List.map Ch.t r), AObj.iter 3 since seen cc, AObj.map es cc, AObj.box 29 2 (PV.t x.t), AObj.box 37 6 (PV.t y)] })) := by kernel_rfl
theorem zLUfalse (N : Nat) (c : Cf) (t : List (List En)) (es : List Ent) (cc since : Nat) (seen : List Nat) (r : List Ch) (x : Px) (v : Int) (x1 x2 : T) (q : Rt) : (seqT env N 18 [8, 2] 3 1 (sU c t es cc since seen r x v x1 x2 q false) (canT env 18 [] 8)) = Res.ok (Ex.norm, sR c t es cc since cc seen r) := by kernel_rfl
theorem zLUtrue (N : Nat) (c : Cf) (t : List (List En)) (es : List Ent) (cc since : Nat) (seen : List Nat) (r : List Ch) (x : Px) (v : Int) (x1 x2 : T) (q : Rt) : (seqT env N 18 [8, 2] 3 1 (sU c t es cc since seen r x v x1 x2 q true) (canT env 18 [] 8)) = chkAll (T.okE 8) [T.agg [i64 x.a, i64 x.n, i64 q.n, i64 q.p.o, T.sl 1 (ints q.p.s), i64 q.p.h, i64 q.p.c, i64 q.f]] (chk (decide (((List.map Ch.t r).length + 1) * 80 ≤ 140737488355328)) (Res.ok (Ex.norm, { tmps := slots 81 [(1, PV.t (T.sl 1 (List.map (fun l => T.sl 6 (List.map En.t l)) t))), (2, PV.ptr 0 0), (11, PV.own 1), (58, PV.ptr 2 0)], heap := [AObj.box 25 6 (PV.t c.t), AObj.row 49 8 (List.map Ch.t r ++ [T.agg [i64 x.a, i64 x.n, i64 q.n, i64 q.p.o, T.sl 1 (ints q.p.s), i64 q.p.h, i64 q.p.c, i64 q.f]]), AObj.iter 3 since seen cc, AObj.map es cc] }))) := by kernel_rfl
theorem zLE (N : Nat)  : (seqX env N 18 [] 9 3 (sE [])) = cl N 42 [T.sl 8 [], T.fn 43 [] []] fun x => chk x.plain (Res.ok (Ex.ret, { tmps := slots 81 [(4, PV.own 0), (11, PV.own 0), (78, PV.own 0), (79, PV.t x), (80, PV.own 0)], heap := [AObj.row 49 8 []] })) := by kernel_rfl
theorem zLS0 (N : Nat) (r : List Ch) : (opsR env N 18 [] 9 0 1 (sE r)) = Res.ok { tmps := slots 81 [(11, PV.own 0), (78, PV.own 0)], heap := [AObj.row 49 8 (List.map Ch.t r)] } := by kernel_rfl
theorem zLS1 (N : Nat) (r m : List Ch) : ((opsR env N 18 [] 9 0 1 (sE r)).bind fun s => seqX env N 18 [] 10 2 ⟨setT s.tmps (some 79) (.t (.tup [])), [.row 49 8 (m.map Ch.t)]⟩) = Res.ok (Ex.ret, { tmps := slots 81 [(4, PV.own 0), (11, PV.own 0), (78, PV.own 0), (79, PV.t (T.tup [])), (80, PV.own 0)], heap := [AObj.row 49 8 (List.map Ch.t m)] }) := by kernel_rfl
end Go.Sim

/- Maps that count: what is laid, and how it is found. -/
namespace Go.Sim
open Go.RowKit Go.Proofs
set_option linter.unusedVariables false
set_option linter.unusedSimpArgs false
set_option linter.unusedSectionVars false
/-- A prefix more, if it is new. -/
def addK (ks : List Px) (x : Px) : List Px := if x ∈ ks then ks else ks ++ [x]
theorem mem_addK {ks : List Px} {x y : Px} : y ∈ addK ks x ↔ y ∈ ks ∨ y = x := by
  unfold addK
  split
  · rename_i h
    exact ⟨.inl, fun h2 => h2.elim id fun e => e ▸ h⟩
  · simp
theorem addK_nodup {ks : List Px} {x : Px} (h : ks.Nodup) : (addK ks x).Nodup := by
  unfold addK
  split
  · exact h
  · rename_i hx
    rw [List.nodup_append]
    exact ⟨h, by simp, fun a ha b hb e => by rw [List.mem_singleton.1 hb] at e; exact hx (e ▸ ha)⟩
theorem addK_len (ks : List Px) (x : Px) : (addK ks x).length ≤ ks.length + 1 := by unfold addK; split <;> simp
theorem addsK_mem {y : Px} : ∀ (l ks : List Px), y ∈ l.foldl addK ks ↔ y ∈ ks ∨ y ∈ l
  | [], ks => by simp
  | x :: l, ks => by
    rw [List.foldl_cons, addsK_mem l, mem_addK, List.mem_cons]
    constructor
    · rintro ((h | h) | h)
      · exact .inl h
      · exact .inr (.inl h)
      · exact .inr (.inr h)
    · rintro (h | h | h)
      · exact .inl (.inl h)
      · exact .inl (.inr h)
      · exact .inr h
theorem addsK_len : ∀ (l ks : List Px), (l.foldl addK ks).length ≤ l.length + ks.length
  | [], ks => by simp
  | x :: l, ks => by
    rw [List.foldl_cons]
    have := addsK_len l (addK ks x)
    have := addK_len ks x
    simp; omega
/-- A map that has these prefixes, in the order in which they came; nothing has been struck. -/
structure MapL (es : List (T × T × Nat)) (cc : Nat) (ks : List Px) : Prop where
  keys : es.map (·.1) = ks.map Px.t
  nd : ks.Nodup
  vals : ∀ e ∈ es, ∃ n, e.2.1 = i64 n
  st : es.map (·.2.2) = List.range es.length
  cc : cc = es.length
theorem MapL.len {es : List (T × T × Nat)} {cc : Nat} {ks : List Px} (h : MapL es cc ks) : es.length = ks.length := by have := congrArg List.length h.keys; simpa using this
theorem MapL.at {es : List (T × T × Nat)} {cc : Nat} {ks : List Px} (h : MapL es cc ks) {i : Nat} (hi : i < ks.length) : ∃ n, es[i]? = some (ks[i].t, i64 n, i) := by
  have hl := h.len
  have e0 : es[i]? = some es[i] := List.getElem?_eq_getElem (by omega)
  have h1 := congrArg (fun z => z[i]?) h.keys
  have h2 := congrArg (fun z => z[i]?) h.st
  simp only [List.getElem?_map, e0, Option.map_some, List.getElem?_eq_getElem hi, Option.some.injEq, List.getElem?_range (show i < es.length by omega)] at h1 h2
  obtain ⟨n, hn⟩ := h.vals _ (List.mem_of_getElem? e0)
  refine ⟨n, e0.trans (congrArg some ?_)⟩
  generalize es[i] = e at h1 h2 hn
  obtain ⟨e1, e2, e3⟩ := e
  simp only at h1 h2 hn
  subst h1; subst h2; subst hn; rfl
theorem findE_px {x : Px} : ∀ (es : List (T × T × Nat)) (ks : List Px) (i : Nat), es.map (·.1) = ks.map Px.t →
    findE [0, 0] x.t es i = some (match ks.findIdx? (fun y => decide (x = y)) with | none => none | some j => (es[j]?).map fun e => (i + j, e.2.1, e.2.2))
  | [], [], i, _ => rfl
  | [], _ :: _, _, h => by simp at h
  | _ :: _, [], _, h => by simp at h
  | e :: es, k :: ks, i, h => by
    simp only [List.map_cons, List.cons.injEq] at h
    unfold findE
    rw [h.1, show T.flat [0, 0] x.t = [i64 x.a, i64 x.n] from rfl, show T.flat [0, 0] k.t = [i64 k.a, i64 k.n] from rfl, eqLs_dec, List.findIdx?_cons]
    by_cases hx : x = k
    · rw [decide_eq_true hx]; simp
    · rw [decide_eq_false hx]
      simp only [Bool.false_eq_true, if_false]
      rw [findE_px es ks (i + 1) h.2]
      cases ks.findIdx? (fun y => decide (x = y)) with
      | none => rfl
      | some j =>
        simp only [Option.map_some, List.getElem?_cons_succ]
        cases es[j]? with
        | none => rfl
        | some e' => simp only [Option.map_some]; congr 3; omega
theorem stamp_at {es : List (T × T × Nat)} {i : Nat} (h : es.map (·.2.2) = List.range es.length) (hi : i < es.length) : stampE es (i : Int) = some i := by
  unfold stampE
  rw [List.findIdx?_eq_some_iff_getElem]
  have hg : ∀ j (hj : j < es.length), es[j].2.2 = j := fun j hj => by
    have := congrArg (fun z => z[j]?) h
    simpa [List.getElem?_range hj, List.getElem?_eq_getElem hj] using this
  refine ⟨hi, by rw [hg i hi]; simp, fun j hj => ?_⟩
  rw [hg j (by omega)]
  simp; omega
section
variable {β : Type}
/-- 'm[e]++', as it comes out. -/
def bumpK (e : T) (es : List (T × T × Nat)) (cc : Nat) (G : List (T × T × Nat) → Nat → Res β) : Res β :=
  chk (keyT [0, 0] e) (entK [0, 0] e es (chk (keyT [0, 0] e) (entK [0, 0] e es (chk (decide (cc ≤ 140737488355328)) (someK (stampE (es ++ [(e, i64 0, cc)]) (cc : Int)) fun i => match (es ++ [(e, i64 0, cc)])[i]? with | some (k, _, b) => G ((es ++ [(e, i64 0, cc)]).set i (k, i64 1, b)) (cc + 1) | none => Res.stuck))
      fun _ _ b => chk (decide (b ≤ 140737488355328)) (someK (stampE es (b : Int)) fun i => match es[i]? with | some (k, _, b) => G (es.set i (k, i64 1, b)) cc | none => Res.stuck)))
    fun _ v _ => iT IntKind.i64 v fun a => chk (keyT [0, 0] e) (entK [0, 0] e es (chk (decide (cc ≤ 140737488355328)) (someK (stampE (es ++ [(e, i64 0, cc)]) (cc : Int)) fun i => match (es ++ [(e, i64 0, cc)])[i]? with | some (k, _, b) => G ((es ++ [(e, i64 0, cc)]).set i (k, i64 (IntKind.i64.wrap (a + 1)), b)) (cc + 1) | none => Res.stuck))
      fun _ _ b => chk (decide (b ≤ 140737488355328)) (someK (stampE es (b : Int)) fun i => match es[i]? with | some (k, _, b) => G (es.set i (k, i64 (IntKind.i64.wrap (a + 1)), b)) cc | none => Res.stuck)))
def bumpF (p : List (T × T × Nat) × Nat) (x : Px) : List (T × T × Nat) × Nat := match findE [0, 0] x.t p.1 0 with
  | some (some (i, .int .i64 a, b)) => (p.1.set i (x.t, i64 (IntKind.i64.wrap (a + 1)), b), p.2)
  | _ => (p.1 ++ [(x.t, i64 1, p.2)], p.2 + 1)
theorem bump_ok {es : List (T × T × Nat)} {cc : Nat} {ks : List Px} {x : Px} (h : MapL es cc ks) (hc : cc ≤ big) : (∀ G : List (T × T × Nat) → Nat → Res β, bumpK x.t es cc G = G (bumpF (es, cc) x).1 (bumpF (es, cc) x).2) ∧ MapL (bumpF (es, cc) x).1 (bumpF (es, cc) x).2 (addK ks x) := by
  have hf := findE_px (x := x) es ks 0 h.keys
  have hlen := h.len
  have hcc := h.cc
  have hb : cc ≤ 140737488355328 := by have := big_val; omega
  cases hk : ks.findIdx? (fun y => decide (x = y)) with
  | none =>
    rw [hk] at hf
    simp only at hf
    have hx : x ∉ ks := fun hx => by
      have := List.findIdx?_eq_none_iff.1 hk x hx
      simp at this
    have hbf : bumpF (es, cc) x = (es ++ [(x.t, i64 1, cc)], cc + 1) := by unfold bumpF; simp only [hf]
    have hst : (es ++ [(x.t, i64 0, cc)]).map (·.2.2) = List.range (es ++ [(x.t, i64 0, cc)]).length := by
      rw [List.map_append, h.st, List.length_append]
      show List.range es.length ++ [cc] = List.range (es.length + 1)
      rw [List.range_succ, hcc]
    have hs := stamp_at (i := cc) hst (by simp; omega)
    rw [hbf]
    refine ⟨fun G => ?_, ?_⟩
    · unfold bumpK
      rw [keyT_px, chk_true]
      unfold entK
      rw [hf]
      simp only [chk_true]
      rw [decide_eq_true hb, chk_true, hs]
      simp only [someK]
      rw [hcc, List.getElem?_append_right (Nat.le_refl _), Nat.sub_self]
      simp only [List.getElem?_cons_zero]
      rw [List.set_append_right _ _ (Nat.le_refl _), Nat.sub_self]
      rfl
    · unfold addK
      rw [if_neg hx]
      refine ⟨by rw [List.map_append, List.map_append, h.keys]; rfl, ?_, fun e he => ?_, ?_, by simp [hcc]⟩
      · have := addK_nodup (x := x) h.nd; unfold addK at this; rwa [if_neg hx] at this
      · rcases List.mem_append.1 he with he | he
        · exact h.vals e he
        · rw [List.mem_singleton.1 he]; exact ⟨1, rfl⟩
      · rw [List.map_append, h.st, List.length_append]
        show List.range es.length ++ [cc] = List.range (es.length + 1)
        rw [List.range_succ, hcc]
  | some j =>
    rw [hk] at hf
    obtain ⟨hj, hjx, _⟩ := List.findIdx?_eq_some_iff_getElem.1 hk
    have hxk : x = ks[j] := by simpa using hjx
    obtain ⟨a, ha⟩ := h.at hj
    rw [← hxk] at ha
    simp only [ha, Option.map_some, Nat.zero_add] at hf
    have hs := stamp_at (i := j) h.st (by omega)
    have hbf : bumpF (es, cc) x = (es.set j (x.t, i64 (IntKind.i64.wrap (a + 1)), j), cc) := by unfold bumpF; simp only [hf]
    have hjb : decide (j ≤ 140737488355328) = true := decide_eq_true (by omega)
    rw [hbf]
    refine ⟨fun G => ?_, ?_⟩
    · unfold bumpK
      rw [keyT_px, chk_true]
      unfold entK
      rw [hf]
      simp only [chk_true, iT_int]
      rw [hjb, chk_true, hs]
      simp only [someK, ha]
    · unfold addK
      rw [if_pos (by rw [hxk]; exact List.getElem_mem _)]
      refine ⟨?_, h.nd, fun e he => ?_, ?_, by simp [hcc]⟩
      · rw [List.map_set, h.keys]
        refine List.ext_getElem? fun i => ?_
        rw [List.getElem?_set]
        split
        · rename_i e; subst e
          rw [List.length_map]
          split
          · rw [List.getElem?_map, List.getElem?_eq_getElem hj, hxk]; rfl
          · omega
        · rfl
      · rcases List.mem_or_eq_of_mem_set he with he | he
        · exact h.vals e he
        · rw [he]; exact ⟨_, rfl⟩
      · rw [List.map_set, h.st, List.length_set]
        refine List.ext_getElem? fun i => ?_
        rw [List.getElem?_set]
        split
        · rename_i e; subst e
          rw [List.length_range]
          split
          · rw [List.getElem?_range (by omega)]
          · omega
        · rfl
end
/-- Some, none twice, of the numbers below n: no more than n. -/
theorem nodup_lt : ∀ (n : Nat) (l : List Nat), l.Nodup → (∀ x ∈ l, x < n) → l.length ≤ n
  | 0, [], _, _ => Nat.le_refl _
  | 0, x :: l, _, h => absurd (h x List.mem_cons_self) (Nat.not_lt_zero _)
  | n + 1, l, hn, h => by
    by_cases hm : n ∈ l
    · have h1 := nodup_lt n (l.erase n) (hn.erase n) fun x hx => by
        have h2 := h x (List.mem_of_mem_erase hx)
        have h3 : x ≠ n := fun e => by rw [e] at hx; exact (List.Nodup.not_mem_erase hn) hx
        omega
      rw [List.length_erase_of_mem hm] at h1
      omega
    · exact Nat.le_succ_of_le (nodup_lt n l hn fun x hx => by
        have h2 := h x hx
        have h3 : x ≠ n := fun e => hm (e ▸ hx)
        omega)
end Go.Sim

/- decide.Loc: what it ranges over, and what comes of it. -/
namespace Go.Sim
open Go.RowKit Go.Proofs
set_option linter.unusedVariables false
set_option linter.unusedSimpArgs false
set_option linter.unusedSectionVars false
set_option maxRecDepth 100000
/-- A map that has the prefixes that are told. -/
def MI (p : List (T × T × Nat) × Nat) (P : Px → Prop) : Prop := ∃ ks, MapL p.1 p.2 ks ∧ ∀ y, y ∈ ks ↔ P y
theorem MI.iff {p : List (T × T × Nat) × Nat} {P P' : Px → Prop} (h : MI p P) (e : ∀ y, P y ↔ P' y) : MI p P' := by
  obtain ⟨ks, h1, h2⟩ := h
  exact ⟨ks, h1, fun y => (h2 y).trans (e y)⟩
theorem nodup_sub {α : Type} [DecidableEq α] : ∀ (l m : List α), l.Nodup → (∀ x ∈ l, x ∈ m) → l.length ≤ m.length
  | [], m, _, _ => Nat.zero_le _
  | x :: l, m, h, hm => by
    obtain ⟨h1, h2⟩ := List.nodup_cons.1 h
    have hx := hm x List.mem_cons_self
    have := nodup_sub l (m.erase x) h2 fun y hy => (List.mem_erase_of_ne (fun (e : y = x) => h1 (by rw [← e]; exact hy))).2 (hm y (List.mem_cons_of_mem _ hy))
    rw [List.length_erase_of_mem hx] at this
    have := List.length_pos_of_mem hx
    simp only [List.length_cons]; omega
theorem bump_mi {β : Type} {p : List (T × T × Nat) × Nat} {P : Px → Prop} {x : Px} {L : List Px} (h : MI p P) (hs : ∀ y, P y → y ∈ L) (hL : L.length ≤ big) : (∀ G : List (T × T × Nat) → Nat → Res β, bumpK x.t p.1 p.2 G = G (bumpF p x).1 (bumpF p x).2) ∧ MI (bumpF p x) (fun y => P y ∨ y = x) := by
  obtain ⟨ks, h1, h2⟩ := h
  have hl : ks.length ≤ L.length := nodup_sub ks L h1.nd fun y hy => hs y ((h2 y).1 hy)
  have hc : p.2 ≤ big := by have := h1.cc; have := h1.len; omega
  obtain ⟨b1, b2⟩ := bump_ok (β := β) (x := x) h1 hc
  exact ⟨b1, _, b2, fun y => by rw [mem_addK, h2]⟩
theorem mem_take_succ {α : Type} {l : List α} {j : Nat} {x y : α} (h : l[j]? = some x) : (y ∈ l.take j ∨ y = x) ↔ y ∈ l.take (j + 1) := by
  rw [List.take_add_one, h]; simp
variable [Lv]
theorem locA {N : Nat} {c : Cf} {t : List (List En)} (hN : big + 80 ≤ N) (h : c.ok) (hL : (seenL c t).length ≤ big) : ∃ p, iterR (bodyX env N 18 [] 3) N (sA c t [] 0 0) = .ok (.exit 0, sX c t p.1 p.2) ∧ MI p (fun y => y ∈ c.w) := by
  have hbig := big_val
  have hbw := h.w.1
  have e : bodyX env N 18 [] 3 = bodyL env N 18 0 3 := by kernel_rfl
  rw [e]
  obtain ⟨h1, h2⟩ := iter_fold (B := bodyL env N 18 0 3) (S := fun (p : List (T × T × Nat) × Nat) j => sA c t p.1 p.2 (j : Int)) (X := fun p => sX c t p.1 p.2) (id := 0) (fun p j => MI p fun y => y ∈ c.w.take j) bumpF c.w (n := N) ([], 0) (by omega) (fun p j x hx hI => by
      have hj : j < c.w.length := (List.getElem?_eq_some_iff.1 hx).1
      obtain ⟨b1, b2⟩ := bump_mi (β := Ex × St) (x := x) (L := seenL c t) hI (fun y hy => List.mem_append_left _ (List.mem_of_mem_take hy)) hL
      refine ⟨?_, b2.iff fun y => mem_take_succ hx⟩
      refine (b18_3 _ _ _ _ _ _).trans ?_
      rw [decide_eq_true (show (j : Int) < ((c.w.map Px.t).length : Int) by rw [List.length_map]; omega)]
      simp only [cond_true]
      rw [atT_get (map_get hx), show (x.t.cells.length == 2 && !x.t.isTup) = true from rfl, chk_true, wrap_succ (show j ≤ big by omega)]
      exact b1 fun es cc => Res.ok (Ex.norm, sA c t es cc ((j + 1 : Nat) : Int))) (fun p hI => by
      refine (b18_3 _ _ _ _ _ _).trans ?_
      rw [decide_eq_false (show ¬ ((c.w.length : Nat) : Int) < ((c.w.map Px.t).length : Int) by rw [List.length_map]; omega)]
      rfl) ⟨[], ⟨rfl, List.nodup_nil, by simp, rfl, rfl⟩, by simp⟩
  exact ⟨_, h1, h2.iff fun y => by rw [List.take_length]⟩
theorem locC {N j : Nat} {c : Cf} {t : List (List En)} {n : Int} {p : List (T × T × Nat) × Nat} {r : List En} {P : Px → Prop} (hN : big + 80 ≤ N) (hbr : r.length ≤ big) (e1 : t[j]? = some r) (hI : MI p P) (hP : ∀ y, P y → y ∈ seenL c t) (hr : ∀ e ∈ r, e.x ∈ seenL c t) (hL : (seenL c t).length ≤ big) :
    ∃ p', loopI env N 18 8 11 (sC c t p.1 p.2 n (j : Int) r 0) = tailI env N 18 0 8 11 (.exit 4) (sB c t p'.1 p'.2 n (j : Int)) ∧ MI p' (fun y => P y ∨ y ∈ r.map En.x) := by
  have hbig := big_val
  obtain ⟨h1, h2⟩ := iter_fold (B := bodyI env N 18 0 8 11) (S := fun (p : List (T × T × Nat) × Nat) k => sC c t p.1 p.2 n (j : Int) r (k : Int)) (X := fun p => sB c t p.1 p.2 n (j : Int)) (id := 4) (fun p k => MI p fun y => P y ∨ y ∈ (r.map En.x).take k) (fun p e => bumpF p e.x) r (n := N) p (by omega) (fun p k e he hI => by
      have hk : k < r.length := (List.getElem?_eq_some_iff.1 he).1
      obtain ⟨b1, b2⟩ := bump_mi (β := Ex × St) (x := e.x) (L := seenL c t) hI (fun y hy => hy.elim (hP y) fun hy => by
        obtain ⟨e', he', rfl⟩ := List.mem_map.1 (List.mem_of_mem_take hy)
        exact hr e' he') hL
      refine ⟨?_, b2.iff fun y => by rw [or_assoc, mem_take_succ (l := r.map En.x) (x := e.x) (by rw [List.getElem?_map, he]; rfl)]⟩
      refine (b18_8_11 _ _ _ _ _ _ _ _ _).trans ?_
      rw [decide_eq_true (show (k : Int) < ((r.map En.t).length : Int) by rw [List.length_map]; omega)]
      simp only [cond_true]
      rw [atT_get (map_get he), show (e.t.cells.length == 6 && !e.t.isTup) = true from rfl, chk_true, wrap_succ (show k ≤ big by omega)]
      exact b1 fun es cc => Res.ok (Ex.norm, sC c t es cc n (j : Int) r ((k + 1 : Nat) : Int))) (fun p hI => by
      refine (b18_8_11 _ _ _ _ _ _ _ _ _).trans ?_
      rw [decide_eq_false (show ¬ ((r.length : Nat) : Int) < ((r.map En.t).length : Int) by rw [List.length_map]; omega)]
      rfl) (hI.iff fun y => by simp)
  exact ⟨_, loopI_end h1, h2.iff fun y => by rw [List.take_of_length_le (by simp)]⟩
theorem locB {N : Nat} {c : Cf} {t : List (List En)} {p : List (T × T × Nat) × Nat} (hN : big + 80 ≤ N) (h : c.ok) (ht : okT t) (hI : MI p fun y => y ∈ c.w) (hL : (seenL c t).length ≤ big) :
    ∃ p', iterR (bodyX env N 18 [] 5) N (sB c t p.1 p.2 (minmax false [((c.s.map Sd.t).length : Int)] ((t.map fun l => T.sl 6 (l.map En.t)).length : Int)) 0) = .ok (.exit 2, sX c t p'.1 p'.2) ∧ MI p' (fun y => y ∈ seenL c t) := by
  have hbig := big_val
  have hbt := ht.1
  have hbs := h.s.1
  have e : bodyX env N 18 [] 5 = bodyL env N 18 0 8 := by kernel_rfl
  rw [e, minmax_min, List.length_map, List.length_map]
  generalize hn : ((min t.length c.s.length : Nat) : Int) = n
  have hget : ∀ {j : Nat} {r : List En}, (t.take c.s.length)[j]? = some r → t[j]? = some r ∧ j < c.s.length ∧ j < t.length := fun {j r} hr => by
    rw [List.getElem?_take] at hr
    split at hr
    · exact ⟨hr, by assumption, (List.getElem?_eq_some_iff.1 hr).1⟩
    · cases hr
  have hmono : ∀ j y, (y ∈ c.w ∨ y ∈ ((t.take c.s.length).take j).flatMap fun l => l.map En.x) → y ∈ seenL c t := fun j y hy => by
    unfold seenL
    rw [List.mem_append]
    refine hy.imp id fun hy => ?_
    obtain ⟨l, h1, h2⟩ := List.mem_flatMap.1 hy
    exact List.mem_flatMap.2 ⟨l, List.mem_of_mem_take h1, h2⟩
  have main : ∀ (p : List (T × T × Nat) × Nat) (j : Nat) (r : List En), (t.take c.s.length)[j]? = some r → MI p (fun y => y ∈ c.w ∨ y ∈ ((t.take c.s.length).take j).flatMap fun l => l.map En.x) →
      ∃ p', bodyL env N 18 0 8 (sB c t p.1 p.2 n (j : Int)) = .ok (.norm, sB c t p'.1 p'.2 n ((j + 1 : Nat) : Int)) ∧ MI p' (fun y => y ∈ c.w ∨ y ∈ ((t.take c.s.length).take (j + 1)).flatMap fun l => l.map En.x) := fun p j r hr hI => by
    obtain ⟨e1, hj1, hj2⟩ := hget hr
    obtain ⟨p', f1, f2⟩ := locC (n := n) hN (ht.2 r (List.mem_of_getElem? e1)).1 e1 hI (hmono j) (fun e he => by
      unfold seenL
      exact List.mem_append_right _ (List.mem_flatMap.2 ⟨r, List.mem_of_getElem? hr, List.mem_map_of_mem he⟩)) hL
    refine ⟨p', ?_, f2.iff fun y => ?_⟩
    · refine (b18_8 _ _ _ _ _ _ _).trans ?_
      rw [decide_eq_true (show (j : Int) < n by omega)]
      simp only [cond_true]
      rw [atT_get (tabs_get e1)]
      simp only [sllT]
      refine f1.trans ?_
      rw [← wrap_succ (show j ≤ big by omega)]
      exact t18_8_11_exit4 _ _ _ _ _ _ _
    · rw [List.take_add_one, hr, List.flatMap_append]
      simp [or_assoc]
  -- the tables, one by one
  have run : ∀ (k j : Nat) (M : Nat) (p : List (T × T × Nat) × Nat), j + k = (t.take c.s.length).length → k < M → MI p (fun y => y ∈ c.w ∨ y ∈ ((t.take c.s.length).take j).flatMap fun l => l.map En.x) →
      ∃ p', iterR (bodyL env N 18 0 8) M (sB c t p.1 p.2 n (j : Int)) = .ok (.exit 2, sX c t p'.1 p'.2) ∧ MI p' (fun y => y ∈ seenL c t) := by
    intro k
    induction k with
    | zero =>
      intro j M p hj hM hI
      obtain ⟨M, rfl⟩ : ∃ M', M = M' + 1 := ⟨M - 1, by omega⟩
      refine ⟨p, iterR_exit ?_, hI.iff fun y => ?_⟩
      · refine (b18_8 _ _ _ _ _ _ _).trans ?_
        rw [List.length_take] at hj
        rw [decide_eq_false (show ¬ (j : Int) < n by omega)]
        rfl
      · unfold seenL
        rw [List.take_of_length_le (by omega), List.mem_append]
    | succ k ih =>
      intro j M p hj hM hI
      obtain ⟨M, rfl⟩ : ∃ M', M = M' + 1 := ⟨M - 1, by omega⟩
      have hlt : j < (t.take c.s.length).length := by omega
      obtain ⟨p1, g1, g2⟩ := main p j _ (List.getElem?_eq_getElem hlt) hI
      obtain ⟨p2, g3, g4⟩ := ih (j + 1) M p1 (by omega) (by omega) g2
      refine ⟨p2, ?_, g4⟩
      simp only [iterR]
      rw [g1]
      exact g3
  exact run (t.take c.s.length).length 0 N p (by omega) (by rw [List.length_take]; omega) (hI.iff fun y => by simp)
end Go.Sim

/- decide.Loc's round over what it has seen. -/
namespace Go.Sim
open Go.RowKit Go.Proofs
set_option linter.unusedVariables false
set_option linter.unusedSimpArgs false
set_option linter.unusedSectionVars false
set_option maxRecDepth 100000
def opNx : Oper := { dst := some 59, op := .next (.tmp 58) false, type := 0, pos := "decide.go:48", after := #[], guard := none }
def opEn : Oper := { dst := some 61, op := .entry (.tmp 58), type := 0, pos := "decide.go:48", after := #[], guard := none }
/-- What has been taken of what has been seen. -/
def tookR (c : Cf) (t : List (List En)) (ks : List Px) (seen : List Nat) : List Ch := (seen.filterMap fun n => ks[n]?).filterMap (choiceR c t)
theorem tookR_add {c : Cf} {t : List (List En)} {ks : List Px} {seen : List Nat} {n : Nat} {x : Px} (h : ks[n]? = some x) : tookR c t ks (seen ++ [n]) = tookR c t ks seen ++ (choiceR c t x).toList := by
  unfold tookR
  rw [List.filterMap_append, List.filterMap_append]
  congr 1
  simp only [List.filterMap_cons, h, List.filterMap_nil]
  cases choiceR c t x <;> rfl
theorem tookR_len (c : Cf) (t : List (List En)) (ks : List Px) (seen : List Nat) : (tookR c t ks seen).length ≤ seen.length := Nat.le_trans (List.length_filterMap_le _ _) (List.length_filterMap_le _ _)
theorem tookR_all {ks : List Px} {seen : List Nat} (hn : seen.Nodup) (hk : ks.Nodup) (hs : ∀ n ∈ seen, n < ks.length) (ha : ∀ n, n < ks.length → n ∈ seen) : (seen.filterMap fun n => ks[n]?).Nodup ∧ ∀ y, y ∈ (seen.filterMap fun n => ks[n]?) ↔ y ∈ ks := by
  refine ⟨?_, fun y => ?_⟩
  · unfold List.Nodup at *
    rw [List.pairwise_filterMap]
    refine List.Pairwise.imp_of_mem (fun {a b} ha' hb' hab x hx y hy e => ?_) hn
    subst e
    obtain ⟨h1, h2⟩ := List.getElem?_eq_some_iff.1 hx
    obtain ⟨h3, h4⟩ := List.getElem?_eq_some_iff.1 hy
    have hw := List.pairwise_iff_getElem.1 hk
    rcases Nat.lt_trichotomy a b with hl | hl | hl
    · exact hw a b h1 h3 hl (h2.trans h4.symm)
    · exact hab hl
    · exact hw b a h3 h1 hl (h4.trans h2.symm)
  · rw [List.mem_filterMap]
    constructor
    · rintro ⟨n, _, h⟩; exact List.mem_of_getElem? h
    · intro h
      obtain ⟨n, h1, h2⟩ := List.getElem_of_mem h
      exact ⟨n, ha n h1, by rw [List.getElem?_eq_getElem h1, h2]⟩
theorem MapL.mem {es : List (T × T × Nat)} {cc : Nat} {ks : List Px} (h : MapL es cc ks) {e : T × T × Nat} (he : e ∈ es) : ∃ x v, ks[e.2.2]? = some x ∧ e = (x.t, i64 v, e.2.2) ∧ e.2.2 < es.length ∧ entE es e.2.2 = some e := by
  obtain ⟨i, hi, hie⟩ := List.getElem_of_mem he
  have hl := h.len
  obtain ⟨v, hv⟩ := h.at (show i < ks.length by omega)
  rw [List.getElem?_eq_getElem hi, hie] at hv
  simp only [Option.some.injEq] at hv
  have h3 : e.2.2 = i := by rw [hv]
  have hst : ∀ j (hj : j < es.length), es[j].2.2 = j := fun j hj => by
    have := congrArg (fun z => z[j]?) h.st
    simpa [List.getElem?_range hj, List.getElem?_eq_getElem hj] using this
  refine ⟨ks[i], v, by rw [h3, List.getElem?_eq_getElem (by omega)], by rw [h3]; exact hv, by omega, ?_⟩
  unfold entE
  rw [List.find?_eq_some_iff_getElem]
  refine ⟨by simp, i, hi, hie, fun j hj => ?_⟩
  rw [hst j (by omega), h3]
  simp; omega
variable [Lv]
/-- What holds at the loop's head. -/
def InvR (c : Cf) (t : List (List En)) (es : List Ent) (cc : Nat) (ks : List Px) (m : Nat) (st : St) : Prop := ∃ seen : List Nat, st = sR c t es cc cc cc seen (tookR c t ks seen) ∧ seen.Nodup ∧ (∀ n ∈ seen, n < es.length) ∧ m + seen.length = es.length
theorem best_opt {c : Cf} {t : List (List En)} {x : Px} {r : List Ch} : r ++ (choiceR c t x).toList = (match bestR (thoseR c t x) with | some q => r ++ [⟨x, q⟩] | none => r) := by
  unfold choiceR
  cases bestR (thoseR c t x) <;> simp
theorem locR_step {N : Nat} {c : Cf} {t : List (List En)} {es : List Ent} {cc : Nat} {ks : List Px} {Q : Ex → St → Prop} (hN : big + 80 ≤ N) (h : c.ok) (ht : okT t) (hm : MapL es cc ks) (hlen : ks.length * 128 ≤ big) (hk : ∀ x ∈ ks, x.ok)
    (hend : ∀ seen, seen.Nodup → (∀ n ∈ seen, n < es.length) → (∀ n, n < es.length → n ∈ seen) → partD env N 18 [] 9 (sE (tookR c t ks seen)) Q) (m : Nat) (st : St) (hI : InvR c t es cc ks m st) :
    partD env N 18 ([] ++ [8]) 0 st fun e st => e.kP (∃ m', m' < m ∧ InvR c t es cc ks m' (canon 0 (hintX env 18 [] 8).1 st))
      (fun j => if j = 6 then partD env N 18 [] (8 + 1) (canon 0 (hintX env 18 [] 8).2 st) Q else Q (.exit j) (canon 0 (hintX env 18 [] 8).2 st)) (Q .ret (canon 0 (resTmps (funcE env 18)) st)) := by
  have hbig := big_val
  have hl := hm.len
  have hcc := hm.cc
  obtain ⟨seen, rfl, hn, hs, hmm⟩ := hI
  show partD env N 18 [8] 0 _ _
  refine partD_reg (by kernel_rfl) (of_decide_eq_true (by kernel_rfl)) ?_
  refine opD_step (o := opNx) (by kernel_rfl) ?_
  refine step_next (x := .tmp 58) (l := 2) (m := 3) (since := cc) (last := cc) (c := cc) (seen := seen) (es := es) rfl rfl (by kernel_rfl) rfl rfl (fun e he => ?_) ?_ (fun hf => ?_) fun e he => ?_
  · obtain ⟨_, _, _, _, h3, _⟩ := hm.mem he; omega
  · cases es with
    | nil => exact .inr (.inl rfl)
    | cons e0 r => obtain ⟨_, _, _, _, h3, _⟩ := hm.mem (e := e0) List.mem_cons_self; exact .inr (.inr ⟨e0, List.mem_cons_self, by omega⟩)
  · obtain ⟨st', g1, g2⟩ := exX_inv (zLF N c t es cc cc cc seen (tookR c t ks seen))
    refine opD_y 1 g1 ?_
    show partD env N 18 [] (8 + 1) (canon 0 (hintX env 18 [] 8).2 st') Q
    rw [g2]
    refine hend seen hn hs fun n hnl => ?_
    have hnk : n < ks.length := by omega
    obtain ⟨v, hv⟩ := hm.at hnk
    have := List.filter_eq_nil_iff.1 hf _ (List.mem_of_getElem? hv)
    simpa using this
  · obtain ⟨he1, he2⟩ := List.mem_filter.1 he
    obtain ⟨x, v, k1, k2, k3, k4⟩ := hm.mem he1
    have hns : e.2.2 ∉ seen := by simpa using he2
    generalize e.2.2 = n at k1 k2 k3 k4 hns
    subst k2
    refine opD_y 1 (zLT0 N c t es cc cc cc seen (tookR c t ks seen) x v n) ?_
    refine partD_block (p := [8]) (i := 2) (id := 7) (c := innerC ((partsC env 18 [8]).getD 2 .skip)) (by kernel_rfl) (by kernel_rfl) ?_
    show partD env N 18 [8, 2] 0 _ _
    refine partD_reg (by kernel_rfl) (of_decide_eq_true (by kernel_rfl)) ?_
    refine opD_step (o := opEn) (by kernel_rfl) ?_
    refine step_entry (x := .tmp 58) (l := 2) (m := 3) (since := cc) (c := cc) (n := n) (seen := seen) (es := es) (e := (x.t, i64 v, n)) rfl rfl (by kernel_rfl) rfl rfl k4 ?_
    show opD env N 18 [8, 2] 0 1 (sT c t es cc cc (seen ++ [n]) (tookR c t ks seen) x v) _
    have hxo := hk x (List.mem_of_getElem? k1)
    have hto := those_step_ok (x := x) h ht
    have hth := those_short (c := c) (t := t) (x := x)
    have hq : okL Rt.ok (thoseR c t x) := ⟨by
      have := those_len (c := c) (t := t) (x := x)
      unfold thoseR
      cases hcs : csane c with
      | false => simp
      | true =>
        have := (csane_parts hcs).2.2.2.2
        have h1 := List.length_filterMap_le (fun (k : Nat) => (t[k]?).bind fun l => (getE l x).bind fun p => inR c (k : Int) x p) (List.range (min t.length c.s.length))
        rw [List.length_range] at h1
        simp only [if_true, List.length_append]
        split <;> simp <;> omega, hto⟩
    obtain ⟨M, rfl⟩ := exM (show 1 ≤ N by omega)
    have z1 := zLT1 (M + 1) c t es cc cc (seen ++ [n]) (tookR c t ks seen) x v
    rw [cl_ok (f15_ok (by omega) h ht hxo), cl_ok (f41_ok (by omega) hq), optR_eq] at z1
    simp only [compT, List.getElem?_cons_zero, List.getElem?_cons_succ, rt_chk, chk_true] at z1
    refine opD_t (k := 2) z1 ?_
    have hnext : ∀ {r' : List Ch} {st2 : St}, r' = tookR c t ks (seen ++ [n]) → canon 0 (hintX env 18 [] 8).1 st2 = sR c t es cc cc cc (seen ++ [n]) r' → ∃ m', m' < m ∧ InvR c t es cc ks m' (canon 0 (hintX env 18 [] 8).1 st2) := fun {r' st2} e1 e2 => by
      have hlt : (seen ++ [n]).length ≤ es.length := nodup_lt _ _ (by
        rw [List.nodup_append]
        exact ⟨hn, by simp, fun a ha b hb e => by rw [List.mem_singleton.1 hb] at e; exact hns (e ▸ ha)⟩) (fun y hy => by
        rcases List.mem_append.1 hy with hy | hy
        · exact hs y hy
        · rw [List.mem_singleton.1 hy]; exact k3)
      rw [List.length_append, List.length_singleton] at hlt
      refine ⟨m - 1, by omega, seen ++ [n], by rw [e2, e1], ?_, ?_, by rw [List.length_append, List.length_singleton]; omega⟩
      · rw [List.nodup_append]
        exact ⟨hn, by simp, fun a ha b hb e => by rw [List.mem_singleton.1 hb] at e; exact hns (e ▸ ha)⟩
      · intro y hy
        rcases List.mem_append.1 hy with hy | hy
        · exact hs y hy
        · rw [List.mem_singleton.1 hy]; exact k3
    have fin : ∀ (Q2 : Ex → St → Prop) (q : Rt) (b : Bool) (x1 x2 : T) (r' : List Ch), seqT env (M + 1) 18 [8, 2] 3 1 (sU c t es cc cc (seen ++ [n]) (tookR c t ks seen) x v x1 x2 q b) (canT env 18 [] 8) = .ok (.norm, sR c t es cc cc cc (seen ++ [n]) r') →
        (∀ st2, canon 0 (hintX env 18 [] 8).1 st2 = sR c t es cc cc cc (seen ++ [n]) r' → Q2 .norm st2) → partD env (M + 1) 18 [8, 2] (0 + 1 + 2) (sU c t es cc cc (seen ++ [n]) (tookR c t ks seen) x v x1 x2 q b) Q2 := fun Q2 q b x1 x2 r' hz hQ => by
      obtain ⟨st2, y1, y2⟩ := seqT_inv hz
      refine partD_x (e := .norm) 1 y1 ?_
      exact partD_end (by kernel_rfl) (hQ st2 y2)
    have htk := tookR_len c t ks seen
    have hsl : seen.length ≤ es.length := by omega
    have hadd := tookR_add (c := c) (t := t) (seen := seen) k1
    rw [best_opt] at hadd
    cases hb : bestR (thoseR c t x) with
    | none =>
      rw [hb] at hadd
      exact fin _ zRt false _ _ (tookR c t ks seen) (zLUfalse _ _ _ _ _ _ _ _ _ _ _ _ _) fun st2 e2 => partD_end (by kernel_rfl) (hnext hadd.symm e2)
    | some q =>
      rw [hb] at hadd
      refine fin _ q true _ _ (tookR c t ks seen ++ [⟨x, q⟩]) ?_ fun st2 e2 => partD_end (by kernel_rfl) (hnext hadd.symm e2)
      rw [zLUtrue]
      rw [show ∀ K : Res (Ex × St), chkAll (T.okE 8) [T.agg [i64 x.a, i64 x.n, i64 q.n, i64 q.p.o, T.sl 1 (ints q.p.s), i64 q.p.h, i64 q.p.c, i64 q.f]] K = K from fun K => rfl, decide_eq_true (by rw [List.length_map]; omega), chk_true]
      unfold sR
      rw [List.map_append]; rfl
end Go.Sim

/- decide.Loc: what is leant on of it, and what its callers meet. -/
namespace Go.Sim
open Go.RowKit Go.Proofs
set_option linter.unusedVariables false
set_option linter.unusedSimpArgs false
set_option linter.unusedSectionVars false
set_option maxRecDepth 100000
def opSo : Oper := { dst := some 79, op := .call { callee := .value (.func 42), args := #[.tmp 78, .func 43], argTypes := #[27, 76] }, type := 0, pos := "decide.go:53", after := #[{ on := 0, ground := .data }], guard := none }
theorem seen_ok {c : Cf} {t : List (List En)} (h : c.ok) (ht : okT t) : ∀ x ∈ seenL c t, x.ok := fun x hx => by
  unfold seenL at hx
  rcases List.mem_append.1 hx with hx | hx
  · exact h.w.2 x hx
  · obtain ⟨l, h1, h2⟩ := List.mem_flatMap.1 hx
    obtain ⟨e, h3, rfl⟩ := List.mem_map.1 h2
    exact ((ht.2 l (List.mem_of_mem_take h1)).2 e h3).x
variable [Lv]
theorem choice_ok {c : Cf} {t : List (List En)} {x : Px} {e : Ch} (h : c.ok) (ht : okT t) (hx : x.ok) (he : choiceR c t x = some e) : e.ok := by
  obtain ⟨h1, h2⟩ := choice_some.1 he
  exact ⟨by rw [h1]; exact hx, those_step_ok h ht _ (best_spec h2).1⟩
theorem sort_nil {M : Nat} (hM : 60 ≤ M) : callP env M 42 [T.sl 8 [], T.fn 43 [] []] = .ok (.tup []) := by
  obtain ⟨m, rfl⟩ : ∃ m, M = (m + 30) + 30 := ⟨M - 60, by omega⟩
  exact callP_run (tbl := []) tab_nil 30 (by kernel_rfl)
def endR (l : List Ch) : PV → List AObj → Prop := fun r H' => outK env 18 r H' = .ok (.sl 8 (l.map Ch.t))
theorem loc_end {l : List Ch} {st : St} (h1 : resultsK env st (funcE env 18).results.toList (fun ps => (.ok (pvRes ps, st.heap) : Res (PV × List AObj))) = .ok (.own 0, [.row 49 8 (l.map Ch.t)])) : endD env (funcE env 18) (endR l) st := ⟨_, _, h1, rfl⟩
theorem loc_funD {N : Nat} (he : EnvOk env) (hN : big + 80 ≤ N) {c : Cf} {t : List (List En)} (h : c.ok) (ht : okT t) (hr : roomT c t) : funD env (recOf env N) 18 ([c.t, .sl 1 (tabT t)].map .t) [] (endR (locR c t)) := by
  have hbig := big_val
  unfold roomT at hr
  have hL : (seenL c t).length ≤ big := by omega
  refine funD_parts ⟨funcE env 18, by kernel_rfl, by kernel_rfl⟩ ?_
  obtain ⟨p, a1, a2⟩ := locA (N := N) (t := t) hN h hL
  refine partD_xloop (i := 0) 3 (id := 0) (s := sA c t [] 0 0) (X := sX c t p.1 p.2) (c := innerC ((partsC env 18 []).getD 3 .skip)) (zLA N c t) (by kernel_rfl) a1 ?_
  obtain ⟨p', b1, b2⟩ := locB hN h ht a2 hL
  refine partD_xloop (i := 4) 1 (id := 2) (X := sX c t p'.1 p'.2) (c := innerC ((partsC env 18 []).getD 5 .skip)) (zLB N c t p.1 p.2) (by kernel_rfl) b1 ?_
  obtain ⟨ks, hm, hks⟩ := b2
  have hkl : ks.length ≤ (seenL c t).length := nodup_sub ks _ hm.nd fun y hy => (hks y).1 hy
  obtain ⟨st', g1, g2⟩ := canX_inv (zLR N c t p'.1 p'.2)
  have hkok : ∀ x ∈ ks, x.ok := fun x hx => seen_ok h ht x ((hks x).1 hx)
  refine partD_y (i := 6) 2 g1 ?_
  refine partD_rloop (i := 6 + 2) (id := 6) (c := innerC ((partsC env 18 []).getD 8 .skip)) (by kernel_rfl) (by kernel_rfl) (InvR c t p'.1 p'.2 ks) (m := p'.1.length) ?_ fun m st hI => locR_step hN h ht hm (by omega) hkok ?_ m st hI
  · show InvR c t p'.1 p'.2 ks p'.1.length (canon 0 (hintX env 18 [] 8).1 st')
    rw [g2]
    exact ⟨[], rfl, List.nodup_nil, by simp, by simp⟩
  intro seen hn hs hall
  have hlen := hm.len
  obtain ⟨v1, v2⟩ := tookR_all hn hm.nd (fun n hx => by have := hs n hx; omega) fun n hx => hall n (by omega)
  have hv : ∀ x, x ∈ (seen.filterMap fun n => ks[n]?) ↔ x ∈ seenL c t := fun x => (v2 x).trans (hks x)
  have hsl : seen.length ≤ ks.length := by rw [← hlen]; exact nodup_lt _ _ hn hs
  have htl := tookR_len c t ks seen
  have hrok : okL Ch.ok (tookR c t ks seen) := ⟨by omega, fun e he => by
    obtain ⟨x, h1, h2⟩ := List.mem_filterMap.1 he
    exact choice_ok h ht (hkok x ((v2 x).1 h1)) h2⟩
  by_cases hne : tookR c t ks seen = []
  · rw [hne]
    have hz := zLE N
    rw [cl_ok (sort_nil (by omega))] at hz
    refine partD_x (e := .ret) 3 hz ?_
    have : locR c t = [] := (loc_unique (ys := []) hv v1 (by rw [show (seen.filterMap fun n => ks[n]?).filterMap (choiceR c t) = [] from hne]) List.Pairwise.nil).symm
    rw [this]
    exact loc_end (l := []) (by kernel_rfl)
  · generalize hl : tookR c t ks seen = l at hne hrok htl
    refine partD_reg (by kernel_rfl) (of_decide_eq_true (by kernel_rfl)) ?_
    refine opD_x 1 (zLS0 N l) ?_
    refine opD_step (o := opSo) (by kernel_rfl) ?_
    refine step_sort (l := 0) (e := 49) (k := 8) (xs := l.map Ch.t) (rest := [.fn 43 [] []]) rfl rfl (by kernel_rfl) rfl (by simpa using hne) (sort_choice he hne hrok) ?_
    rintro ys ⟨m, rfl, m1, m2⟩
    refine opD_end (by kernel_rfl) ?_
    have hz := zLS1 N l m
    rw [zLS0] at hz
    refine partD_x (e := .ret) 2 hz ?_
    have : m = locR c t := loc_unique hv v1 (by unfold tookR at hl; rw [hl]; exact m1) m2
    rw [this]
    exact loc_end (l := locR c t) (by kernel_rfl)
/-- What is leant on of it: what the document's own text comes to. -/
noncomputable def locG (ts : List T) : Res T := open Classical in if ∃ c t, ts = [Cf.t c, .sl 1 (tabT t)] ∧ c.ok ∧ okT t ∧ roomT c t then callP env (big + 80 + 1) 13 ts else .stuck
theorem locG_ok {c : Cf} {t : List (List En)} (h : c.ok) (ht : okT t) (hr : roomT c t) : locG [c.t, .sl 1 (tabT t)] = .ok (.sl 8 ((locR c t).map Ch.t)) := by
  unfold locG
  rw [if_pos ⟨c, t, rfl, h, ht, hr⟩, f13_ok (Nat.le_refl _) h ht hr]
end Go.Sim

/- The frames: first one without contracts, then one that has decide.Loc's. -/
namespace Go.Sim
open Go.RowKit Go.Proofs
set_option linter.unusedVariables false
set_option linter.unusedSimpArgs false
set_option linter.unusedSectionVars false
set_option maxRecDepth 100000
@[reducible] def lv0 : Lv := ⟨none, none⟩
theorem ok0 : EnvOk (@env lv0) := @env_ok_of lv0 (fun e h => by cases h)
theorem loc_ext : ExtOk (@env lv0) 18 (@locG lv0) := by
  refine extD_ok ok0 (f := 18) (G := @locG lv0) fun ts hw hne => ?_
  letI := lv0
  by_cases hc : ∃ c t, ts = [Cf.t c, .sl 1 (tabT t)] ∧ c.ok ∧ okT t ∧ roomT c t
  · obtain ⟨c, t, rfl, h1, h2, h3⟩ := hc
    exact ⟨big + 80, _, locG_ok h1 h2 h3, loc_funD ok0 (Nat.le_refl _) h1 h2 h3⟩
  · refine absurd ?_ hne
    unfold locG
    exact if_neg hc
@[reducible] noncomputable def lv1 : Lv := ⟨some (@locG lv0), none⟩
theorem ok1 : EnvOk (@env lv1) := @env_ok_of lv1 fun e h => by
  have h : some (@locG lv0) = some e := h
  injection h with h
  subst h
  exact ExtOk.env (E := @env lv0) (E' := @env lv1) rfl rfl loc_ext
noncomputable instance lvI : Lv := lv1
theorem env_ok : EnvOk env := ok1
theorem f18_ok {M : Nat} {c : Cf} {t : List (List En)} (h : c.ok) (ht : okT t) (hr : roomT c t) : callP env M 18 [c.t, .sl 1 (tabT t)] = .ok (.sl 8 ((locR c t).map Ch.t)) := by
  have e : callP env M 18 [c.t, .sl 1 (tabT t)] = bif T.wfs [c.t, .sl 1 (tabT t)] then @locG lv0 [c.t, .sl 1 (tabT t)] else .absurd := rfl
  rw [e, wfs2 h.wf ht.wf]
  exact @locG_ok lv0 c t h ht hr
end Go.Sim

/- Layer 19: what its statements begin with. -/
namespace Go.Sim
open Go.RowKit Go.Proofs
set_option linter.unusedVariables false
set_option linter.unusedSimpArgs false
set_option linter.unusedSectionVars false
set_option maxRecDepth 100000
def nodeD : Cf := ⟨1, 9, 0, 9, [⟨167772160, 8⟩], [⟨2, 1, [⟨0, ⟨0, 0⟩, 0, 2, 300⟩], []⟩]⟩
theorem nodeD_ok : nodeD.ok := ⟨rfl, rfl, rfl, rfl, okL_one ⟨rfl, rfl⟩, okL_one ⟨rfl, rfl, okL_one ⟨rfl, ⟨rfl, rfl⟩, rfl, rfl, rfl⟩, okL_nil⟩⟩
def pathD : Pa := ⟨0, [2], 5, 0⟩
theorem pathD_ok : pathD.ok := ⟨rfl, show 1 ≤ big by decide, fun x hx => (by rw [List.mem_singleton.1 hx]; rfl), rfl, rfl⟩
def tabD : List (List En) := [[⟨⟨167772160, 8⟩, pathD⟩, ⟨⟨184549376, 8⟩, pathD⟩]]
theorem tabD_ok : okT tabD := okL_one (okL_two ⟨⟨rfl, rfl⟩, pathD_ok⟩ ⟨⟨rfl, rfl⟩, pathD_ok⟩)
theorem roomD : roomT nodeD tabD := show 3 * 128 ≤ big by decide
theorem f8_ok {M : Nat} (hM : big ≤ M) : callP env (M + 1) 8 [] = .ok (.bool true) := by
  have := big_val
  obtain ⟨m, rfl⟩ : ∃ m, M = (m + 200) + 39 := ⟨M - 239, by omega⟩
  exact callP_run (tbl := [(18, [nodeD.t, .sl 1 (tabT tabD)], .sl 8 ((locR nodeD tabD).map Ch.t))]) (tab_cons (fun M _ => f18_ok nodeD_ok tabD_ok roomD) tab_nil) 40 (by kernel_rfl)
theorem f9_ok {M : Nat} {c : Cf} {t : List (List En)} (hM : big + 4 ≤ M) (h : c.ok) (ht : okT t) : callP env (M + 1) 9 [c.t, .sl 1 (tabT t)] = .ok (.bool (few12 c && fewT t)) := by
  obtain ⟨m, rfl⟩ := exM (show 1 ≤ M by omega)
  rw [q9, W_ok (wfs2 h.wf ht.wf), clB_ok (f30_ok (by omega) h), cl_ok (f31_ok (by omega) ht)]
  cases few12 c <;> rfl
theorem flat_le {α β : Type} {f : α → List β} {k : Nat} : ∀ {l : List α}, (∀ x ∈ l, (f x).length ≤ k) → (l.flatMap f).length ≤ l.length * k
  | [], _ => by simp
  | x :: l, h => by
    rw [List.flatMap_cons, List.length_append, List.length_cons, Nat.succ_mul]
    have h1 := h x List.mem_cons_self
    have h2 := flat_le (l := l) fun y hy => h y (List.mem_cons_of_mem _ hy)
    omega
theorem few_parts {c : Cf} {t : List (List En)} (h1 : few12 c = true) (h2 : fewT t = true) : c.w.length ≤ 20 ∧ c.s.length ≤ 20 ∧ t.length ≤ 10 ∧ ∀ l ∈ t, l.length ≤ 40 := by
  unfold few12 at h1
  unfold fewT at h2
  simp only [Bool.and_eq_true, decide_eq_true_eq, Bool.not_eq_true'] at h1 h2
  refine ⟨h1.2.1, h1.2.2, h2.2, fun l hl => ?_⟩
  have := List.any_eq_false.1 h2.1 l hl
  unfold fewE at this
  simp only [Bool.not_eq_true, Bool.not_eq_false', Bool.and_eq_true, decide_eq_true_eq] at this
  have := this.2
  omega
theorem seen_few {c : Cf} {t : List (List En)} (h1 : few12 c = true) (h2 : fewT t = true) : (seenL c t).length ≤ 420 := by
  obtain ⟨a1, a2, a3, a4⟩ := few_parts h1 h2
  unfold seenL
  rw [List.length_append]
  have := flat_le (f := fun l : List En => l.map En.x) (k := 40) (l := t.take c.s.length) fun l hl => by rw [List.length_map]; exact a4 l (List.mem_of_mem_take hl)
  have h3 : (t.take c.s.length).length ≤ t.length := by rw [List.length_take]; omega
  omega
theorem room_few {c : Cf} {t : List (List En)} (h1 : few12 c = true) (h2 : fewT t = true) : roomT c t := by
  have := seen_few h1 h2
  have := big_val
  unfold roomT
  omega
theorem loc_len (c : Cf) (t : List (List En)) : (locR c t).length ≤ (seenL c t).length := by
  unfold locR
  refine Nat.le_trans (List.length_filterMap_le _ _) ?_
  exact nodup_sub _ _ ((keys_sorted c t).imp fun h e => by subst e; exact ltP_irrefl _ h) fun x hx => mem_keys.1 hx
theorem loc_okL {c : Cf} {t : List (List En)} (h : c.ok) (ht : okT t) (hl : (seenL c t).length ≤ big) : okL Ch.ok (locR c t) := ⟨Nat.le_trans (loc_len c t) hl, fun e he => by
  obtain ⟨x, h1, h2⟩ := List.mem_filterMap.1 he
  exact @choice_ok lv0 c t x e h ht (seen_ok h ht x (mem_keys.1 h1)) h2⟩
theorem loc_okF {c : Cf} {t : List (List En)} (h : c.ok) (ht : okT t) (h1 : few12 c = true) (h2 : fewT t = true) : okL Ch.ok (locR c t) := loc_okL h ht (by have := seen_few h1 h2; have := big_val; omega)
end Go.Sim

/- What calls come to: printed by wip/tools/eq2.py: law 19. -/
namespace Go.Sim
open Go.RowKit Go.Proofs
set_option linter.unusedVariables false
set_option maxRecDepth 100000
variable [Lv]

theorem q3 (N : Nat) (c : Cf) (t : List (List En)) (l : List Ch) (x : Px) : callP env (N + 1) 3 [c.t, .sl 1 (tabT t), .sl 8 (l.map Ch.t), x.t] = W [c.t, .sl 1 (tabT t), .sl 8 (l.map Ch.t), x.t] (cl N 8 [] fun x_1 => clB N 9 [c.t, T.sl 1 (List.map (fun l => T.sl 6 (List.map En.t l)) t)] fun b => bif !b then Res.ok x_1 else clB N 10 [T.sl 8 (List.map Ch.t l)] fun b => bif !b then Res.ok x_1 else cl N 11 [T.sl 8 (List.map Ch.t l), x.t] fun x_2 => compT x_2 0 fun y => compT x_2 1 fun y_1 => chk (y.cells.length == 6 && !y.isTup) (cl N 12 [T.sl 8 (List.map Ch.t l), x.t] fun x_3 => compT x_3 0 fun y_2 => compT x_3 1 fun y_3 => chk (y_2.cells.length == 6 && !y_2.isTup) (cl N 13 [c.t, T.sl 1 (List.map (fun l => T.sl 6 (List.map En.t l)) t)] fun x_4 => bT x_1 fun b => bif b then cl N 15 [c.t, T.sl 1 (List.map (fun l => T.sl 6 (List.map En.t l)) t), x.t] fun x_5 => cl N 16 [c.t, T.sl 1 (List.map (fun l => T.sl 6 (List.map En.t l)) t), x.t] fun x => clB N 14 [x_5, x] fun b => bif b then cl N 18 [c.t, T.sl 1 (List.map (fun l => T.sl 6 (List.map En.t l)) t)] fun x => clB N 17 [x, x_4] fun b => bif b then match T.eqLs [1] [y_1] [y_3] with | some b => bif b then clB N 19 [y, y_2] fun b => bif b then cl N 20 [T.sl 8 (List.map Ch.t l), x_4] fun x => cl N 17 [T.sl 8 (List.map Ch.t l), x_4] fun x_6 => match T.eqLs [1] [x] [x_6] with | some b => rB b | none => Res.stuck else rB false else rB false | none => Res.stuck else rB false else rB false else rB false))) := by kernel_rfl
theorem q7 (N : Nat) (c : Cf) (t : List (List En)) (x : Px) : callP env (N + 1) 7 [c.t, .sl 1 (tabT t), x.t] = W [c.t, .sl 1 (tabT t), x.t] (cl N 8 [] fun x_1 => clB N 9 [c.t, T.sl 1 (List.map (fun l => T.sl 6 (List.map En.t l)) t)] fun b => bif !b then Res.ok x_1 else cl N 18 [c.t, T.sl 1 (List.map (fun l => T.sl 6 (List.map En.t l)) t)] fun x_2 => cl N 11 [x_2, x.t] fun x_3 => compT x_3 0 fun y => compT x_3 1 fun y_1 => chk (y.cells.length == 6 && !y.isTup) (cl N 15 [c.t, T.sl 1 (List.map (fun l => T.sl 6 (List.map En.t l)) t), x.t] fun x => loopL env N 7 8 { tmps := slots 77 [(7, PV.t x_1), (8, PV.ptr 0 0), (9, PV.t y_1), (10, PV.t x), (11, PV.t (T.bool false)), (12, PV.t (i64 0))], heap := [AObj.box 37 6 (PV.t y)] })) := by kernel_rfl
theorem q4 (N : Nat) (c : Cf) (t : List (List En)) : callP env (N + 1) 4 [c.t, .sl 1 (tabT t)] = W [c.t, .sl 1 (tabT t)] (cl N 8 [] fun x => clB N 9 [c.t, T.sl 1 (List.map (fun l => T.sl 6 (List.map En.t l)) t)] fun b => bif !b then Res.ok x else cl N 18 [c.t, T.sl 1 (List.map (fun l => T.sl 6 (List.map En.t l)) t)] fun x_1 => clB N 21 [c.t] fun b => bif !b then sllT x_1 fun n => bif decide (n > 0) then rB false else loopL env N 4 8 { tmps := slots 125 [(1, PV.t (T.sl 1 (List.map (fun l => T.sl 6 (List.map En.t l)) t))), (2, PV.ptr 0 0), (5, PV.t x), (6, PV.t x_1), (7, PV.t (i64 0))], heap := [AObj.box 25 6 (PV.t c.t)] } else loopL env N 4 8 { tmps := slots 125 [(1, PV.t (T.sl 1 (List.map (fun l => T.sl 6 (List.map En.t l)) t))), (2, PV.ptr 0 0), (5, PV.t x), (6, PV.t x_1), (7, PV.t (i64 0))], heap := [AObj.box 25 6 (PV.t c.t)] }) := by kernel_rfl
theorem q5 (N : Nat) (c : Cf) (t : List (List En)) : callP env (N + 1) 5 [c.t, .sl 1 (tabT t)] = W [c.t, .sl 1 (tabT t)] (cl N 8 [] fun x => clB N 9 [c.t, T.sl 1 (List.map (fun l => T.sl 6 (List.map En.t l)) t)] fun b => bif !b then Res.ok x else clB N 21 [c.t] fun b => bif !b then Res.ok x else cl N 18 [c.t, T.sl 1 (List.map (fun l => T.sl 6 (List.map En.t l)) t)] fun x_1 => loopL env N 5 6 { tmps := slots 61 [(2, PV.ptr 0 0), (5, PV.t x), (6, PV.t x_1), (7, PV.t (i64 0))], heap := [AObj.box 25 6 (PV.t c.t)] }) := by kernel_rfl
theorem q6 (N : Nat) (c : Cf) (t : List (List En)) (k : Int) : callP env (N + 1) 6 [c.t, .sl 1 (tabT t), i64 k] = W [c.t, .sl 1 (tabT t), i64 k] (cl N 8 [] fun x => clB N 9 [c.t, T.sl 1 (List.map (fun l => T.sl 6 (List.map En.t l)) t)] fun b => bif !b then Res.ok x else bif decide (k < 0) then Res.ok x else bif decide (k ≥ (↑(List.map (fun l => T.sl 6 (List.map En.t l)) t).length : Int)) then Res.ok x else chkAll (T.okE 1) [] (chk (decide ((0 + (List.map (fun l => T.sl 6 (List.map En.t l)) t).length) * 24 ≤ 140737488355328)) (chk (decide (0 ≤ k) && decide (k < (↑(List.map (fun l => T.sl 6 (List.map En.t l)) t).length : Int))) (cl N 18 [c.t, T.sl 1 (List.map (fun l => T.sl 6 (List.map En.t l)) t)] fun x_1 => cl N 18 [c.t, T.sl 1 ((List.map (fun l => T.sl 6 (List.map En.t l)) t).set k.toNat (T.sl 6 []))] fun x_2 => loopL env N 6 9 { tmps := slots 126 [(2, PV.t (i64 k)), (7, PV.t x), (9, PV.t x_1), (10, PV.t x_2), (11, PV.t (i64 0))], heap := [] })))) := by kernel_rfl
def sDB (r : Rt) (ok is : Bool) (l : List Rt) (i : Int) : St := ⟨slots 77 [(7, .t (.bool true)), (8, .ptr 0 0), (9, .t (.bool ok)), (10, .t (.sl 6 (l.map Rt.t))), (11, .t (.bool is)), (12, .t (i64 i))], [.box 37 6 (.t r.t)]⟩
theorem b7_8 (N : Nat) (r : Rt) (ok is : Bool) (l : List Rt) (i : Int) : bodyL env N 7 0 8 (sDB r ok is l i) = bif decide (i < (↑(List.map Rt.t l).length : Int)) then bif is then atT (List.map Rt.t l) i fun e => clB N 29 [e] fun b => bif !b then Res.ok (Ex.ret, { tmps := slots 77 [(6, PV.t (T.bool false))], heap := [] }) else bif ok then atT (List.map Rt.t l) i fun e => clI N 28 [e, r.t] fun a => bif decide (a < 0) then Res.ok (Ex.ret, { tmps := slots 77 [(6, PV.t (T.bool false))], heap := [] }) else Res.ok (Ex.norm, sDB r ok true l (IntKind.i64.wrap (i + 1))) else Res.ok (Ex.norm, sDB r ok true l (IntKind.i64.wrap (i + 1))) else atT (List.map Rt.t l) i fun e => cl N 26 [e, r.t] fun x => atT (List.map Rt.t l) i fun e => clB N 29 [e] fun b => bif !b then Res.ok (Ex.ret, { tmps := slots 77 [(6, PV.t (T.bool false))], heap := [] }) else bif ok then atT (List.map Rt.t l) i fun e => clI N 28 [e, r.t] fun a => bif decide (a < 0) then Res.ok (Ex.ret, { tmps := slots 77 [(6, PV.t (T.bool false))], heap := [] }) else Res.ok (Ex.norm, { tmps := slots 77 [(7, PV.t (T.bool true)), (8, PV.ptr 0 0), (9, PV.t (T.bool ok)), (10, PV.t (T.sl 6 (List.map Rt.t l))), (11, PV.t x), (12, PV.t (i64 (IntKind.i64.wrap (i + 1))))], heap := [AObj.box 37 6 (PV.t r.t)] }) else Res.ok (Ex.norm, { tmps := slots 77 [(7, PV.t (T.bool true)), (8, PV.ptr 0 0), (9, PV.t (T.bool ok)), (10, PV.t (T.sl 6 (List.map Rt.t l))), (11, PV.t x), (12, PV.t (i64 (IntKind.i64.wrap (i + 1))))], heap := [AObj.box 37 6 (PV.t r.t)] }) else Res.ok (Ex.exit 0, { tmps := slots 77 [(7, PV.t (T.bool true)), (9, PV.t (T.bool ok)), (10, PV.t (T.sl 6 (List.map Rt.t l))), (11, PV.t (T.bool is))], heap := [] }) := by kernel_rfl
def sDR (c : Cf) (t : List (List En)) (l : List Ch) (i : Int) : St := ⟨slots 125 [(1, .t (.sl 1 (tabT t))), (2, .ptr 0 0), (5, .t (.bool true)), (6, .t (.sl 8 (l.map Ch.t))), (7, .t (i64 i))], [.box 25 6 (.t c.t)]⟩
def sDO (c : Cf) (l : List Ch) (i : Int) : St := ⟨slots 61 [(2, .ptr 0 0), (5, .t (.bool true)), (6, .t (.sl 8 (l.map Ch.t))), (7, .t (i64 i))], [.box 25 6 (.t c.t)]⟩
theorem b5_6 (N : Nat) (c : Cf) (l : List Ch) (i : Int) : bodyL env N 5 0 6 (sDO c l i) = bif decide (i < (↑(List.map Px.t c.w).length : Int)) then atT (List.map Px.t c.w) i fun e => cl N 11 [T.sl 8 (List.map Ch.t l), e] fun x => compT x 0 fun y => compT x 1 fun y_1 => chk (y.cells.length == 6 && !y.isTup) (bT y_1 fun b => bif !b then Res.ok (Ex.ret, { tmps := slots 61 [(4, PV.t (T.bool false))], heap := [] }) else cl N 27 [i64 c.d] fun x => clB N 26 [y, x] fun b => bif !b then Res.ok (Ex.ret, { tmps := slots 61 [(4, PV.t (T.bool false))], heap := [] }) else Res.ok (Ex.norm, sDO c l (IntKind.i64.wrap (i + 1)))) else Res.ok (Ex.exit 0, { tmps := slots 61 [(2, PV.ptr 0 0), (5, PV.t (T.bool true))], heap := [AObj.box 25 6 (PV.t c.t)] }) := by kernel_rfl
def sDL (k : Int) (l m : List Ch) (i : Int) : St := ⟨slots 126 [(2, .t (i64 k)), (7, .t (.bool true)), (9, .t (.sl 8 (l.map Ch.t))), (10, .t (.sl 8 (m.map Ch.t))), (11, .t (i64 i))], []⟩
theorem b6_9 (N : Nat) (k : Int) (l m : List Ch) (i : Int) : bodyL env N 6 0 9 (sDL k l m i) = bif decide (i < (↑(List.map Ch.t l).length : Int)) then atT (List.map Ch.t l) i fun e => cl N 11 [T.sl 8 (List.map Ch.t m), e.partD 0 2 true] fun x => compT x 0 fun y => compT x 1 fun y_1 => chk (y.cells.length == 6 && !y.isTup) (atT (List.map Ch.t l) i fun e => iT IntKind.i64 (e.partD 7 1 false) fun a => bif a != k then bT y_1 fun b => bif !b then Res.ok (Ex.ret, { tmps := slots 126 [(6, PV.t (T.bool false))], heap := [] }) else atT (List.map Ch.t l) i fun e => clB N 26 [y, e.partD 2 6 true] fun b => bif !b then Res.ok (Ex.ret, { tmps := slots 126 [(6, PV.t (T.bool false))], heap := [] }) else bT y_1 fun b => bif b then atT (List.map Ch.t l) i fun e => iT IntKind.i64 (e.partD 7 1 false) fun a => bif a == k then atT (List.map Ch.t l) i fun e => clI N 28 [y, e.partD 2 6 true] fun a => bif decide (a ≤ 0) then Res.ok (Ex.ret, { tmps := slots 126 [(6, PV.t (T.bool false))], heap := [] }) else Res.ok (Ex.norm, sDL k l m (IntKind.i64.wrap (i + 1))) else Res.ok (Ex.norm, sDL k l m (IntKind.i64.wrap (i + 1))) else Res.ok (Ex.norm, sDL k l m (IntKind.i64.wrap (i + 1))) else bT y_1 fun b => bif b then atT (List.map Ch.t l) i fun e => iT IntKind.i64 (e.partD 7 1 false) fun a => bif a == k then atT (List.map Ch.t l) i fun e => clI N 28 [y, e.partD 2 6 true] fun a => bif decide (a ≤ 0) then Res.ok (Ex.ret, { tmps := slots 126 [(6, PV.t (T.bool false))], heap := [] }) else Res.ok (Ex.norm, sDL k l m (IntKind.i64.wrap (i + 1))) else Res.ok (Ex.norm, sDL k l m (IntKind.i64.wrap (i + 1))) else Res.ok (Ex.norm, sDL k l m (IntKind.i64.wrap (i + 1)))) else Res.ok (Ex.exit 0, { tmps := slots 126 [(2, PV.t (i64 k)), (7, PV.t (T.bool true)), (9, PV.t (T.sl 8 (List.map Ch.t l))), (10, PV.t (T.sl 8 (List.map Ch.t m)))], heap := [] }) := by kernel_rfl
theorem t7_8_ret (N : Nat)  : tailL env N 7 0 8 (outK env 7) (.ret) (⟨slots 77 [(6, .t (.bool false))], []⟩) = rB false := by kernel_rfl
theorem t7_8_exit0 (N : Nat) (ok is : Bool) (l : List Rt) : tailL env N 7 0 8 (outK env 7) (.exit 0) (⟨slots 77 [(7, .t (.bool true)), (9, .t (.bool ok)), (10, .t (.sl 6 (l.map Rt.t))), (11, .t (.bool is))], []⟩) = bif ok == decide ((↑(List.map Rt.t l).length : Int) > 0) && true then rB (ok == is && true) else rB false := by kernel_rfl
theorem t5_6_ret (N : Nat)  : tailL env N 5 0 6 (outK env 5) (.ret) (⟨slots 61 [(4, .t (.bool false))], []⟩) = rB false := by kernel_rfl
theorem t5_6_exit0 (N : Nat) (c : Cf) : tailL env N 5 0 6 (outK env 5) (.exit 0) (⟨slots 61 [(2, .ptr 0 0), (5, .t (.bool true))], [.box 25 6 (.t c.t)]⟩) = cl N 18 [c.t, T.sl 1 []] fun x => sllT x fun n => rB (n == (↑(List.map Px.t c.w).length : Int)) := by kernel_rfl
theorem t6_9_ret (N : Nat)  : tailL env N 6 0 9 (outK env 6) (.ret) (⟨slots 126 [(6, .t (.bool false))], []⟩) = rB false := by kernel_rfl
theorem t6_9_exit0 (N : Nat) (k : Int) (l m : List Ch) : tailL env N 6 0 9 (outK env 6) (.exit 0) (⟨slots 126 [(2, .t (i64 k)), (7, .t (.bool true)), (9, .t (.sl 8 (l.map Ch.t))), (10, .t (.sl 8 (m.map Ch.t)))], []⟩) = loopL env N 6 15 { tmps := slots 126 [(2, PV.t (i64 k)), (7, PV.t (T.bool true)), (9, PV.t (T.sl 8 (List.map Ch.t l))), (10, PV.t (T.sl 8 (List.map Ch.t m))), (14, PV.t (i64 0))], heap := [] } := by kernel_rfl
def sDM (k : Int) (l m : List Ch) (i : Int) : St := ⟨slots 126 [(2, .t (i64 k)), (7, .t (.bool true)), (9, .t (.sl 8 (l.map Ch.t))), (10, .t (.sl 8 (m.map Ch.t))), (14, .t (i64 i))], []⟩
theorem b6_15 (N : Nat) (k : Int) (l m : List Ch) (i : Int) : bodyL env N 6 0 15 (sDM k l m i) = bif decide (i < (↑(List.map Ch.t m).length : Int)) then atT (List.map Ch.t m) i fun e => iT IntKind.i64 (e.partD 7 1 false) fun a => bif a == k then Res.ok (Ex.ret, { tmps := slots 126 [(6, PV.t (T.bool false))], heap := [] }) else Res.ok (Ex.norm, sDM k l m (IntKind.i64.wrap (i + 1))) else Res.ok (Ex.exit 2, { tmps := slots 126 [(7, PV.t (T.bool true)), (9, PV.t (T.sl 8 (List.map Ch.t l))), (10, PV.t (T.sl 8 (List.map Ch.t m)))], heap := [] }) := by kernel_rfl
theorem t6_15_ret (N : Nat)  : tailL env N 6 0 15 (outK env 6) (.ret) (⟨slots 126 [(6, .t (.bool false))], []⟩) = rB false := by kernel_rfl
theorem t6_15_exit2 (N : Nat) (l m : List Ch) : tailL env N 6 0 15 (outK env 6) (.exit 2) (⟨slots 126 [(7, .t (.bool true)), (9, .t (.sl 8 (l.map Ch.t))), (10, .t (.sl 8 (m.map Ch.t)))], []⟩) = rB (decide ((↑(List.map Ch.t m).length : Int) ≤ (↑(List.map Ch.t l).length : Int))) := by kernel_rfl
end Go.Sim

/- Layer 19: DecideIs. -/
namespace Go.Sim
open Go.RowKit Go.Proofs
set_option linter.unusedVariables false
set_option linter.unusedSimpArgs false
set_option linter.unusedSectionVars false
set_option maxRecDepth 100000
theorem wfq4 {x y z u : T} (h : x.wf = true) (h2 : y.wf = true) (h3 : z.wf = true) (h4 : u.wf = true) : T.wfs [x, y, z, u] = true := by simp [T.wfs, h, h2, h3, h4]
theorem getC_mem {l : List Ch} {x : Px} {r : Rt} (h : getC l x = some r) : ∃ e ∈ l, e.r = r ∧ e.x = x := by
  unfold getC at h
  obtain ⟨e, h1, h2⟩ := Option.map_eq_some_iff.1 h
  exact ⟨e, List.mem_of_find?_eq_some h1, h2, by simpa using List.find?_some h1⟩
theorem getC_ok {l : List Ch} {x : Px} (h : okL Ch.ok l) : ((getC l x).getD zRt).ok := by
  cases hg : getC l x with
  | none => exact zRt_ok
  | some r => obtain ⟨e, h1, rfl, _⟩ := getC_mem hg; exact (h.2 e h1).r
theorem those_okL {c : Cf} {t : List (List En)} {x : Px} (h : c.ok) (ht : okT t) : okL Rt.ok (thoseR c t x) := ⟨by
  have := those_len (c := c) (t := t) (x := x)
  have := ht.1
  unfold thoseR
  cases hcs : csane c with
  | false => simp
  | true =>
    have := (csane_parts hcs).2.2.2.2
    have h1 := List.length_filterMap_le (fun (k : Nat) => (t[k]?).bind fun l => (getE l x).bind fun p => inR c (k : Int) x p) (List.range (min t.length c.s.length))
    rw [List.length_range] at h1
    have := big_val
    simp only [if_true, List.length_append]
    split <;> simp <;> omega, @those_step_ok lv0 c t x h ht⟩
theorem f3_ok {M : Nat} {c : Cf} {t : List (List En)} {l : List Ch} {x : Px} (hM : big + 90 ≤ M) (h : c.ok) (ht : okT t) (hl : okL Ch.ok l) (hx : x.ok) : callP env (M + 1) 3 [c.t, .sl 1 (tabT t), .sl 8 (l.map Ch.t), x.t] = .ok (.bool true) := by
  obtain ⟨m, rfl⟩ := exM (show 1 ≤ M by omega)
  rw [q3, W_ok (wfq4 h.wf ht.wf (wf_okL (fun _ h => Ch.ok.wf h) hl) hx.wf), cl_ok (f8_ok (by omega)), clB_ok (f9_ok (by omega) h ht)]
  cases h1 : few12 c with
  | false => rfl
  | true =>
  cases h2 : fewT t with
  | false => rfl
  | true =>
  simp only [Bool.and_self, Bool.not_true, cond_false]
  rw [clB_ok (f10_ok (by omega) hl)]
  cases h3 : fewC l with
  | false => rfl
  | true =>
  have hrm := room_few h1 h2
  have hlo := loc_okF h ht h1 h2
  have hg := getC_ok (x := x) hl
  have hto := those_okL (x := x) h ht
  simp only [Bool.not_true, cond_false]
  rw [cl_ok (f11_ok (by omega) hl hx), optR_eq]
  simp only [compT, List.getElem?_cons_zero, List.getElem?_cons_succ, rt_chk, chk_true]
  rw [cl_ok (f12_ok (by omega) hl hx), optR_eq]
  simp only [compT, List.getElem?_cons_zero, List.getElem?_cons_succ, rt_chk, chk_true]
  rw [cl_ok (f13_ok (by omega) h ht hrm)]
  simp only [bT_bool, cond_true]
  rw [cl_ok (f15_ok (by omega) h ht hx), cl_ok (f16_ok (by omega) h ht hx), clB_ok (f14_ok (by omega) hto hto), decide_eq_true rfl, cond_true,
    cl_ok (f18_ok h ht hrm), clB_ok (f17_ok (by omega) hlo hlo), decide_eq_true rfl, cond_true]
  have e : ∀ b : Bool, T.eqLs [1] [T.bool b] [T.bool b] = some true := fun b => by cases b <;> rfl
  rw [e]
  simp only [cond_true]
  rw [clB_ok (f19_ok (by omega) hg hg), decide_eq_true rfl, cond_true, cl_ok (f20_ok (by omega) hl hlo), cl_ok (f17_ok (by omega) hl hlo), e]
end Go.Sim

/- Layer 19: DecideBest, DecideOwn. -/
namespace Go.Sim
open Go.RowKit Go.Proofs
set_option linter.unusedVariables false
set_option linter.unusedSimpArgs false
set_option linter.unusedSectionVars false
set_option maxRecDepth 100000
theorem own_sane {c : Cf} (h : csane c = true) : rtsane (ownR c.d) = true := by
  obtain ⟨_, _, h1, h2, _⟩ := csane_parts h
  unfold rtsane asane7 ownR
  simp only [List.any_nil, Bool.not_false, Bool.true_and, List.length_nil, if_true]
  rw [show cmpR (Rt.mk 400 ⟨0, [], c.d, 0⟩ (-1)) ⟨400, ⟨0, [], c.d, 0⟩, -1⟩ = 0 from cmpR_zero.2 rfl, decide_eq_true h1, decide_eq_true h2]
  rfl
theorem those_sane {c : Cf} {t : List (List En)} {x : Px} {r : Rt} (h : r ∈ thoseR c t x) : rtsane r = true := by
  obtain ⟨h1, h2⟩ := mem_those.1 h
  rcases h2 with ⟨_, rfl⟩ | ⟨k, l, p, _, _, _, h4⟩
  · exact own_sane h1
  · exact (takes_law h4).2.1
theorem best_none {l : List Rt} (h : bestR l = none) : l = [] := by
  cases l with
  | nil => rfl
  | cons a l => cases h
theorem cmp_beq {a b : Rt} : (cmpR a b == 0) = decide (a = b) := by
  by_cases h : a = b
  · rw [decide_eq_true h, cmpR_zero.2 h]; rfl
  · rw [decide_eq_false h]
    have : cmpR a b ≠ 0 := fun e => h (cmpR_zero.1 e)
    simpa using this
theorem own_best {c : Cf} {t : List (List En)} {x : Px} (h : csane c = true) (hx : x ∈ c.w) : bestR (thoseR c t x) = some (ownR c.d) := by
  refine best_unique (mem_those.2 ⟨h, .inl ⟨hx, rfl⟩⟩) fun q hq => ?_
  rcases (mem_those.1 hq).2 with ⟨_, rfl⟩ | ⟨k, l, p, _, _, _, h4⟩
  · rw [cmpR_zero.2 rfl]; exact Int.le_refl _
  · obtain ⟨_, g1, g2, _⟩ := takes_law h4
    unfold rtsane at g1
    simp only [Bool.and_eq_true, decide_eq_true_eq] at g1
    have g3 := g1.2.2
    rw [if_neg (by omega)] at g3
    simp only [Bool.and_eq_true, decide_eq_true_eq] at g3
    have g4 := g3.2.2.2
    unfold cmpR ownR
    simp only [fnz]
    have : cmpI q.n 400 = -1 := by unfold cmpI; rw [if_pos g4]
    rw [this]
    simp
theorem own_nodup {c : Cf} (h : csane c = true) : c.w.Nodup ∧ ∀ x ∈ c.w, psane x = true := by
  have hf : freshB id psane [] c.w = true := by
    unfold csane at h
    simp only [Bool.and_eq_true] at h
    exact h.2.2.2.2.2.2.2.1
  refine ⟨?_, freshB_all hf⟩
  have hi := fresh_iff.1 hf
  unfold List.Nodup
  rw [List.pairwise_iff_getElem]
  intro i j hi' hj hij e
  have := (hi j c.w[j] (List.getElem?_eq_getElem hj)).1
  rw [List.nil_append, List.map_id_fun] at this
  have hm : c.w[j] ∈ c.w.take j := by
    rw [← e]
    exact List.mem_of_getElem? (i := i) (by rw [List.getElem?_take, if_pos hij, List.getElem?_eq_getElem hi'])
  simp [List.contains_iff_mem, hm] at this
theorem f7_ok {M : Nat} {c : Cf} {t : List (List En)} {x : Px} (hM : big + 90 ≤ M) (h : c.ok) (ht : okT t) (hx : x.ok) : callP env (M + 1) 7 [c.t, .sl 1 (tabT t), x.t] = .ok (.bool true) := by
  obtain ⟨m, rfl⟩ := exM (show 1 ≤ M by omega)
  rw [q7, W_ok (wfs3 h.wf ht.wf hx.wf), cl_ok (f8_ok (by omega)), clB_ok (f9_ok (by omega) h ht)]
  cases h1 : few12 c with
  | false => rfl
  | true =>
  cases h2 : fewT t with
  | false => rfl
  | true =>
  have hrm := room_few h1 h2
  have hlo := loc_okF h ht h1 h2
  have hg := getC_ok (x := x) hlo
  have hto := those_okL (x := x) h ht
  simp only [Bool.and_self, Bool.not_true, cond_false]
  rw [cl_ok (f18_ok h ht hrm), cl_ok (f11_ok (by omega) hlo hx), optR_eq]
  simp only [compT, List.getElem?_cons_zero, List.getElem?_cons_succ, rt_chk, chk_true]
  rw [cl_ok (f15_ok (by omega) h ht hx)]
  rw [get_loc] at hg ⊢
  have hsn : ∀ r ∈ thoseR c t x, rtsane r = true := fun r hr => those_sane hr
  have hbest : ∀ r, bestR (thoseR c t x) = some r → r ∈ thoseR c t x ∧ ∀ q ∈ thoseR c t x, cmpR r q ≤ 0 := fun r h => best_spec h
  have hnone : bestR (thoseR c t x) = none → thoseR c t x = [] := best_none
  generalize thoseR c t x = l at hto hsn hbest hnone hg ⊢
  generalize bestR l = o at hbest hnone hg ⊢
  have hl := hto.1
  have hbig := big_val
  show loopL env (m + 1) 7 8 (sDB (o.getD zRt) o.isSome false l 0) = _
  have hcmp : ∀ e ∈ l, o.isSome = true → decide (cmpR e (o.getD zRt) < 0) = false := fun e he ho => by
    obtain ⟨r, rfl⟩ := Option.isSome_iff_exists.1 ho
    have := (hbest r rfl).2 e he
    rw [cmpR_swap] at this
    exact decide_eq_false (by simp only [Option.getD_some]; omega)
  obtain ⟨f1, f2⟩ := fold_gen (N := m + 1) (F := 7) (r := 8) (id := 0) (S := fun (b : Bool) j => sDB (o.getD zRt) o.isSome b l (j : Int)) (X := fun b => ⟨slots 77 [(7, .t (.bool true)), (9, .t (.bool o.isSome)), (10, .t (.sl 6 (l.map Rt.t))), (11, .t (.bool b))], []⟩)
    (fun b j => b = (l.take j).any fun e => decide (e = o.getD zRt)) (fun b e => b || decide (e = o.getD zRt)) l false (by omega) (fun b j e he hI => by
      have hj : j < l.length := (List.getElem?_eq_some_iff.1 he).1
      have hem := List.mem_of_getElem? he
      have heo := hto.2 e hem
      refine ⟨?_, by rw [hI, List.take_add_one, he]; simp [List.any_append]⟩
      rw [b7_8, decide_eq_true (by rw [List.length_map]; omega)]
      simp only [cond_true]
      have hw := wrap_succ (show j ≤ big by omega)
      have key : ∀ (x : Res (Ex × St)), (atT (l.map Rt.t) (j : Int) fun e => clB (m + 1) 29 [e] fun b => bif !b then Res.ok (Ex.ret, { tmps := slots 77 [(6, PV.t (T.bool false))], heap := [] }) else bif o.isSome then atT (l.map Rt.t) (j : Int) fun e => clI (m + 1) 28 [e, (o.getD zRt).t] fun a => bif decide (a < 0) then Res.ok (Ex.ret, { tmps := slots 77 [(6, PV.t (T.bool false))], heap := [] }) else x else x) = x := fun x => by
        rw [atT_get (map_get he), clB_ok (f29_ok (by omega) heo), hsn e hem]
        simp only [Bool.not_true, cond_false]
        cases ho : o.isSome with
        | false => rfl
        | true =>
          simp only [cond_true]
          rw [atT_get (map_get he), clI_ok (f28_ok (by omega) heo hg), hcmp e hem ho]
          rfl
      cases b with
      | true =>
        simp only [cond_true, Bool.true_or]
        rw [key, hw]
      | false =>
        simp only [cond_false, Bool.false_or]
        rw [atT_get (map_get he), cl_ok (f26_ok (by omega) heo hg), cmp_beq, key, hw]
        rfl) (fun b hI => by
      rw [b7_8, decide_eq_false (by rw [List.length_map]; omega)]
      rfl) (by simp)
  refine f1.trans ?_
  rw [t7_8_exit0, f2, List.take_length, List.length_map]
  cases o with
  | none =>
    have := hnone rfl
    subst this
    rfl
  | some r =>
    have hm := (hbest r rfl).1
    have hp : 0 < l.length := List.length_pos_of_mem hm
    have ha : (l.any fun e => decide (e = (some r).getD zRt)) = true := List.any_eq_true.2 ⟨r, hm, by simp⟩
    rw [ha, decide_eq_true (show ((l.length : Nat) : Int) > 0 by omega)]
    rfl
theorem f5_ok {M : Nat} {c : Cf} {t : List (List En)} (hM : big + 90 ≤ M) (h : c.ok) (ht : okT t) : callP env (M + 1) 5 [c.t, .sl 1 (tabT t)] = .ok (.bool true) := by
  obtain ⟨m, rfl⟩ := exM (show 1 ≤ M by omega)
  have hbig := big_val
  rw [q5, W_ok (wfs2 h.wf ht.wf), cl_ok (f8_ok (by omega)), clB_ok (f9_ok (by omega) h ht)]
  cases h1 : few12 c with
  | false => rfl
  | true =>
  cases h2 : fewT t with
  | false => rfl
  | true =>
  have hrm := room_few h1 h2
  have hlo := loc_okF h ht h1 h2
  simp only [Bool.and_self, Bool.not_true, cond_false]
  rw [clB_ok (f21_ok (by omega) h)]
  cases h3 : csane c with
  | false => rfl
  | true =>
  simp only [Bool.not_true, cond_false]
  rw [cl_ok (f18_ok h ht hrm)]
  have hown : ∀ x ∈ c.w, getC (locR c t) x = some (ownR c.d) := fun x hx => by rw [get_loc, own_best h3 hx]
  generalize locR c t = l at hlo hown ⊢
  show loopL env (m + 1) 5 6 (sDO c l 0) = _
  have hbw := h.w.1
  obtain ⟨f1, _⟩ := fold_gen (N := m + 1) (F := 5) (r := 6) (id := 0) (S := fun (_ : Unit) j => sDO c l (j : Int)) (X := fun _ => ⟨slots 61 [(2, .ptr 0 0), (5, .t (.bool true))], [.box 25 6 (.t c.t)]⟩)
    (fun _ _ => True) (fun _ _ => ()) c.w () (by omega) (fun _ j x hx _ => by
      have hj : j < c.w.length := (List.getElem?_eq_some_iff.1 hx).1
      have hxm := List.mem_of_getElem? hx
      refine ⟨?_, trivial⟩
      rw [b5_6, decide_eq_true (by rw [List.length_map]; omega)]
      simp only [cond_true]
      rw [atT_get (map_get hx), cl_ok (f11_ok (by omega) hlo (h.w.2 x hxm)), hown x hxm, optR_eq]
      simp only [compT, List.getElem?_cons_zero, List.getElem?_cons_succ, rt_chk, chk_true, Option.isSome_some, Option.getD_some, bT_bool, Bool.not_true, cond_false]
      rw [cl_ok (f27_ok h.d), clB_ok (f26_ok (by omega) (ownR_ok h.d) (ownR_ok h.d)), cmp_beq, decide_eq_true rfl, wrap_succ (show j ≤ big by omega)]
      rfl) (fun _ _ => by
      rw [b5_6, decide_eq_false (by rw [List.length_map]; omega)]
      rfl) trivial
  refine f1.trans ?_
  rw [t5_6_exit0]
  have ht0 : okT [] := ⟨Nat.zero_le _, fun _ h => by cases h⟩
  have hs0 : seenL c [] = c.w := by unfold seenL; simp
  have hcw : c.w.length ≤ 20 := (few_parts h1 h2).1
  have hr0 : roomT c [] := by unfold roomT; rw [hs0]; omega
  rw [show (T.sl 1 [] : T) = .sl 1 (tabT []) from rfl, cl_ok (f18_ok h ht0 hr0)]
  have hlen : (locR c []).length = c.w.length := by
    refine Nat.le_antisymm (by have := loc_len c []; rw [hs0] at this; exact this) ?_
    have hall : ∀ x ∈ c.w, x ∈ (locR c []).map Ch.x := fun x hx => List.mem_map.2 ⟨⟨x, ownR c.d⟩, mem_loc.2 (own_best h3 hx), rfl⟩
    have := nodup_sub _ _ (own_nodup h3).1 hall
    rwa [List.length_map] at this
  simp only [sllT, List.length_map, hlen]
  simp
end Go.Sim

/- Layer 19: DecideLost. -/
namespace Go.Sim
open Go.RowKit Go.Proofs
set_option linter.unusedVariables false
set_option linter.unusedSimpArgs false
set_option linter.unusedSectionVars false
set_option maxRecDepth 100000
theorem those_from {c : Cf} {t : List (List En)} {x : Px} {r : Rt} (h : r ∈ thoseR c t x) : r.f = -1 ∨ ∃ (k : Nat) (l : List En) (p : Pa), r.f = k ∧ k < c.s.length ∧ t[k]? = some l ∧ getE l x = some p ∧ inR c k x p = some r := by
  rcases (mem_those.1 h).2 with ⟨_, rfl⟩ | ⟨k, l, p, h1, h2, h3, h4⟩
  · exact .inl rfl
  · exact .inr ⟨k, l, p, (takes_law h4).2.2.1, h1, h2, h3, h4⟩
theorem get_nil (x : Px) : getE [] x = none := get_none.2 fun e he => absurd (known_sub he) (by simp)
/-- Without a side's table its routes are gone, and no others. -/
theorem mem_lost {c : Cf} {t : List (List En)} {x : Px} {r : Rt} {k : Nat} : r ∈ thoseR c (t.set k []) x ↔ r ∈ thoseR c t x ∧ r.f ≠ k := by
  constructor
  · intro h
    rcases mem_those.1 h with ⟨h0, ⟨hw, rfl⟩ | ⟨j, l, p, h1, h2, h3, h4⟩⟩
    · exact ⟨mem_those.2 ⟨h0, .inl ⟨hw, rfl⟩⟩, by show (-1 : Int) ≠ k; omega⟩
    · have hf := (takes_law h4).2.2.1
      rw [List.getElem?_set] at h2
      split at h2
      · split at h2
        · simp only [Option.some.injEq] at h2
          subst h2
          rw [get_nil] at h3; cases h3
        · cases h2
      · rename_i hne
        exact ⟨mem_those.2 ⟨h0, .inr ⟨j, l, p, h1, h2, h3, h4⟩⟩, by rw [hf]; omega⟩
  · rintro ⟨h, hn⟩
    rcases mem_those.1 h with ⟨h0, ⟨hw, rfl⟩ | ⟨j, l, p, h1, h2, h3, h4⟩⟩
    · exact mem_those.2 ⟨h0, .inl ⟨hw, rfl⟩⟩
    · have hf := (takes_law h4).2.2.1
      have hne : k ≠ j := fun e => hn (by rw [hf, e])
      exact mem_those.2 ⟨h0, .inr ⟨j, l, p, h1, by rw [List.getElem?_set_ne hne]; exact h2, h3, h4⟩⟩
theorem lost_same {c : Cf} {t : List (List En)} {e : Ch} {k : Nat} (h : e ∈ locR c t) (hn : e.r.f ≠ k) : getC (locR c (t.set k [])) e.x = some e.r := by
  rw [get_loc]
  obtain ⟨h1, h2⟩ := best_spec (mem_loc.1 h)
  exact best_unique (mem_lost.2 ⟨h1, hn⟩) fun q hq => h2 q (mem_lost.1 hq).1
theorem lost_worse {c : Cf} {t : List (List En)} {e : Ch} {k : Nat} {r : Rt} (h : e ∈ locR c t) (hn : e.r.f = k) (hr : getC (locR c (t.set k [])) e.x = some r) : decide (cmpR r e.r ≤ 0) = false := by
  rw [get_loc] at hr
  obtain ⟨h1, h2⟩ := mem_lost.1 (best_spec hr).1
  have h3 := (best_spec (mem_loc.1 h)).2 r h1
  refine decide_eq_false fun h4 => h2 ?_
  rw [← hn, cmpR_anti h4 h3]
theorem lost_none {c : Cf} {t : List (List En)} {e : Ch} {k : Nat} (h : e ∈ locR c (t.set k [])) : e.r.f ≠ k := (mem_lost.1 (best_spec (mem_loc.1 h)).1).2
theorem rise_nodup {l : List Ch} (h : RiseC l) : (l.map Ch.x).Nodup := by
  unfold List.Nodup
  rw [List.pairwise_map]
  refine List.Pairwise.imp ?_ h
  intro a b h e
  rw [e] at h
  exact ltP_irrefl _ h
theorem lost_len (c : Cf) (t : List (List En)) (k : Nat) : (locR c (t.set k [])).length ≤ (locR c t).length := by
  have := nodup_sub ((locR c (t.set k [])).map Ch.x) ((locR c t).map Ch.x) (rise_nodup (loc_sorted _ _)) fun x hx => by
    obtain ⟨e, he, rfl⟩ := List.mem_map.1 hx
    have h1 := (mem_lost.1 (best_spec (mem_loc.1 he)).1).1
    cases hb : bestR (thoseR c t e.x) with
    | none => rw [best_none hb] at h1; cases h1
    | some q => exact List.mem_map.2 ⟨⟨e.x, q⟩, mem_loc.2 hb, rfl⟩
  simpa using this
theorem seen_set {c : Cf} {t : List (List En)} {k : Nat} (h1 : few12 c = true) (h2 : fewT t = true) : (seenL c (t.set k [])).length ≤ 420 := by
  obtain ⟨a1, a2, a3, a4⟩ := few_parts h1 h2
  unfold seenL
  rw [List.length_append]
  have := flat_le (f := fun l : List En => l.map En.x) (k := 40) (l := (t.set k []).take c.s.length) fun l hl => by
    rw [List.length_map]
    rcases List.mem_or_eq_of_mem_set (List.mem_of_mem_take hl) with hl | hl
    · exact a4 l hl
    · rw [hl]; exact Nat.zero_le _
  have h3 : ((t.set k []).take c.s.length).length ≤ t.length := by rw [List.length_take, List.length_set]; omega
  omega
theorem okT_set {t : List (List En)} {k : Nat} (h : okT t) : okT (t.set k []) := ⟨by rw [List.length_set]; exact h.1, fun l hl => by
  rcases List.mem_or_eq_of_mem_set hl with hl | hl
  · exact h.2 l hl
  · rw [hl]; exact okL_nil⟩
theorem f6_ok {M : Nat} {c : Cf} {t : List (List En)} {k : Int} (hM : big + 90 ≤ M) (h : c.ok) (ht : okT t) (hk : ok64 k = true) : callP env (M + 1) 6 [c.t, .sl 1 (tabT t), i64 k] = .ok (.bool true) := by
  obtain ⟨m, rfl⟩ := exM (show 1 ≤ M by omega)
  have hbig := big_val
  rw [q6, W_ok (wfs3 h.wf ht.wf (wf_int hk)), cl_ok (f8_ok (by omega)), clB_ok (f9_ok (by omega) h ht)]
  cases h1 : few12 c with
  | false => rfl
  | true =>
  cases h2 : fewT t with
  | false => rfl
  | true =>
  have hrm := room_few h1 h2
  have hlo := loc_okF h ht h1 h2
  have h420 := seen_few h1 h2
  obtain ⟨a1, a2, a3, a4⟩ := few_parts h1 h2
  simp only [Bool.and_self, Bool.not_true, cond_false]
  by_cases hk0 : k < 0
  · rw [decide_eq_true hk0]; rfl
  rw [decide_eq_false hk0, cond_false, List.length_map]
  by_cases hkl : k ≥ (t.length : Int)
  · rw [decide_eq_true hkl]; rfl
  obtain ⟨n, rfl⟩ : ∃ n : Nat, k = (n : Int) := ⟨k.toNat, by omega⟩
  rw [decide_eq_false hkl, cond_false, show ∀ K : Res T, chkAll (T.okE 1) [] K = K from fun K => rfl, decide_eq_true (show (0 + t.length) * 24 ≤ 140737488355328 by omega), chk_true, decide_eq_true (show (0 : Int) ≤ (n : Int) by omega), decide_eq_true (show (n : Int) < (t.length : Int) by omega), Bool.and_self, chk_true,
    cl_ok (f18_ok h ht hrm), Int.toNat_natCast]
  have hset : (t.map fun l => T.sl 6 (l.map En.t)).set n (T.sl 6 []) = tabT (t.set n []) := by unfold tabT; rw [List.map_set]; rfl
  have h420' := seen_set (k := n) h1 h2
  rw [hset, cl_ok (f18_ok h (okT_set ht) (by unfold roomT; omega))]
  have hmo : okL Ch.ok (locR c (t.set n [])) := loc_okL h (okT_set ht) (by omega)
  have p1 : ∀ e ∈ locR c t, e.r.f ≠ n → getC (locR c (t.set n [])) e.x = some e.r := fun e he hn => lost_same he hn
  have p2 : ∀ e ∈ locR c t, e.r.f = n → ∀ r, getC (locR c (t.set n [])) e.x = some r → decide (cmpR r e.r ≤ 0) = false := fun e he hn r hr => lost_worse he hn hr
  have p3 : ∀ e ∈ locR c (t.set n []), e.r.f ≠ n := fun e he => lost_none he
  have p4 := lost_len c t n
  generalize locR c t = l at hlo p1 p2 p4 ⊢
  generalize locR c (t.set n []) = l' at hmo p1 p2 p3 p4 ⊢
  have hbl := hlo.1
  have hbm := hmo.1
  show loopL env (m + 1) 6 9 (sDL (n : Int) l l' 0) = _
  obtain ⟨f1, _⟩ := fold_gen (N := m + 1) (F := 6) (r := 9) (id := 0) (S := fun (_ : Unit) j => sDL (n : Int) l l' (j : Int)) (X := fun _ => ⟨slots 126 [(2, .t (i64 (n : Int))), (7, .t (.bool true)), (9, .t (.sl 8 (l.map Ch.t))), (10, .t (.sl 8 (l'.map Ch.t)))], []⟩)
    (fun _ _ => True) (fun _ _ => ()) l () (by omega) (fun _ j e he _ => by
      have hj : j < l.length := (List.getElem?_eq_some_iff.1 he).1
      have hem := List.mem_of_getElem? he
      have heo := hlo.2 e hem
      have hg := getC_ok (x := e.x) hmo
      have hat := map_get (f := Ch.t) he
      refine ⟨?_, trivial⟩
      rw [b6_9, decide_eq_true (by rw [List.length_map]; omega)]
      simp only [cond_true]
      rw [atT_get hat, show e.t.partD 0 2 true = e.x.t from rfl, cl_ok (f11_ok (by omega) hmo heo.x), optR_eq]
      simp only [compT, List.getElem?_cons_zero, List.getElem?_cons_succ, rt_chk, chk_true]
      rw [atT_get hat, show e.t.partD 7 1 false = i64 e.r.f from rfl, wrap_succ (show j ≤ big by omega)]
      simp only [iT_int]
      by_cases hf : e.r.f = n
      · rw [hf, bne_self_eq_false, cond_false]
        cases hgc : getC l' e.x with
        | none => rfl
        | some r =>
          rw [hgc] at hg
          simp only [Option.isSome_some, bT_bool, cond_true]
          rw [atT_get hat, show e.t.partD 7 1 false = i64 e.r.f from rfl]
          simp only [iT_int]
          rw [hf, beq_self_eq_true, cond_true, atT_get hat, show e.t.partD 2 6 true = e.r.t from rfl, clI_ok (f28_ok (by omega) hg heo.r)]
          rw [show (some r).getD zRt = r from rfl, p2 e hem hf r hgc]
          rfl
      · have hne : (e.r.f != (n : Int)) = true := by simpa using hf
        rw [hne, cond_true, p1 e hem hf]
        simp only [Option.isSome_some, Option.getD_some, bT_bool, Bool.not_true, cond_false]
        rw [atT_get hat, show e.t.partD 2 6 true = e.r.t from rfl, clB_ok (f26_ok (by omega) heo.r heo.r), cmp_beq, decide_eq_true rfl, Bool.not_true, cond_false]
        simp only [cond_true]
        rw [atT_get hat, show e.t.partD 7 1 false = i64 e.r.f from rfl]
        simp only [iT_int]
        have hbe : (e.r.f == (n : Int)) = false := by simpa using hf
        rw [hbe]
        rfl) (fun _ _ => by
      rw [b6_9, decide_eq_false (by rw [List.length_map]; omega)]
      rfl) trivial
  refine f1.trans ?_
  rw [t6_9_exit0]
  show loopL env (m + 1) 6 15 (sDM (n : Int) l l' 0) = _
  obtain ⟨f2, _⟩ := fold_gen (N := m + 1) (F := 6) (r := 15) (id := 2) (S := fun (_ : Unit) j => sDM (n : Int) l l' (j : Int)) (X := fun _ => ⟨slots 126 [(7, .t (.bool true)), (9, .t (.sl 8 (l.map Ch.t))), (10, .t (.sl 8 (l'.map Ch.t)))], []⟩)
    (fun _ _ => True) (fun _ _ => ()) l' () (by omega) (fun _ j e he _ => by
      have hj : j < l'.length := (List.getElem?_eq_some_iff.1 he).1
      refine ⟨?_, trivial⟩
      rw [b6_15, decide_eq_true (by rw [List.length_map]; omega)]
      simp only [cond_true]
      rw [atT_get (map_get he), show e.t.partD 7 1 false = i64 e.r.f from rfl, wrap_succ (show j ≤ big by omega)]
      simp only [iT_int]
      have hbe : (e.r.f == (n : Int)) = false := by simpa using p3 e (List.mem_of_getElem? he)
      rw [hbe]
      rfl) (fun _ _ => by
      rw [b6_15, decide_eq_false (by rw [List.length_map]; omega)]
      rfl) trivial
  refine f2.trans ?_
  rw [t6_15_exit2, List.length_map, List.length_map, decide_eq_true (by omega)]
end Go.Sim

/- What calls come to: printed by wip/tools/eq2.py: rows. -/
namespace Go.Sim
open Go.RowKit Go.Proofs
set_option linter.unusedVariables false
set_option maxRecDepth 100000
variable [Lv]

set_option linter.unusedVariables false
theorem x4_8_0_2 (N : Nat) (c : Cf) (t : List (List En)) (l : List Ch) (i : Int) : seqX env N 4 [8] 0 2 (sDR c t l i) = bif decide (i < (↑(List.map Ch.t l).length : Int)) then Res.ok (Ex.norm, { tmps := slots 125 [(1, PV.t (T.sl 1 (List.map (fun l => T.sl 6 (List.map En.t l)) t))), (2, PV.ptr 0 0), (5, PV.t (T.bool true)), (6, PV.t (T.sl 8 (List.map Ch.t l))), (7, PV.t (i64 i)), (30, PV.t (i64 i)), (31, PV.t (T.sl 8 (List.map Ch.t l))), (32, PV.t (i64 (↑(List.map Ch.t l).length : Int))), (33, PV.t (T.bool (decide (i < (↑(List.map Ch.t l).length : Int)))))], heap := [AObj.box 25 6 (PV.t c.t)] }) else Res.ok (Ex.exit 0, { tmps := slots 125 [(1, PV.t (T.sl 1 (List.map (fun l => T.sl 6 (List.map En.t l)) t))), (2, PV.ptr 0 0), (5, PV.t (T.bool true)), (6, PV.t (T.sl 8 (List.map Ch.t l))), (7, PV.t (i64 i)), (30, PV.t (i64 i)), (31, PV.t (T.sl 8 (List.map Ch.t l))), (32, PV.t (i64 (↑(List.map Ch.t l).length : Int))), (33, PV.t (T.bool (decide (i < (↑(List.map Ch.t l).length : Int)))))], heap := [AObj.box 25 6 (PV.t c.t)] }) := by kernel_rfl
def sDR1 (c : Cf) (t : List (List En)) (l : List Ch) (i : Int) : St := ⟨slots 125 [(1, .t (.sl 1 (tabT t))), (2, .ptr 0 0), (5, .t (.bool true)), (6, .t (.sl 8 (l.map Ch.t))), (7, .t (i64 i)), (30, .t (i64 i)), (31, .t (.sl 8 (l.map Ch.t))), (32, .t (i64 (l.map Ch.t).length)), (33, .t (.bool true))], [.box 25 6 (.t c.t)]⟩
theorem x4_8_2_0_1 (N : Nat) (c : Cf) (t : List (List En)) (l : List Ch) (i : Int) : seqX env N 4 [8, 2] 0 1 (sDR1 c t l i) = atT (List.map Ch.t l) i fun e => chk ((e.partD 2 6 true).cells.length == 6 && !(e.partD 2 6 true).isTup) (Res.ok (Ex.norm, { tmps := slots 125 [(1, PV.t (T.sl 1 (List.map (fun l => T.sl 6 (List.map En.t l)) t))), (2, PV.ptr 0 0), (5, PV.t (T.bool true)), (6, PV.t (T.sl 8 (List.map Ch.t l))), (7, PV.t (i64 i)), (8, PV.ptr 1 0), (30, PV.t (i64 i)), (31, PV.t (T.sl 8 (List.map Ch.t l))), (32, PV.t (i64 (↑(List.map Ch.t l).length : Int))), (33, PV.t (T.bool true)), (36, PV.t (T.sl 8 (List.map Ch.t l))), (37, PV.t (i64 i)), (38, PV.rp 8 e 0), (39, PV.rp 8 e 2), (40, PV.t (e.partD 2 6 true))], heap := [AObj.box 25 6 (PV.t c.t), AObj.box 37 6 (PV.t (e.partD 2 6 true))] })) := by kernel_rfl
def sDR2 (c : Cf) (t : List (List En)) (l : List Ch) (i : Int) (e : Ch) : St := ⟨slots 125 [(1, .t (.sl 1 (tabT t))), (2, .ptr 0 0), (5, .t (.bool true)), (6, .t (.sl 8 (l.map Ch.t))), (7, .t (i64 i)), (8, .ptr 1 0), (30, .t (i64 i)), (31, .t (.sl 8 (l.map Ch.t))), (32, .t (i64 (l.map Ch.t).length)), (33, .t (.bool true)), (36, .t (.sl 8 (l.map Ch.t))), (37, .t (i64 i)), (38, .rp 8 e.t 0), (39, .rp 8 e.t 2), (40, .t e.r.t)], [.box 25 6 (.t c.t), .box 37 6 (.t e.r.t)]⟩
theorem x4_8_2_1_1 (N : Nat) (c : Cf) (t : List (List En)) (l : List Ch) (i : Int) (e : Ch) : seqX env N 4 [8, 2] 1 1 (sDR2 c t l i e) = atT (List.map Ch.t l) i fun e_1 => cl N 22 [e_1.partD 0 2 true] fun x => bT x fun b => bif !b then Res.ok (Ex.norm, { tmps := slots 125 [(1, PV.t (T.sl 1 (List.map (fun l => T.sl 6 (List.map En.t l)) t))), (2, PV.ptr 0 0), (5, PV.t (T.bool true)), (6, PV.t (T.sl 8 (List.map Ch.t l))), (7, PV.t (i64 i)), (8, PV.ptr 1 0), (30, PV.t (i64 i)), (31, PV.t (T.sl 8 (List.map Ch.t l))), (32, PV.t (i64 (↑(List.map Ch.t l).length : Int))), (33, PV.t (T.bool true)), (36, PV.t (T.sl 8 (List.map Ch.t l))), (37, PV.t (i64 i)), (38, PV.rp 8 e.t 0), (39, PV.rp 8 e.t 2), (40, PV.t e.r.t), (41, PV.t (T.sl 8 (List.map Ch.t l))), (42, PV.t (i64 i)), (43, PV.rp 8 e_1 0), (44, PV.rp 8 e_1 0), (45, PV.t (e_1.partD 0 2 true)), (46, PV.t x), (47, PV.t (T.bool !b)), (48, PV.t (T.bool true)), (49, PV.tup []), (50, PV.tup []), (51, PV.tup []), (52, PV.tup []), (53, PV.tup []), (54, PV.tup []), (55, PV.tup []), (56, PV.tup []), (57, PV.tup []), (58, PV.tup []), (59, PV.tup []), (60, PV.tup []), (61, PV.tup []), (62, PV.tup []), (63, PV.tup []), (64, PV.tup []), (65, PV.tup []), (66, PV.t (T.bool true)), (67, PV.t (T.bool true)), (68, PV.tup []), (69, PV.tup []), (70, PV.tup []), (71, PV.tup []), (72, PV.tup []), (73, PV.t (T.bool true)), (74, PV.t (T.bool true)), (75, PV.tup []), (76, PV.tup []), (77, PV.tup []), (78, PV.tup []), (79, PV.tup []), (80, PV.tup []), (81, PV.t (T.bool true))], heap := [AObj.box 25 6 (PV.t c.t), AObj.box 37 6 (PV.t e.r.t)] }) else bif decide (i > 0) then atT (List.map Ch.t l) (IntKind.i64.wrap (i - 1)) fun e_2 => atT (List.map Ch.t l) i fun e_3 => cl N 23 [e_2.partD 0 2 true, e_3.partD 0 2 true] fun x_1 => iT IntKind.i64 x_1 fun a => bif decide (a ≥ 0) then Res.ok (Ex.norm, { tmps := slots 125 [(1, PV.t (T.sl 1 (List.map (fun l => T.sl 6 (List.map En.t l)) t))), (2, PV.ptr 0 0), (5, PV.t (T.bool true)), (6, PV.t (T.sl 8 (List.map Ch.t l))), (7, PV.t (i64 i)), (8, PV.ptr 1 0), (30, PV.t (i64 i)), (31, PV.t (T.sl 8 (List.map Ch.t l))), (32, PV.t (i64 (↑(List.map Ch.t l).length : Int))), (33, PV.t (T.bool true)), (36, PV.t (T.sl 8 (List.map Ch.t l))), (37, PV.t (i64 i)), (38, PV.rp 8 e.t 0), (39, PV.rp 8 e.t 2), (40, PV.t e.r.t), (41, PV.t (T.sl 8 (List.map Ch.t l))), (42, PV.t (i64 i)), (43, PV.rp 8 e_1 0), (44, PV.rp 8 e_1 0), (45, PV.t (e_1.partD 0 2 true)), (46, PV.t x), (47, PV.t (T.bool !b)), (48, PV.t (T.bool false)), (49, PV.t (i64 i)), (50, PV.t (T.bool (decide (i > 0)))), (51, PV.t (T.bool true)), (52, PV.t (T.sl 8 (List.map Ch.t l))), (53, PV.t (i64 i)), (54, PV.t (i64 (IntKind.i64.wrap (i - 1)))), (55, PV.rp 8 e_2 0), (56, PV.rp 8 e_2 0), (57, PV.t (e_2.partD 0 2 true)), (58, PV.t (T.sl 8 (List.map Ch.t l))), (59, PV.t (i64 i)), (60, PV.rp 8 e_3 0), (61, PV.rp 8 e_3 0), (62, PV.t (e_3.partD 0 2 true)), (63, PV.t x_1), (64, PV.t (T.bool (decide (a ≥ 0)))), (65, PV.t (T.bool (decide (a ≥ 0)))), (66, PV.t (T.bool (decide (a ≥ 0)))), (67, PV.t (T.bool true)), (68, PV.tup []), (69, PV.tup []), (70, PV.tup []), (71, PV.tup []), (72, PV.tup []), (73, PV.t (T.bool true)), (74, PV.t (T.bool true)), (75, PV.tup []), (76, PV.tup []), (77, PV.tup []), (78, PV.tup []), (79, PV.tup []), (80, PV.tup []), (81, PV.t (T.bool true))], heap := [AObj.box 25 6 (PV.t c.t), AObj.box 37 6 (PV.t e.r.t)] }) else bif decide (e.r.f ≥ (↑(List.map (fun l => T.sl 6 (List.map En.t l)) t).length : Int)) then Res.ok (Ex.norm, { tmps := slots 125 [(1, PV.t (T.sl 1 (List.map (fun l => T.sl 6 (List.map En.t l)) t))), (2, PV.ptr 0 0), (5, PV.t (T.bool true)), (6, PV.t (T.sl 8 (List.map Ch.t l))), (7, PV.t (i64 i)), (8, PV.ptr 1 0), (30, PV.t (i64 i)), (31, PV.t (T.sl 8 (List.map Ch.t l))), (32, PV.t (i64 (↑(List.map Ch.t l).length : Int))), (33, PV.t (T.bool true)), (36, PV.t (T.sl 8 (List.map Ch.t l))), (37, PV.t (i64 i)), (38, PV.rp 8 e.t 0), (39, PV.rp 8 e.t 2), (40, PV.t e.r.t), (41, PV.t (T.sl 8 (List.map Ch.t l))), (42, PV.t (i64 i)), (43, PV.rp 8 e_1 0), (44, PV.rp 8 e_1 0), (45, PV.t (e_1.partD 0 2 true)), (46, PV.t x), (47, PV.t (T.bool !b)), (48, PV.t (T.bool false)), (49, PV.t (i64 i)), (50, PV.t (T.bool (decide (i > 0)))), (51, PV.t (T.bool true)), (52, PV.t (T.sl 8 (List.map Ch.t l))), (53, PV.t (i64 i)), (54, PV.t (i64 (IntKind.i64.wrap (i - 1)))), (55, PV.rp 8 e_2 0), (56, PV.rp 8 e_2 0), (57, PV.t (e_2.partD 0 2 true)), (58, PV.t (T.sl 8 (List.map Ch.t l))), (59, PV.t (i64 i)), (60, PV.rp 8 e_3 0), (61, PV.rp 8 e_3 0), (62, PV.t (e_3.partD 0 2 true)), (63, PV.t x_1), (64, PV.t (T.bool (decide (a ≥ 0)))), (65, PV.t (T.bool (decide (a ≥ 0)))), (66, PV.t (T.bool (decide (a ≥ 0)))), (67, PV.t (T.bool false)), (68, PV.ptr 1 5), (69, PV.t (i64 e.r.f)), (70, PV.t (T.sl 1 (List.map (fun l => T.sl 6 (List.map En.t l)) t))), (71, PV.t (i64 (↑(List.map (fun l => T.sl 6 (List.map En.t l)) t).length : Int))), (72, PV.t (T.bool (decide (e.r.f ≥ (↑(List.map (fun l => T.sl 6 (List.map En.t l)) t).length : Int))))), (73, PV.t (T.bool (decide (e.r.f ≥ (↑(List.map (fun l => T.sl 6 (List.map En.t l)) t).length : Int))))), (74, PV.t (T.bool true)), (75, PV.tup []), (76, PV.tup []), (77, PV.tup []), (78, PV.tup []), (79, PV.tup []), (80, PV.tup []), (81, PV.t (T.bool true))], heap := [AObj.box 25 6 (PV.t c.t), AObj.box 37 6 (PV.t e.r.t)] }) else Res.ok (Ex.norm, { tmps := slots 125 [(1, PV.t (T.sl 1 (List.map (fun l => T.sl 6 (List.map En.t l)) t))), (2, PV.ptr 0 0), (5, PV.t (T.bool true)), (6, PV.t (T.sl 8 (List.map Ch.t l))), (7, PV.t (i64 i)), (8, PV.ptr 1 0), (30, PV.t (i64 i)), (31, PV.t (T.sl 8 (List.map Ch.t l))), (32, PV.t (i64 (↑(List.map Ch.t l).length : Int))), (33, PV.t (T.bool true)), (36, PV.t (T.sl 8 (List.map Ch.t l))), (37, PV.t (i64 i)), (38, PV.rp 8 e.t 0), (39, PV.rp 8 e.t 2), (40, PV.t e.r.t), (41, PV.t (T.sl 8 (List.map Ch.t l))), (42, PV.t (i64 i)), (43, PV.rp 8 e_1 0), (44, PV.rp 8 e_1 0), (45, PV.t (e_1.partD 0 2 true)), (46, PV.t x), (47, PV.t (T.bool !b)), (48, PV.t (T.bool false)), (49, PV.t (i64 i)), (50, PV.t (T.bool (decide (i > 0)))), (51, PV.t (T.bool true)), (52, PV.t (T.sl 8 (List.map Ch.t l))), (53, PV.t (i64 i)), (54, PV.t (i64 (IntKind.i64.wrap (i - 1)))), (55, PV.rp 8 e_2 0), (56, PV.rp 8 e_2 0), (57, PV.t (e_2.partD 0 2 true)), (58, PV.t (T.sl 8 (List.map Ch.t l))), (59, PV.t (i64 i)), (60, PV.rp 8 e_3 0), (61, PV.rp 8 e_3 0), (62, PV.t (e_3.partD 0 2 true)), (63, PV.t x_1), (64, PV.t (T.bool (decide (a ≥ 0)))), (65, PV.t (T.bool (decide (a ≥ 0)))), (66, PV.t (T.bool (decide (a ≥ 0)))), (67, PV.t (T.bool false)), (68, PV.ptr 1 5), (69, PV.t (i64 e.r.f)), (70, PV.t (T.sl 1 (List.map (fun l => T.sl 6 (List.map En.t l)) t))), (71, PV.t (i64 (↑(List.map (fun l => T.sl 6 (List.map En.t l)) t).length : Int))), (72, PV.t (T.bool (decide (e.r.f ≥ (↑(List.map (fun l => T.sl 6 (List.map En.t l)) t).length : Int))))), (73, PV.t (T.bool (decide (e.r.f ≥ (↑(List.map (fun l => T.sl 6 (List.map En.t l)) t).length : Int))))), (74, PV.t (T.bool false)), (75, PV.ptr 1 5), (76, PV.t (i64 e.r.f)), (77, PV.ptr 0 5), (78, PV.t (T.sl 4 (List.map Sd.t c.s))), (79, PV.t (i64 (↑(List.map Sd.t c.s).length : Int))), (80, PV.t (T.bool (decide (e.r.f ≥ (↑(List.map Sd.t c.s).length : Int))))), (81, PV.t (T.bool (decide (e.r.f ≥ (↑(List.map Sd.t c.s).length : Int)))))], heap := [AObj.box 25 6 (PV.t c.t), AObj.box 37 6 (PV.t e.r.t)] }) else bif decide (e.r.f ≥ (↑(List.map (fun l => T.sl 6 (List.map En.t l)) t).length : Int)) then Res.ok (Ex.norm, { tmps := slots 125 [(1, PV.t (T.sl 1 (List.map (fun l => T.sl 6 (List.map En.t l)) t))), (2, PV.ptr 0 0), (5, PV.t (T.bool true)), (6, PV.t (T.sl 8 (List.map Ch.t l))), (7, PV.t (i64 i)), (8, PV.ptr 1 0), (30, PV.t (i64 i)), (31, PV.t (T.sl 8 (List.map Ch.t l))), (32, PV.t (i64 (↑(List.map Ch.t l).length : Int))), (33, PV.t (T.bool true)), (36, PV.t (T.sl 8 (List.map Ch.t l))), (37, PV.t (i64 i)), (38, PV.rp 8 e.t 0), (39, PV.rp 8 e.t 2), (40, PV.t e.r.t), (41, PV.t (T.sl 8 (List.map Ch.t l))), (42, PV.t (i64 i)), (43, PV.rp 8 e_1 0), (44, PV.rp 8 e_1 0), (45, PV.t (e_1.partD 0 2 true)), (46, PV.t x), (47, PV.t (T.bool !b)), (48, PV.t (T.bool false)), (49, PV.t (i64 i)), (50, PV.t (T.bool (decide (i > 0)))), (51, PV.t (T.bool false)), (52, PV.tup []), (53, PV.tup []), (54, PV.tup []), (55, PV.tup []), (56, PV.tup []), (57, PV.tup []), (58, PV.tup []), (59, PV.tup []), (60, PV.tup []), (61, PV.tup []), (62, PV.tup []), (63, PV.tup []), (64, PV.tup []), (65, PV.t (T.bool false)), (66, PV.t (T.bool false)), (67, PV.t (T.bool false)), (68, PV.ptr 1 5), (69, PV.t (i64 e.r.f)), (70, PV.t (T.sl 1 (List.map (fun l => T.sl 6 (List.map En.t l)) t))), (71, PV.t (i64 (↑(List.map (fun l => T.sl 6 (List.map En.t l)) t).length : Int))), (72, PV.t (T.bool (decide (e.r.f ≥ (↑(List.map (fun l => T.sl 6 (List.map En.t l)) t).length : Int))))), (73, PV.t (T.bool (decide (e.r.f ≥ (↑(List.map (fun l => T.sl 6 (List.map En.t l)) t).length : Int))))), (74, PV.t (T.bool true)), (75, PV.tup []), (76, PV.tup []), (77, PV.tup []), (78, PV.tup []), (79, PV.tup []), (80, PV.tup []), (81, PV.t (T.bool true))], heap := [AObj.box 25 6 (PV.t c.t), AObj.box 37 6 (PV.t e.r.t)] }) else Res.ok (Ex.norm, { tmps := slots 125 [(1, PV.t (T.sl 1 (List.map (fun l => T.sl 6 (List.map En.t l)) t))), (2, PV.ptr 0 0), (5, PV.t (T.bool true)), (6, PV.t (T.sl 8 (List.map Ch.t l))), (7, PV.t (i64 i)), (8, PV.ptr 1 0), (30, PV.t (i64 i)), (31, PV.t (T.sl 8 (List.map Ch.t l))), (32, PV.t (i64 (↑(List.map Ch.t l).length : Int))), (33, PV.t (T.bool true)), (36, PV.t (T.sl 8 (List.map Ch.t l))), (37, PV.t (i64 i)), (38, PV.rp 8 e.t 0), (39, PV.rp 8 e.t 2), (40, PV.t e.r.t), (41, PV.t (T.sl 8 (List.map Ch.t l))), (42, PV.t (i64 i)), (43, PV.rp 8 e_1 0), (44, PV.rp 8 e_1 0), (45, PV.t (e_1.partD 0 2 true)), (46, PV.t x), (47, PV.t (T.bool !b)), (48, PV.t (T.bool false)), (49, PV.t (i64 i)), (50, PV.t (T.bool (decide (i > 0)))), (51, PV.t (T.bool false)), (52, PV.tup []), (53, PV.tup []), (54, PV.tup []), (55, PV.tup []), (56, PV.tup []), (57, PV.tup []), (58, PV.tup []), (59, PV.tup []), (60, PV.tup []), (61, PV.tup []), (62, PV.tup []), (63, PV.tup []), (64, PV.tup []), (65, PV.t (T.bool false)), (66, PV.t (T.bool false)), (67, PV.t (T.bool false)), (68, PV.ptr 1 5), (69, PV.t (i64 e.r.f)), (70, PV.t (T.sl 1 (List.map (fun l => T.sl 6 (List.map En.t l)) t))), (71, PV.t (i64 (↑(List.map (fun l => T.sl 6 (List.map En.t l)) t).length : Int))), (72, PV.t (T.bool (decide (e.r.f ≥ (↑(List.map (fun l => T.sl 6 (List.map En.t l)) t).length : Int))))), (73, PV.t (T.bool (decide (e.r.f ≥ (↑(List.map (fun l => T.sl 6 (List.map En.t l)) t).length : Int))))), (74, PV.t (T.bool false)), (75, PV.ptr 1 5), (76, PV.t (i64 e.r.f)), (77, PV.ptr 0 5), (78, PV.t (T.sl 4 (List.map Sd.t c.s))), (79, PV.t (i64 (↑(List.map Sd.t c.s).length : Int))), (80, PV.t (T.bool (decide (e.r.f ≥ (↑(List.map Sd.t c.s).length : Int))))), (81, PV.t (T.bool (decide (e.r.f ≥ (↑(List.map Sd.t c.s).length : Int)))))], heap := [AObj.box 25 6 (PV.t c.t), AObj.box 37 6 (PV.t e.r.t)] }) := by kernel_rfl
def sDR3 (c : Cf) (t : List (List En)) (l : List Ch) (i : Int) (e : Ch) (d : Nat → PV) : St := ⟨slots 125 [(1, .t (.sl 1 (tabT t))), (2, .ptr 0 0), (5, .t (.bool true)), (6, .t (.sl 8 (l.map Ch.t))), (7, .t (i64 i)), (8, .ptr 1 0), (30, d 30), (31, d 31), (32, d 32), (33, d 33), (36, d 36), (37, d 37), (38, d 38), (39, d 39), (40, d 40), (41, d 41), (42, d 42), (43, d 43), (44, d 44), (45, d 45), (46, d 46), (47, d 47), (48, d 48), (49, d 49), (50, d 50), (51, d 51), (52, d 52), (53, d 53), (54, d 54), (55, d 55), (56, d 56), (57, d 57), (58, d 58), (59, d 59), (60, d 60), (61, d 61), (62, d 62), (63, d 63), (64, d 64), (65, d 65), (66, d 66), (67, d 67), (68, d 68), (69, d 69), (70, d 70), (71, d 71), (72, d 72), (73, d 73), (74, d 74), (75, d 75), (76, d 76), (77, d 77), (78, d 78), (79, d 79), (80, d 80), (81, .t (.bool false))], [.box 25 6 (.t c.t), .box 37 6 (.t e.r.t)]⟩
theorem x4_8_2_2_2 (N : Nat) (c : Cf) (t : List (List En)) (l : List Ch) (i : Int) (e : Ch) (d : Nat → PV) : seqX env N 4 [8, 2] 2 2 (sDR3 c t l i e d) = Res.ok (Ex.norm, { tmps := slots 125 [(1, PV.t (T.sl 1 (List.map (fun l => T.sl 6 (List.map En.t l)) t))), (2, PV.ptr 0 0), (5, PV.t (T.bool true)), (6, PV.t (T.sl 8 (List.map Ch.t l))), (7, PV.t (i64 i)), (8, PV.ptr 1 0), (30, d 30), (31, d 31), (32, d 32), (33, d 33), (36, d 36), (37, d 37), (38, d 38), (39, d 39), (40, d 40), (41, d 41), (42, d 42), (43, d 43), (44, d 44), (45, d 45), (46, d 46), (47, d 47), (48, d 48), (49, d 49), (50, d 50), (51, d 51), (52, d 52), (53, d 53), (54, d 54), (55, d 55), (56, d 56), (57, d 57), (58, d 58), (59, d 59), (60, d 60), (61, d 61), (62, d 62), (63, d 63), (64, d 64), (65, d 65), (66, d 66), (67, d 67), (68, d 68), (69, d 69), (70, d 70), (71, d 71), (72, d 72), (73, d 73), (74, d 74), (75, d 75), (76, d 76), (77, d 77), (78, d 78), (79, d 79), (80, d 80), (81, PV.t (T.bool false)), (82, PV.ptr 1 5), (83, PV.t (i64 e.r.f)), (84, PV.t (T.bool (decide (e.r.f ≥ 0))))], heap := [AObj.box 25 6 (PV.t c.t), AObj.box 37 6 (PV.t e.r.t)] }) := by kernel_rfl
def sDR5 (c : Cf) (t : List (List En)) (l : List Ch) (i : Int) (e : Ch) (d : Nat → PV) : St := ⟨slots 125 [(1, .t (.sl 1 (tabT t))), (2, .ptr 0 0), (5, .t (.bool true)), (6, .t (.sl 8 (l.map Ch.t))), (7, .t (i64 i)), (8, .ptr 1 0), (30, d 30), (31, d 31), (32, d 32), (33, d 33), (36, d 36), (37, d 37), (38, d 38), (39, d 39), (40, d 40), (41, d 41), (42, d 42), (43, d 43), (44, d 44), (45, d 45), (46, d 46), (47, d 47), (48, d 48), (49, d 49), (50, d 50), (51, d 51), (52, d 52), (53, d 53), (54, d 54), (55, d 55), (56, d 56), (57, d 57), (58, d 58), (59, d 59), (60, d 60), (61, d 61), (62, d 62), (63, d 63), (64, d 64), (65, d 65), (66, d 66), (67, d 67), (68, d 68), (69, d 69), (70, d 70), (71, d 71), (72, d 72), (73, d 73), (74, d 74), (75, d 75), (76, d 76), (77, d 77), (78, d 78), (79, d 79), (80, d 80), (81, d 81), (82, .ptr 1 5), (83, .t (i64 e.r.f)), (84, .t (.bool (decide (e.r.f ≥ 0))))], [.box 25 6 (.t c.t), .box 37 6 (.t e.r.t)]⟩
theorem x4_8_2_4_1 (N : Nat) (c : Cf) (t : List (List En)) (l : List Ch) (i : Int) (e : Ch) (d : Nat → PV) : seqX env N 4 [8, 2] 4 1 (sDR5 c t l i e d) = bif decide (e.r.f ≥ 0) then atT (List.map (fun l => T.sl 6 (List.map En.t l)) t) e.r.f fun e_1 => atT (List.map Ch.t l) i fun e_2 => cl N 24 [e_1, e_2.partD 0 2 true] fun x => compT x 0 fun y => compT x 1 fun y_1 => chk (y.cells.length == 4 && !y.isTup) (atT (List.map Ch.t l) i fun e_3 => cl N 25 [c.t, i64 e.r.f, e_3.partD 0 2 true, y] fun x_1 => compT x_1 0 fun y_2 => compT x_1 1 fun y_3 => chk (y_2.cells.length == 6 && !y_2.isTup) (bT y_1 fun b => bif !b then Res.ok (Ex.ret, { tmps := slots 125 [(1, PV.t (T.sl 1 (List.map (fun l => T.sl 6 (List.map En.t l)) t))), (2, PV.ptr 0 0), (4, PV.t (T.bool false)), (5, PV.t (T.bool true)), (6, PV.t (T.sl 8 (List.map Ch.t l))), (7, PV.t (i64 i)), (8, PV.ptr 1 0), (9, PV.ptr 2 0), (10, PV.t y_1), (11, PV.ptr 3 0), (12, PV.t y_3), (30, d 30), (31, d 31), (32, d 32), (33, d 33), (36, d 36), (37, d 37), (38, d 38), (39, d 39), (40, d 40), (41, d 41), (42, d 42), (43, d 43), (44, d 44), (45, d 45), (46, d 46), (47, d 47), (48, d 48), (49, d 49), (50, d 50), (51, d 51), (52, d 52), (53, d 53), (54, d 54), (55, d 55), (56, d 56), (57, d 57), (58, d 58), (59, d 59), (60, d 60), (61, d 61), (62, d 62), (63, d 63), (64, d 64), (65, d 65), (66, d 66), (67, d 67), (68, d 68), (69, d 69), (70, d 70), (71, d 71), (72, d 72), (73, d 73), (74, d 74), (75, d 75), (76, d 76), (77, d 77), (78, d 78), (79, d 79), (80, d 80), (81, d 81), (82, PV.ptr 1 5), (83, PV.t (i64 e.r.f)), (84, PV.t (T.bool (decide (e.r.f ≥ 0)))), (85, PV.t x), (86, PV.t (T.sl 1 (List.map (fun l => T.sl 6 (List.map En.t l)) t))), (87, PV.ptr 1 5), (88, PV.t (i64 e.r.f)), (89, PV.rp 1 e_1 0), (90, PV.t e_1), (91, PV.t (T.sl 8 (List.map Ch.t l))), (92, PV.t (i64 i)), (93, PV.rp 8 e_2 0), (94, PV.rp 8 e_2 0), (95, PV.t (e_2.partD 0 2 true)), (96, PV.t x), (97, PV.t y), (98, PV.t y_1), (99, PV.t x_1), (100, PV.t c.t), (101, PV.ptr 1 5), (102, PV.t (i64 e.r.f)), (103, PV.t (T.sl 8 (List.map Ch.t l))), (104, PV.t (i64 i)), (105, PV.rp 8 e_3 0), (106, PV.rp 8 e_3 0), (107, PV.t (e_3.partD 0 2 true)), (108, PV.t y), (109, PV.t x_1), (110, PV.t y_2), (111, PV.t y_3), (112, PV.t y_1), (113, PV.t (T.bool !b)), (114, PV.t (T.bool true)), (115, PV.tup []), (116, PV.tup []), (117, PV.t (T.bool true)), (118, PV.t (T.bool true)), (119, PV.tup []), (120, PV.tup []), (121, PV.tup []), (122, PV.tup []), (123, PV.t (T.bool true))], heap := [AObj.box 25 6 (PV.t c.t), AObj.box 37 6 (PV.t e.r.t), AObj.box 35 4 (PV.t y), AObj.box 37 6 (PV.t y_2)] }) else bT y_3 fun b_1 => bif !b_1 then Res.ok (Ex.ret, { tmps := slots 125 [(1, PV.t (T.sl 1 (List.map (fun l => T.sl 6 (List.map En.t l)) t))), (2, PV.ptr 0 0), (4, PV.t (T.bool false)), (5, PV.t (T.bool true)), (6, PV.t (T.sl 8 (List.map Ch.t l))), (7, PV.t (i64 i)), (8, PV.ptr 1 0), (9, PV.ptr 2 0), (10, PV.t y_1), (11, PV.ptr 3 0), (12, PV.t y_3), (30, d 30), (31, d 31), (32, d 32), (33, d 33), (36, d 36), (37, d 37), (38, d 38), (39, d 39), (40, d 40), (41, d 41), (42, d 42), (43, d 43), (44, d 44), (45, d 45), (46, d 46), (47, d 47), (48, d 48), (49, d 49), (50, d 50), (51, d 51), (52, d 52), (53, d 53), (54, d 54), (55, d 55), (56, d 56), (57, d 57), (58, d 58), (59, d 59), (60, d 60), (61, d 61), (62, d 62), (63, d 63), (64, d 64), (65, d 65), (66, d 66), (67, d 67), (68, d 68), (69, d 69), (70, d 70), (71, d 71), (72, d 72), (73, d 73), (74, d 74), (75, d 75), (76, d 76), (77, d 77), (78, d 78), (79, d 79), (80, d 80), (81, d 81), (82, PV.ptr 1 5), (83, PV.t (i64 e.r.f)), (84, PV.t (T.bool (decide (e.r.f ≥ 0)))), (85, PV.t x), (86, PV.t (T.sl 1 (List.map (fun l => T.sl 6 (List.map En.t l)) t))), (87, PV.ptr 1 5), (88, PV.t (i64 e.r.f)), (89, PV.rp 1 e_1 0), (90, PV.t e_1), (91, PV.t (T.sl 8 (List.map Ch.t l))), (92, PV.t (i64 i)), (93, PV.rp 8 e_2 0), (94, PV.rp 8 e_2 0), (95, PV.t (e_2.partD 0 2 true)), (96, PV.t x), (97, PV.t y), (98, PV.t y_1), (99, PV.t x_1), (100, PV.t c.t), (101, PV.ptr 1 5), (102, PV.t (i64 e.r.f)), (103, PV.t (T.sl 8 (List.map Ch.t l))), (104, PV.t (i64 i)), (105, PV.rp 8 e_3 0), (106, PV.rp 8 e_3 0), (107, PV.t (e_3.partD 0 2 true)), (108, PV.t y), (109, PV.t x_1), (110, PV.t y_2), (111, PV.t y_3), (112, PV.t y_1), (113, PV.t (T.bool !b)), (114, PV.t (T.bool false)), (115, PV.t y_3), (116, PV.t (T.bool !b_1)), (117, PV.t (T.bool !b_1)), (118, PV.t (T.bool true)), (119, PV.tup []), (120, PV.tup []), (121, PV.tup []), (122, PV.tup []), (123, PV.t (T.bool true))], heap := [AObj.box 25 6 (PV.t c.t), AObj.box 37 6 (PV.t e.r.t), AObj.box 35 4 (PV.t y), AObj.box 37 6 (PV.t y_2)] }) else cl N 26 [y_2, e.r.t] fun x_2 => bT x_2 fun b_2 => bif !b_2 then Res.ok (Ex.ret, { tmps := slots 125 [(1, PV.t (T.sl 1 (List.map (fun l => T.sl 6 (List.map En.t l)) t))), (2, PV.ptr 0 0), (4, PV.t (T.bool false)), (5, PV.t (T.bool true)), (6, PV.t (T.sl 8 (List.map Ch.t l))), (7, PV.t (i64 i)), (8, PV.ptr 1 0), (9, PV.ptr 2 0), (10, PV.t y_1), (11, PV.ptr 3 0), (12, PV.t y_3), (30, d 30), (31, d 31), (32, d 32), (33, d 33), (36, d 36), (37, d 37), (38, d 38), (39, d 39), (40, d 40), (41, d 41), (42, d 42), (43, d 43), (44, d 44), (45, d 45), (46, d 46), (47, d 47), (48, d 48), (49, d 49), (50, d 50), (51, d 51), (52, d 52), (53, d 53), (54, d 54), (55, d 55), (56, d 56), (57, d 57), (58, d 58), (59, d 59), (60, d 60), (61, d 61), (62, d 62), (63, d 63), (64, d 64), (65, d 65), (66, d 66), (67, d 67), (68, d 68), (69, d 69), (70, d 70), (71, d 71), (72, d 72), (73, d 73), (74, d 74), (75, d 75), (76, d 76), (77, d 77), (78, d 78), (79, d 79), (80, d 80), (81, d 81), (82, PV.ptr 1 5), (83, PV.t (i64 e.r.f)), (84, PV.t (T.bool (decide (e.r.f ≥ 0)))), (85, PV.t x), (86, PV.t (T.sl 1 (List.map (fun l => T.sl 6 (List.map En.t l)) t))), (87, PV.ptr 1 5), (88, PV.t (i64 e.r.f)), (89, PV.rp 1 e_1 0), (90, PV.t e_1), (91, PV.t (T.sl 8 (List.map Ch.t l))), (92, PV.t (i64 i)), (93, PV.rp 8 e_2 0), (94, PV.rp 8 e_2 0), (95, PV.t (e_2.partD 0 2 true)), (96, PV.t x), (97, PV.t y), (98, PV.t y_1), (99, PV.t x_1), (100, PV.t c.t), (101, PV.ptr 1 5), (102, PV.t (i64 e.r.f)), (103, PV.t (T.sl 8 (List.map Ch.t l))), (104, PV.t (i64 i)), (105, PV.rp 8 e_3 0), (106, PV.rp 8 e_3 0), (107, PV.t (e_3.partD 0 2 true)), (108, PV.t y), (109, PV.t x_1), (110, PV.t y_2), (111, PV.t y_3), (112, PV.t y_1), (113, PV.t (T.bool !b)), (114, PV.t (T.bool false)), (115, PV.t y_3), (116, PV.t (T.bool !b_1)), (117, PV.t (T.bool !b_1)), (118, PV.t (T.bool false)), (119, PV.t y_2), (120, PV.t e.r.t), (121, PV.t x_2), (122, PV.t (T.bool !b_2)), (123, PV.t (T.bool !b_2))], heap := [AObj.box 25 6 (PV.t c.t), AObj.box 37 6 (PV.t e.r.t), AObj.box 35 4 (PV.t y), AObj.box 37 6 (PV.t y_2)] }) else Res.ok (Ex.norm, { tmps := slots 125 [(1, PV.t (T.sl 1 (List.map (fun l => T.sl 6 (List.map En.t l)) t))), (2, PV.ptr 0 0), (5, PV.t (T.bool true)), (6, PV.t (T.sl 8 (List.map Ch.t l))), (7, PV.t (i64 i)), (8, PV.ptr 1 0), (9, PV.ptr 2 0), (10, PV.t y_1), (11, PV.ptr 3 0), (12, PV.t y_3), (30, d 30), (31, d 31), (32, d 32), (33, d 33), (36, d 36), (37, d 37), (38, d 38), (39, d 39), (40, d 40), (41, d 41), (42, d 42), (43, d 43), (44, d 44), (45, d 45), (46, d 46), (47, d 47), (48, d 48), (49, d 49), (50, d 50), (51, d 51), (52, d 52), (53, d 53), (54, d 54), (55, d 55), (56, d 56), (57, d 57), (58, d 58), (59, d 59), (60, d 60), (61, d 61), (62, d 62), (63, d 63), (64, d 64), (65, d 65), (66, d 66), (67, d 67), (68, d 68), (69, d 69), (70, d 70), (71, d 71), (72, d 72), (73, d 73), (74, d 74), (75, d 75), (76, d 76), (77, d 77), (78, d 78), (79, d 79), (80, d 80), (81, d 81), (82, PV.ptr 1 5), (83, PV.t (i64 e.r.f)), (84, PV.t (T.bool (decide (e.r.f ≥ 0)))), (85, PV.t x), (86, PV.t (T.sl 1 (List.map (fun l => T.sl 6 (List.map En.t l)) t))), (87, PV.ptr 1 5), (88, PV.t (i64 e.r.f)), (89, PV.rp 1 e_1 0), (90, PV.t e_1), (91, PV.t (T.sl 8 (List.map Ch.t l))), (92, PV.t (i64 i)), (93, PV.rp 8 e_2 0), (94, PV.rp 8 e_2 0), (95, PV.t (e_2.partD 0 2 true)), (96, PV.t x), (97, PV.t y), (98, PV.t y_1), (99, PV.t x_1), (100, PV.t c.t), (101, PV.ptr 1 5), (102, PV.t (i64 e.r.f)), (103, PV.t (T.sl 8 (List.map Ch.t l))), (104, PV.t (i64 i)), (105, PV.rp 8 e_3 0), (106, PV.rp 8 e_3 0), (107, PV.t (e_3.partD 0 2 true)), (108, PV.t y), (109, PV.t x_1), (110, PV.t y_2), (111, PV.t y_3), (112, PV.t y_1), (113, PV.t (T.bool !b)), (114, PV.t (T.bool false)), (115, PV.t y_3), (116, PV.t (T.bool !b_1)), (117, PV.t (T.bool !b_1)), (118, PV.t (T.bool false)), (119, PV.t y_2), (120, PV.t e.r.t), (121, PV.t x_2), (122, PV.t (T.bool !b_2)), (123, PV.t (T.bool !b_2))], heap := [AObj.box 25 6 (PV.t c.t), AObj.box 37 6 (PV.t e.r.t), AObj.box 35 4 (PV.t y), AObj.box 37 6 (PV.t y_2)] }))) else Res.ok (Ex.norm, { tmps := slots 125 [(1, PV.t (T.sl 1 (List.map (fun l => T.sl 6 (List.map En.t l)) t))), (2, PV.ptr 0 0), (5, PV.t (T.bool true)), (6, PV.t (T.sl 8 (List.map Ch.t l))), (7, PV.t (i64 i)), (8, PV.ptr 1 0), (30, d 30), (31, d 31), (32, d 32), (33, d 33), (36, d 36), (37, d 37), (38, d 38), (39, d 39), (40, d 40), (41, d 41), (42, d 42), (43, d 43), (44, d 44), (45, d 45), (46, d 46), (47, d 47), (48, d 48), (49, d 49), (50, d 50), (51, d 51), (52, d 52), (53, d 53), (54, d 54), (55, d 55), (56, d 56), (57, d 57), (58, d 58), (59, d 59), (60, d 60), (61, d 61), (62, d 62), (63, d 63), (64, d 64), (65, d 65), (66, d 66), (67, d 67), (68, d 68), (69, d 69), (70, d 70), (71, d 71), (72, d 72), (73, d 73), (74, d 74), (75, d 75), (76, d 76), (77, d 77), (78, d 78), (79, d 79), (80, d 80), (81, d 81), (82, PV.ptr 1 5), (83, PV.t (i64 e.r.f)), (84, PV.t (T.bool (decide (e.r.f ≥ 0))))], heap := [AObj.box 25 6 (PV.t c.t), AObj.box 37 6 (PV.t e.r.t)] }) := by kernel_rfl
def sDR4a (c : Cf) (t : List (List En)) (l : List Ch) (i : Int) (x y z : T) (d : Nat → PV) : St := ⟨slots 125 [(1, .t (.sl 1 (tabT t))), (2, .ptr 0 0), (5, .t (.bool true)), (6, .t (.sl 8 (l.map Ch.t))), (7, .t (i64 i)), (8, d 8), (9, d 9), (10, d 10), (11, d 11), (12, d 12), (30, d 30), (31, d 31), (32, d 32), (33, d 33), (36, d 36), (37, d 37), (38, d 38), (39, d 39), (40, d 40), (41, d 41), (42, d 42), (43, d 43), (44, d 44), (45, d 45), (46, d 46), (47, d 47), (48, d 48), (49, d 49), (50, d 50), (51, d 51), (52, d 52), (53, d 53), (54, d 54), (55, d 55), (56, d 56), (57, d 57), (58, d 58), (59, d 59), (60, d 60), (61, d 61), (62, d 62), (63, d 63), (64, d 64), (65, d 65), (66, d 66), (67, d 67), (68, d 68), (69, d 69), (70, d 70), (71, d 71), (72, d 72), (73, d 73), (74, d 74), (75, d 75), (76, d 76), (77, d 77), (78, d 78), (79, d 79), (80, d 80), (81, d 81), (82, d 82), (83, d 83), (84, d 84), (85, d 85), (86, d 86), (87, d 87), (88, d 88), (89, d 89), (90, d 90), (91, d 91), (92, d 92), (93, d 93), (94, d 94), (95, d 95), (96, d 96), (97, d 97), (98, d 98), (99, d 99), (100, d 100), (101, d 101), (102, d 102), (103, d 103), (104, d 104), (105, d 105), (106, d 106), (107, d 107), (108, d 108), (109, d 109), (110, d 110), (111, d 111), (112, d 112), (113, d 113), (114, d 114), (115, d 115), (116, d 116), (117, d 117), (118, d 118), (119, d 119), (120, d 120), (121, d 121), (122, d 122), (123, d 123)], [.box 25 6 (.t c.t), .box 37 6 (.t x)]⟩
theorem zDR4a (N : Nat) (c : Cf) (t : List (List En)) (l : List Ch) (i : Int) (x y z : T) (d : Nat → PV) : ((seqX env N 4 [8] 3 1 (sDR4a c t l i x y z d)).bind fun q => (.ok (q.1, canon 0 (hintX env 4 [] 8).1 q.2) : Res (Ex × St))) = Res.ok (Ex.norm, sDR c t l (IntKind.i64.wrap (i + 1))) := by kernel_rfl
def sDR4b (c : Cf) (t : List (List En)) (l : List Ch) (i : Int) (x y z : T) (d : Nat → PV) : St := ⟨slots 125 [(1, .t (.sl 1 (tabT t))), (2, .ptr 0 0), (5, .t (.bool true)), (6, .t (.sl 8 (l.map Ch.t))), (7, .t (i64 i)), (8, d 8), (9, d 9), (10, d 10), (11, d 11), (12, d 12), (30, d 30), (31, d 31), (32, d 32), (33, d 33), (36, d 36), (37, d 37), (38, d 38), (39, d 39), (40, d 40), (41, d 41), (42, d 42), (43, d 43), (44, d 44), (45, d 45), (46, d 46), (47, d 47), (48, d 48), (49, d 49), (50, d 50), (51, d 51), (52, d 52), (53, d 53), (54, d 54), (55, d 55), (56, d 56), (57, d 57), (58, d 58), (59, d 59), (60, d 60), (61, d 61), (62, d 62), (63, d 63), (64, d 64), (65, d 65), (66, d 66), (67, d 67), (68, d 68), (69, d 69), (70, d 70), (71, d 71), (72, d 72), (73, d 73), (74, d 74), (75, d 75), (76, d 76), (77, d 77), (78, d 78), (79, d 79), (80, d 80), (81, d 81), (82, d 82), (83, d 83), (84, d 84), (85, d 85), (86, d 86), (87, d 87), (88, d 88), (89, d 89), (90, d 90), (91, d 91), (92, d 92), (93, d 93), (94, d 94), (95, d 95), (96, d 96), (97, d 97), (98, d 98), (99, d 99), (100, d 100), (101, d 101), (102, d 102), (103, d 103), (104, d 104), (105, d 105), (106, d 106), (107, d 107), (108, d 108), (109, d 109), (110, d 110), (111, d 111), (112, d 112), (113, d 113), (114, d 114), (115, d 115), (116, d 116), (117, d 117), (118, d 118), (119, d 119), (120, d 120), (121, d 121), (122, d 122), (123, d 123)], [.box 25 6 (.t c.t), .box 37 6 (.t x), .box 35 4 (.t y), .box 37 6 (.t z)]⟩
theorem zDR4b (N : Nat) (c : Cf) (t : List (List En)) (l : List Ch) (i : Int) (x y z : T) (d : Nat → PV) : ((seqX env N 4 [8] 3 1 (sDR4b c t l i x y z d)).bind fun q => (.ok (q.1, canon 0 (hintX env 4 [] 8).1 q.2) : Res (Ex × St))) = Res.ok (Ex.norm, sDR c t l (IntKind.i64.wrap (i + 1))) := by kernel_rfl
def sDRx (c : Cf) (t : List (List En)) (l : List Ch) (i : Int) : St := ⟨slots 125 [(1, .t (.sl 1 (tabT t))), (2, .ptr 0 0), (5, .t (.bool true)), (6, .t (.sl 8 (l.map Ch.t))), (7, .t (i64 i)), (30, .t (i64 i)), (31, .t (.sl 8 (l.map Ch.t))), (32, .t (i64 (l.map Ch.t).length)), (33, .t (.bool false))], [.box 25 6 (.t c.t)]⟩
theorem zDRe (N : Nat) (c : Cf) (t : List (List En)) (l : List Ch) (i : Int) : ((.ok (.exit 0, canon 0 (hintX env 4 [] 8).2 (sDRx c t l i)) : Res (Ex × St))) = Res.ok (Ex.exit 0, { tmps := slots 125 [(5, PV.t (T.bool true))], heap := [] }) := by kernel_rfl
theorem t4_8_exit0 (N : Nat)  : tailL env N 4 0 8 (outK env 4) (.exit 0) (⟨slots 125 [(5, .t (.bool true))], []⟩) = rB true := by kernel_rfl
end Go.Sim

/- A loop's round, part by part along a path. -/
namespace Go.Sim
open Go.RowKit
set_option linter.unusedVariables false
set_option linter.unusedSimpArgs false
set_option linter.unusedSectionVars false
section
variable {E : Env} {n : Nat} {f : FuncId} {p : List Nat}
theorem seqX_split {i a b : Nat} {st : St} : seqX E n f p i (a + b) st = (seqX E n f p i a st).bind fun q => q.1.k (seqX E n f p (i + a) b q.2) (fun j => .ok (.exit j, q.2)) (.ok (.ret, q.2)) := by
  unfold seqX
  have e1 : ((partsC E f p).drop i).take (a + b) = ((partsC E f p).drop i).take a ++ ((partsC E f p).drop (i + a)).take b := by rw [← List.drop_drop, List.take_add]
  rw [e1, seqK_append]
  rw [nat_seqK (runK_nat E n) (Strict.bind fun q : Ex × St => q.1.k (seqK E (recOf E n) f (funcE E f) n 0 (((partsC E f p).drop (i + a)).take b) q.2 fun e s => .ok (e, s)) (fun j => (.ok (.exit j, q.2) : Res (Ex × St))) (.ok (.ret, q.2)))]
  rfl
theorem seqX_norm {i a b : Nat} {st s : St} (h : seqX E n f p i a st = .ok (.norm, s)) : seqX E n f p i (a + b) st = seqX E n f p (i + a) b s := by rw [seqX_split, h]; rfl
theorem seqX_exit {i a b j : Nat} {st s : St} (h : seqX E n f p i a st = .ok (.exit j, s)) : seqX E n f p i (a + b) st = .ok (.exit j, s) := by rw [seqX_split, h]; rfl
theorem seqX_block {i id : Nat} {c : Code} {st s : St} (hb : (partsC E f p)[i]? = some (.block id c)) (hp : partsC E f (p ++ [i]) = spine c) (h : seqX E n f (p ++ [i]) 0 (partsC E f (p ++ [i])).length st = .ok (.norm, s)) : seqX E n f p i 1 st = .ok (.norm, s) := by
  have e1 : seqX E n f p i 1 st = codeK E (recOf E n) f (funcE E f) n 0 (.block id c) st fun e s => e.k (.ok (.norm, s)) (fun j => .ok (.exit j, s)) (.ok (.ret, s)) := by
    unfold seqX
    rw [drop_one hb]
    rfl
  have e2 : codeK E (recOf E n) f (funcE E f) n 0 c st (fun e s => (.ok (e, s) : Res (Ex × St))) = .ok (.norm, s) := by
    rw [codeK_spine, ← hp]
    unfold seqX at h
    rw [List.drop_zero, List.take_length] at h
    exact h
  rw [e1]
  simp only [codeK]
  have e3 := nat_codeK (E := E) (f := f) (fn := funcE E f) (n := n) (base := 0) (runK_nat E n) c (β := Ex × St) (γ := Ex × St) (g := fun r => r.bind fun q => q.1.k (.ok (.norm, q.2)) (fun j => if j = id then .ok (.norm, q.2) else .ok (.exit j, q.2)) (.ok (.ret, q.2))) (Strict.bind _) st fun e s => .ok (e, s)
  rw [e2] at e3
  refine Eq.trans ?_ e3.symm
  congr 1
theorem bodyX_of {i : Nat} {st s : St} {e : Ex} (hp : partsC E f (p ++ [i]) = spine (innerC ((partsC E f p).getD i .skip))) (h : seqX E n f (p ++ [i]) 0 (partsC E f (p ++ [i])).length st = .ok (e, s)) :
    bodyX E n f p i st = e.k (.ok (.norm, canon 0 (hintX E f p i).1 s)) (fun j => .ok (.exit j, canon 0 (hintX E f p i).2 s)) (.ok (.ret, canon 0 (resTmps (funcE E f)) s)) := by
  have e2 : codeK E (recOf E n) f (funcE E f) n 0 (innerC ((partsC E f p).getD i .skip)) st (fun e s => (.ok (e, s) : Res (Ex × St))) = .ok (e, s) := by
    rw [codeK_spine, ← hp]
    unfold seqX at h
    rw [List.drop_zero, List.take_length] at h
    exact h
  unfold bodyX loopB
  have e3 := nat_codeK (E := E) (f := f) (fn := funcE E f) (n := n) (base := 0) (runK_nat E n) (innerC ((partsC E f p).getD i .skip)) (β := Ex × St) (γ := Ex × St) (g := fun r => r.bind fun q => q.1.k (.ok (.norm, canon 0 (hintX E f p i).1 q.2)) (fun j => .ok (.exit j, canon 0 (hintX E f p i).2 q.2)) (.ok (.ret, canon 0 (resTmps (funcE E f)) q.2))) (Strict.bind _) st fun e s => .ok (e, s)
  rw [e2] at e3
  exact e3.symm
end
end Go.Sim

/- Layer 19: DecideRows. -/
namespace Go.Sim
open Go.RowKit Go.Proofs
set_option linter.unusedVariables false
set_option linter.unusedSimpArgs false
set_option linter.unusedSectionVars false
set_option maxRecDepth 100000
/-- What a choice is, and what leads to it. -/
structure RowOk (c : Cf) (t : List (List En)) (e : Ch) : Prop where
  x : psane e.x = true
  lt : e.r.f < t.length
  ls : e.r.f < c.s.length
  src : e.r.f = -1 ∨ ∃ (k : Nat) (l : List En) (p : Pa), e.r.f = k ∧ t[k]? = some l ∧ getE l e.x = some p ∧ inR c k e.x p = some e.r
theorem row_ok {c : Cf} {t : List (List En)} {e : Ch} (h : e ∈ locR c t) : RowOk c t e := by
  have h1 := (best_spec (mem_loc.1 h)).1
  obtain ⟨h0, h2⟩ := mem_those.1 h1
  rcases h2 with ⟨hw, hr⟩ | ⟨k, l, p, a1, a2, a3, a4⟩
  · have hf : e.r.f = -1 := by rw [hr]; rfl
    exact ⟨(own_nodup h0).2 _ hw, by rw [hf]; omega, by rw [hf]; omega, .inl hf⟩
  · have hf := (takes_law a4).2.2.1
    have := (List.getElem?_eq_some_iff.1 a2).1
    exact ⟨(inR_spec a4).2.1, by rw [hf]; omega, by rw [hf]; omega, .inr ⟨k, l, p, hf, a2, a3, a4⟩⟩
theorem loc_insane {c : Cf} {t : List (List En)} (h : csane c = false) : locR c t = [] := by
  cases hl : locR c t with
  | nil => rfl
  | cons e l =>
    have h1 := (best_spec (mem_loc.1 (show e ∈ locR c t by rw [hl]; exact List.mem_cons_self))).1
    rw [(mem_those.1 h1).1] at h; cases h
def dOf (st : St) : Nat → PV := fun j => st.tmps.getD j undefV
theorem ok_ex {st : St} {mk : (Nat → PV) → St} (h : st = mk (dOf st)) : ∃ d, (Res.ok (Ex.norm, st) : Res (Ex × St)) = .ok (.norm, mk d) := ⟨dOf st, congrArg (fun s => Res.ok (Ex.norm, s)) h⟩
theorem wrap_pred {j : Nat} (h : j + 1 ≤ big) : IntKind.i64.wrap (((j + 1 : Nat) : Int) - 1) = (j : Int) := by
  have := big_val
  rw [IntKind.wrap_i64]; omega
theorem rows_a {m j : Nat} {c : Cf} {t : List (List En)} {l : List Ch} {e : Ch} (hM : big + 80 ≤ m + 1) (hl : okL Ch.ok l) (ht : okT t) (he : l[j]? = some e) (hr : RowOk c t e) (hs : ∀ i a, i + 1 = j → l[i]? = some a → cmpP a.x e.x < 0) :
    ∃ d, seqX env (m + 1) 4 [8, 2] 1 1 (sDR2 c t l (j : Int) e) = .ok (.norm, sDR3 c t l (j : Int) e d) := by
  have hbig := big_val
  have hj : j < l.length := (List.getElem?_eq_some_iff.1 he).1
  have hbl := hl.1
  have heo := hl.2 e (List.mem_of_getElem? he)
  have hat := map_get (f := Ch.t) he
  have c1 : decide (e.r.f ≥ ((t.map fun l => T.sl 6 (l.map En.t)).length : Int)) = false := decide_eq_false (by rw [List.length_map]; have := hr.lt; omega)
  have c2 : decide (e.r.f ≥ ((c.s.map Sd.t).length : Int)) = false := decide_eq_false (by rw [List.length_map]; have := hr.ls; omega)
  rw [x4_8_2_1_1, atT_get hat, show e.t.partD 0 2 true = e.x.t from rfl, cl_ok (f22_ok heo.x (by omega)), hr.x]
  simp only [bT_bool, Bool.not_true, cond_false]
  cases j with
  | zero =>
    rw [show decide (((0 : Nat) : Int) > 0) = false from rfl]
    simp only [cond_false]
    rw [c1]
    simp only [cond_false]
    rw [c2]
    try simp only [cond_false]
    exact ok_ex (mk := fun d => sDR3 c t l ((0 : Nat) : Int) e d) (by kernel_rfl)
  | succ j =>
    obtain ⟨a, ha⟩ : ∃ a, l[j]? = some a := ⟨_, List.getElem?_eq_getElem (by omega)⟩
    have hao := hl.2 a (List.mem_of_getElem? ha)
    have hlt := hs j a rfl ha
    rw [decide_eq_true (show ((j + 1 : Nat) : Int) > 0 by omega)]
    simp only [cond_true]
    rw [wrap_pred (by omega), atT_get (map_get ha), atT_get hat, show a.t.partD 0 2 true = a.x.t from rfl, show e.t.partD 0 2 true = e.x.t from rfl, cl_ok (f23_ok hao.x heo.x (by omega))]
    simp only [iT_int]
    rw [decide_eq_false (show ¬ cmpP a.x e.x ≥ 0 by omega)]
    simp only [cond_false]
    rw [c1]
    simp only [cond_false]
    rw [c2]
    try simp only [cond_false]
    exact ok_ex (mk := fun d => sDR3 c t l ((j + 1 : Nat) : Int) e d) (by kernel_rfl)
theorem rows_b {m j : Nat} {c : Cf} {t : List (List En)} {l : List Ch} {e : Ch} {d : Nat → PV} (hM : big + 80 ≤ m + 1) (h : c.ok) (hl : okL Ch.ok l) (ht : okT t) (he : l[j]? = some e) (hr : RowOk c t e) :
    ∃ st, seqX env (m + 1) 4 [8, 2] 4 1 (sDR5 c t l (j : Int) e d) = .ok (.norm, st) ∧ ((∃ x y z d, st = sDR4a c t l (j : Int) x y z d) ∨ ∃ x y z d, st = sDR4b c t l (j : Int) x y z d) := by
  have hbig := big_val
  have heo := hl.2 e (List.mem_of_getElem? he)
  have hat := map_get (f := Ch.t) he
  rw [x4_8_2_4_1]
  rcases hr.src with hf | ⟨k, tl, p, hf, k1, k2, k3⟩
  · rw [decide_eq_false (show ¬ e.r.f ≥ 0 by omega)]
    simp only [cond_false]
    obtain ⟨d', hd⟩ := ok_ex (mk := fun d' => sDR4a c t l (j : Int) e.r.t e.r.t e.r.t d') (st := ⟨_, _⟩) (by kernel_rfl)
    exact ⟨_, hd, .inl ⟨_, _, _, d', rfl⟩⟩
  · rw [decide_eq_true (show e.r.f ≥ 0 by omega)]
    simp only [cond_true]
    have htl := ht.2 tl (List.mem_of_getElem? k1)
    have hpo : p.ok := by have := get_ok (x := e.x) htl.2; rw [k2] at this; exact this
    have hko : ok64 (k : Int) = true := by rw [← hf]; exact heo.r.f
    have hat2 : (t.map fun l => T.sl 6 (l.map En.t))[k]? = some (T.sl 6 (tl.map En.t)) := tabs_get k1
    have hat3 : ∀ (K : T → Res (Ex × St)), atT (t.map fun l => T.sl 6 (l.map En.t)) e.r.f K = K (T.sl 6 (tl.map En.t)) := fun K => by rw [hf]; exact atT_get hat2
    rw [hat3, atT_get hat, show e.t.partD 0 2 true = e.x.t from rfl, cl_ok (f24_ok (by omega) htl.1 htl.2 heo.x), k2]
    simp only [compT, List.getElem?_cons_zero, List.getElem?_cons_succ, Option.getD_some, Option.isSome_some, pa_chk, chk_true]
    rw [atT_get hat, show e.t.partD 0 2 true = e.x.t from rfl]
    have hin := f25_ok (M := m) (k := e.r.f) (by omega) h (by rw [hf]; exact hko) heo.x hpo
    rw [show inR c e.r.f e.x p = some e.r by rw [hf]; exact k3] at hin
    rw [cl_ok hin, optR_eq]
    simp only [compT, List.getElem?_cons_zero, List.getElem?_cons_succ, Option.getD_some, Option.isSome_some, rt_chk, chk_true, bT_bool, Bool.not_true, cond_false]
    rw [cl_ok (f26_ok (by omega) heo.r heo.r), cmp_beq, decide_eq_true rfl]
    simp only [bT_bool, Bool.not_true, cond_false]
    obtain ⟨d', hd⟩ := ok_ex (mk := fun d' => sDR4b c t l (j : Int) e.r.t p.t e.r.t d') (st := ⟨_, _⟩) (by kernel_rfl)
    exact ⟨_, hd, .inr ⟨_, _, _, d', rfl⟩⟩
end Go.Sim

/- Layer 19: DecideRows, the whole. -/
namespace Go.Sim
open Go.RowKit Go.Proofs
set_option linter.unusedVariables false
set_option linter.unusedSimpArgs false
set_option linter.unusedSectionVars false
set_option maxRecDepth 100000
theorem rows_round {m j : Nat} {c : Cf} {t : List (List En)} {l : List Ch} {e : Ch} (hM : big + 80 ≤ m + 1) (h : c.ok) (hl : okL Ch.ok l) (ht : okT t) (he : l[j]? = some e) (hr : RowOk c t e) (hs : ∀ i a, i + 1 = j → l[i]? = some a → cmpP a.x e.x < 0) :
    bodyX env (m + 1) 4 [] 8 (sDR c t l (j : Int)) = .ok (.norm, sDR c t l ((j + 1 : Nat) : Int)) := by
  have hbig := big_val
  have hj : j < l.length := (List.getElem?_eq_some_iff.1 he).1
  have hbl := hl.1
  have hd : decide ((j : Int) < ((l.map Ch.t).length : Int)) = true := decide_eq_true (by rw [List.length_map]; omega)
  have s1 : seqX env (m + 1) 4 [8] 0 2 (sDR c t l (j : Int)) = .ok (.norm, sDR1 c t l (j : Int)) := by
    rw [x4_8_0_2, hd]; rfl
  have s2 : seqX env (m + 1) 4 [8, 2] 0 1 (sDR1 c t l (j : Int)) = .ok (.norm, sDR2 c t l (j : Int) e) := by
    rw [x4_8_2_0_1, atT_get (map_get he)]; rfl
  obtain ⟨d, s3⟩ := rows_a hM hl ht he hr hs
  obtain ⟨d2, s4⟩ : ∃ d2, seqX env (m + 1) 4 [8, 2] 2 2 (sDR3 c t l (j : Int) e d) = .ok (.norm, sDR5 c t l (j : Int) e d2) := by
    rw [x4_8_2_2_2]
    exact ok_ex (mk := fun d => sDR5 c t l (j : Int) e d) (by kernel_rfl)
  obtain ⟨st, s5, s6⟩ := rows_b (d := d2) hM h hl ht he hr
  have s7 : seqX env (m + 1) 4 [8, 2] 0 5 (sDR1 c t l (j : Int)) = .ok (.norm, st) := by
    rw [show (5 : Nat) = 1 + 4 from rfl, seqX_norm s2, show (0 + 1 : Nat) = 1 from rfl, show (4 : Nat) = 1 + 3 from rfl, seqX_norm s3, show (1 + 1 : Nat) = 2 from rfl, show (3 : Nat) = 2 + 1 from rfl, seqX_norm s4]
    exact s5
  have s8 : seqX env (m + 1) 4 [8] 2 1 (sDR1 c t l (j : Int)) = .ok (.norm, st) :=
    seqX_block (p := [8]) (i := 2) (id := 1) (c := innerC ((partsC env 4 [8]).getD 2 .skip)) (by kernel_rfl) (by kernel_rfl) (by
      rw [show (partsC env 4 ([8] ++ [2])).length = 5 by kernel_rfl]
      exact s7)
  obtain ⟨q, y1, y2⟩ : ∃ q, seqX env (m + 1) 4 [8] 3 1 st = .ok q ∧ (Res.ok (q.1, canon 0 (hintX env 4 [] 8).1 q.2) : Res (Ex × St)) = .ok (.norm, sDR c t l (IntKind.i64.wrap ((j : Int) + 1))) := by
    rcases s6 with ⟨x, y, z, d3, rfl⟩ | ⟨x, y, z, d3, rfl⟩
    · exact bind_ok_inv (zDR4a (m + 1) c t l (j : Int) x y z d3)
    · exact bind_ok_inv (zDR4b (m + 1) c t l (j : Int) x y z d3)
  obtain ⟨qe, qs⟩ := q
  simp only [Res.ok.injEq, Prod.mk.injEq] at y2
  obtain ⟨rfl, y2⟩ := y2
  have s9 : seqX env (m + 1) 4 ([] ++ [8]) 0 (partsC env 4 ([] ++ [8])).length (sDR c t l (j : Int)) = .ok (.norm, qs) := by
    rw [show (partsC env 4 ([] ++ [8])).length = 2 + 2 by kernel_rfl]
    show seqX env (m + 1) 4 [8] 0 (2 + 2) (sDR c t l (j : Int)) = _
    rw [seqX_norm s1, show (0 + 2 : Nat) = 2 from rfl, show (2 : Nat) = 1 + 1 from rfl]
    refine (seqX_norm s8).trans ?_
    exact y1
  rw [bodyX_of (by kernel_rfl) s9]
  show (Res.ok (Ex.norm, canon 0 (hintX env 4 [] 8).1 qs) : Res (Ex × St)) = _
  rw [y2, wrap_succ (show j ≤ big by omega)]
theorem rows_end {m : Nat} {c : Cf} {t : List (List En)} {l : List Ch} : bodyX env (m + 1) 4 [] 8 (sDR c t l (l.length : Int)) = .ok (.exit 0, ⟨slots 125 [(5, .t (.bool true))], []⟩) := by
  have hd : decide ((l.length : Int) < ((l.map Ch.t).length : Int)) = false := decide_eq_false (by rw [List.length_map]; omega)
  have s1 : seqX env (m + 1) 4 [8] 0 2 (sDR c t l (l.length : Int)) = .ok (.exit 0, sDRx c t l (l.length : Int)) := by
    rw [x4_8_0_2, hd]; rfl
  have s9 : seqX env (m + 1) 4 ([] ++ [8]) 0 (partsC env 4 ([] ++ [8])).length (sDR c t l (l.length : Int)) = .ok (.exit 0, sDRx c t l (l.length : Int)) := by
    rw [show (partsC env 4 ([] ++ [8])).length = 2 + 2 by kernel_rfl]
    exact seqX_exit s1
  rw [bodyX_of (by kernel_rfl) s9]
  exact zDRe (m + 1) c t l (l.length : Int)
theorem f4_ok {M : Nat} {c : Cf} {t : List (List En)} (hM : big + 90 ≤ M) (h : c.ok) (ht : okT t) : callP env (M + 1) 4 [c.t, .sl 1 (tabT t)] = .ok (.bool true) := by
  obtain ⟨m, rfl⟩ := exM (show 1 ≤ M by omega)
  have hbig := big_val
  rw [q4, W_ok (wfs2 h.wf ht.wf), cl_ok (f8_ok (by omega)), clB_ok (f9_ok (by omega) h ht)]
  cases h1 : few12 c with
  | false => rfl
  | true =>
  cases h2 : fewT t with
  | false => rfl
  | true =>
  have hrm := room_few h1 h2
  have hlo := loc_okF h ht h1 h2
  simp only [Bool.and_self, Bool.not_true, cond_false]
  rw [cl_ok (f18_ok h ht hrm), clB_ok (f21_ok (by omega) h)]
  have hrow : ∀ e ∈ locR c t, RowOk c t e := fun e he => row_ok he
  have hri : ∀ i a e, (locR c t)[i]? = some a → (locR c t)[i + 1]? = some e → cmpP a.x e.x < 0 := fun i a e ha he => by
    obtain ⟨g1, rfl⟩ := List.getElem?_eq_some_iff.1 ha
    obtain ⟨g2, rfl⟩ := List.getElem?_eq_some_iff.1 he
    exact cmpP_lt.2 (List.pairwise_iff_getElem.1 (loc_sorted c t) i (i + 1) g1 g2 (by omega))
  have hins : csane c = false → locR c t = [] := loc_insane
  generalize locR c t = l at hlo hrow hri hins ⊢
  have hbl := hlo.1
  have key : loopL env (m + 1) 4 8 (sDR c t l 0) = rB true := by
    have e : bodyL env (m + 1) 4 0 8 = bodyX env (m + 1) 4 [] 8 := by kernel_rfl
    obtain ⟨f1, _⟩ := fold_gen (N := m + 1) (F := 4) (r := 8) (id := 0) (S := fun (_ : Unit) j => sDR c t l (j : Int)) (X := fun _ => ⟨slots 125 [(5, .t (.bool true))], []⟩)
      (fun _ _ => True) (fun _ _ => ()) l () (by omega) (fun _ j e' he _ => ⟨by
        rw [e]
        refine rows_round (by omega) h hlo ht he (hrow e' (List.mem_of_getElem? he)) fun i a hi ha => ?_
        subst hi
        exact hri i a e' ha he, trivial⟩) (fun _ _ => by rw [e]; exact rows_end) trivial
    exact f1.trans (t4_8_exit0 _)
  show (bif !csane c then sllT (T.sl 8 (l.map Ch.t)) fun n => bif decide (n > 0) then rB false else loopL env (m + 1) 4 8 (sDR c t l 0) else loopL env (m + 1) 4 8 (sDR c t l 0)) = _
  rw [key]
  cases h3 : csane c with
  | false =>
    rw [hins h3]
    rfl
  | true => rfl
end Go.Sim
