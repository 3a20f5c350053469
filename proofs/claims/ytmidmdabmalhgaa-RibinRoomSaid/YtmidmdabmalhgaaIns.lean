/- slices.Insert, onto a row of one's own: its walk. -/
import Derived.Test.YtmidmdabmalhgaaD18b
import Derived.Test.YtmidmdabmalhgaaProg
import Derived.Shelf.Spec.SlicesInsertGrow
namespace Go.Sim
open Go.RowKit Go.Proofs Go.Lib
set_option linter.unusedVariables false
set_option linter.unusedSimpArgs false
set_option maxHeartbeats 4000000
set_option maxRecDepth 100000

theorem ins_und : Try.prog.underlying 40 = some (.slice 64) := by kernel_rfl
theorem ins_sz : szP Try.prog 64 = some 6 := by kernel_rfl
theorem ins_by : byP Try.prog 64 = some 64 := by kernel_rfl
theorem ins_int : Try.prog.underlying 3 = some (.int .i64) := by kernel_rfl
theorem ins_zero : zeroOk Try.prog 64 6 = true := by kernel_rfl

theorem insert_end (v : Value) (n m vc : Nat) (xs : List Value) (w : World) (hown : w.ownsRow 0 64 6 v n xs) (ad : Addr) (news : List Value) (hl : news.length = m * 6)
    (hA : ∀ (j : Nat) (u : Value), news[j]? = some u → w.cell? (ad.add j) = some u) (h1 : ∀ u ∈ news, u.oneCell' = true) (hb : (n + m) * 64 ≤ big) (hm : 0 < m) :
    Calls Try.prog 48 #[v, .int .i64 n, .slice (some ad) m vc] w fun e w' => ∃ v', e = .returned v' ∧ w'.ownsRow 0 64 6 v' (n + m) (xs ++ news) ∧ w.grownBy w' v.ownBlock ∧ (v'.ownBlock = v.ownBlock ∨ v'.ownBlock = some w.heap.size) := by
  have hr : ∀ ty, ∃ v' w', (Builtin.append_ #[40, 40] ty #[v, .slice (some ad) m vc]).run Try.prog w = .ok v' w' ∧ w'.ownsRow 0 64 6 v' (n + m) (xs ++ news) ∧ w.grownBy w' v.ownBlock ∧
      (v'.ownBlock = v.ownBlock ∨ v'.ownBlock = some w.heap.size) := fun ty => run_append_any w 40 ty 64 (k := 5) (b := 63) ins_und ins_sz ins_by ins_zero v n xs hown (some ad) m vc news hl (.inr ⟨ad, rfl, hA⟩) h1 hb
  obtain ⟨v', w', r1, r2, r3, r4⟩ := hr 40
  have hz1 : ¬ ((m : Int) = 0) := by omega
  rcases hown.2 with ⟨rfl, rfl⟩ | ⟨g, cap, cur, rfl, _, _, hnc, hcm, _⟩
  · clear hr hown hA hl h1
    go_enter Try.func48, Try.ntmps48
    go_wp2_with (at_builtin; refine Lib.wpList_append_run _ rfl _ _ _ _ rfl _ _ rfl rfl _ _ r1 ?_)
    go_ret
    exact ⟨v', rfl, r2, r3, r4⟩
  · clear hr hown hA hl h1
    go_enter Try.func48, Try.ntmps48
    go_wp2_with (at_builtin; refine Lib.wpList_append_run _ rfl _ _ _ _ rfl _ _ rfl rfl _ _ r1 ?_)
    all_goals (go_ret; exact ⟨v', rfl, r2, r3, r4⟩)

/-- copy onto cells of a row. -/
theorem run_copy_k (w : World) (ty : TypeId) (g o dLen dCap : Nat) (a : Addr) (sLen sCap : Nat) (cur : Array Value) (t : TypeId) (cs : List Value)
    (hg : w.heap[g]? = some (.cells cur t (0, 0))) (hn : cs.length = min sLen dLen * 6) (hsrc : ∀ (j : Nat) (v : Value), cs[j]? = some v → w.cell? (a.add j) = some v) (hfit : o + cs.length ≤ cur.size) (h1 : ∀ v ∈ cs, v.oneCell' = true) :
    (Builtin.copy_ #[40, 40] ty #[.slice (some ⟨g, o, none⟩) dLen dCap, .slice (some a) sLen sCap]).run Try.prog w =
      .ok (goInt (min sLen dLen : Nat)) (w.setRow g (cur.toList.take o ++ cs ++ cur.toList.drop (o + cs.length)).toArray) := by
  have hst := run_storeCells_at Try.prog g o t cs 0 cur w hg (by omega) h1
  simp only [Nat.add_zero] at hst
  obtain ⟨i, hi, hsz⟩ := info_of_sz ins_sz
  have hfc : (Builtin.firstCells 6 (min sLen dLen) (.slice (some a) sLen sCap)).run Try.prog w = .ok cs.toArray w := run_firstCells_some w 6 _ a sLen sCap cs hn hsrc
  have hm' : Nat.min sLen dLen = min sLen dLen := rfl
  have hu := run_underlying ins_und
  simp [Builtin.copy_, hu, Builtin.lenOf, sizeOf, typeInfo, hi, hsz, hm', hfc, hst]

theorem insert_room (g c n i m vb vo vc : Nat) (cur : Array Value) (xs news : List Value) (w : World) (hg : w.heap[g]? = some (.cells cur 64 (0, 0))) (hcs : cur.size = c * 6) (htk : cur.toList.take (n * 6) = xs)
    (hi : i < n) (hm : 0 < m) (hroom : n + m ≤ c) (hcm : c ≤ maxLen) (hvb : vb ≠ g) (hl : news.length = m * 6)
    (hA : ∀ (j : Nat) (u : Value), news[j]? = some u → w.cell? ⟨vb, vo + j, none⟩ = some u) (h1 : ∀ u ∈ news, u.oneCell' = true) (h1x : ∀ u ∈ xs, u.oneCell' = true)
    (tA : TypeId) (kA : Nat) (hsa : w.shape? vb = some (tA, kA)) (hfa : w.frozen? ⟨vb, vo, none⟩ = false) (hfe : w.frozen? ⟨vb, kA, none⟩ = false) :
    Calls Try.prog 48 #[.slice (some ⟨g, 0, none⟩) n c, .int .i64 i, .slice (some ⟨vb, vo, none⟩) m vc] w fun e w' =>
      e = .returned (.slice (some ⟨g, 0, none⟩) (n + m) c) ∧ ∃ cur', w' = w.drew.setRow g cur' ∧ cur'.size = c * 6 ∧ cur'.toList.take ((n + m) * 6) = xs.take (i * 6) ++ news ++ xs.drop (i * 6) := by
  have hu := run_underlying ins_und
  have hxl : xs.length = n * 6 := by rw [← htk, List.length_take, Array.length_toList, hcs]; omega
  have hsb : w.shape? g = some (64, c * 6) := by simp [World.shape?, hg, hcs]
  have hz1 : ¬ ((m : Int) = 0) := by omega
  have hz2 : ¬ ((i : Int) = (n : Int)) := by omega
  have hov : ∀ lb cb, (callFunc 78 #[.slice (some ⟨vb, vo, none⟩) m vc, .slice (some ⟨g, (i + m) * 6, none⟩) lb cb]).run Try.prog w = .ok (.value (.bool false)) w := fun lb cb => by
    rw [run_callFunc_extern Try.func78 (by kernel_rfl) (by kernel_rfl) (by kernel_rfl) (e := Extern.SlicesOverlaps.overlaps #[40, 40] #[4]) (by kernel_rfl),
      Lib.run_overlaps_apart w 40 4 64 ins_und 6 (fun w => run_sizeOf' ins_sz w) ⟨vb, vo, none⟩ ⟨g, (i + m) * 6, none⟩ m vc lb cb hvb tA 64 kA (c * 6) hsa hsb (by omega) hfa hfe]
    rfl
  have mixed : Try.prog.follows .mixedOrders = true := by kernel_rfl
  have hnx : IntKind.i64.wrap ((n : Int) + (m : Int)) = (n : Int) + (m : Int) := by rw [IntKind.wrap_i64]; simp only [maxLen] at hcm; omega
  have hw1 : IntKind.i64.wrap ((i : Int) + (m : Int)) = (i : Int) + (m : Int) := by rw [IntKind.wrap_i64]; simp only [maxLen] at hcm; omega
  have hb1 : (0 : Int) ≤ (i : Int) + (m : Int) := by omega
  have hin : i ≤ n := by omega
  have htn : ((i : Int) + (m : Int)).toNat = i + m := by omega
  have hb2 : ¬ (c = i + m) := by omega
  have hb3 : (i : Int) ≤ (n : Int) + (m : Int) := by omega
  have hb4 : ¬ (c = i) := by omega
  have hmin1 : min (n + m - i) (n + m - (i + m)) = n - i := by omega
  have hmin2 : min m (n + m - i) = m := by omega
  have hdl : (xs.drop (i * 6)).length = (n - i) * 6 := by rw [List.length_drop, hxl]; omega
  obtain ⟨C1, hC1'⟩ : ∃ C1, (cur.toList.take ((i + m) * 6) ++ xs.drop (i * 6) ++ cur.toList.drop ((i + m) * 6 + (xs.drop (i * 6)).length)).toArray = C1 := ⟨_, rfl⟩
  have hC1 := hC1'.symm
  have hC1s : C1.size = c * 6 := by rw [hC1]; simp only [List.size_toArray, List.length_append, List.length_take, List.length_drop, Array.length_toList, hxl, hcs]; omega
  obtain ⟨C2, hC2'⟩ : ∃ C2, (C1.toList.take (i * 6) ++ news ++ C1.toList.drop (i * 6 + news.length)).toArray = C2 := ⟨_, rfl⟩
  have hC2 := hC2'.symm
  have hcp1 : ∀ ty dc sc, (Builtin.copy_ #[40, 40] ty #[.slice (some ⟨g, (i + m) * 6, none⟩) (n + m - (i + m)) dc, .slice (some ⟨g, i * 6, none⟩) (n + m - i) sc]).run Try.prog w.drew = .ok (goInt (n - i : Nat)) (w.drew.setRow g C1) := fun ty dc sc => by
    have := run_copy_k w.drew ty g ((i + m) * 6) (n + m - (i + m)) dc ⟨g, i * 6, none⟩ (n + m - i) sc cur 64 (xs.drop (i * 6)) hg (by rw [hmin1, hdl]) (fun j v hj => by
      rw [List.getElem?_drop, ← htk, List.getElem?_take] at hj
      split at hj
      · rw [add_mid]
        exact (cell_of_row w g (i * 6 + j) cur 64 (0, 0) hg).trans (by simpa using hj)
      · cases hj) (by rw [hdl, hcs]; omega) (fun v hv => h1x v (List.mem_of_mem_drop hv))
    rw [hmin1, ← hC1] at this
    exact this
  have hcp2 : ∀ ty dc, (Builtin.copy_ #[40, 40] ty #[.slice (some ⟨g, i * 6, none⟩) (n + m - i) dc, .slice (some ⟨vb, vo, none⟩) m vc]).run Try.prog (w.drew.setRow g C1) = .ok (goInt (m : Nat)) ((w.drew.setRow g C1).setRow g C2) := fun ty dc => by
    have hW : (w.drew.setRow g C1).heap[g]? = some (.cells C1 64 (0, 0)) := setRow_heap w.drew g cur C1 64 (0, 0) hg
    have hWc : ∀ o, (w.drew.setRow g C1).cell? ⟨vb, o, none⟩ = w.cell? ⟨vb, o, none⟩ := fun o => World.cell?_of_block (a := ⟨vb, o, none⟩) (setRow_other w.drew g vb C1 hvb)
    have := run_copy_k (w.drew.setRow g C1) ty g (i * 6) (n + m - i) dc ⟨vb, vo, none⟩ m vc C1 64 news hW (by rw [hmin2, hl]) (fun j v hj => by rw [add_mid, hWc]; exact hA j v hj) (by rw [hl, hC1s]; omega) h1
    rw [hmin2, ← hC2] at this
    exact this
  clear hA hsa hsb hfa hfe hC1 hC2
  go_enter Try.func48, Try.ntmps48
  go_wp2_with (simp only [hov])
  go_region_law_o (refine step_copy_runI rfl _ _ 40 40 rfl _ _ (by simp [Act.eval, Act.put]) (by simp [Act.eval, Act.put]) (hcp1 _ _ _) ?_)
  go_wp2_with (at_builtin; refine wpList_copy_runI _ rfl _ _ 40 40 rfl _ _ rfl rfl (hcp2 _ _) ?_)
  go_ret
  have hC1 := hC1'.symm
  have hC2 := hC2'.symm
  refine ⟨rfl, C2, setRow_setRow _ _ _ _, ?_, ?_⟩
  · rw [hC2]; simp only [List.size_toArray, List.length_append, List.length_take, List.length_drop, Array.length_toList, hl, hC1s]; omega
  · have e1 : C1.toList = cur.toList.take ((i + m) * 6) ++ xs.drop (i * 6) ++ cur.toList.drop ((i + m) * 6 + (xs.drop (i * 6)).length) := by rw [hC1]
    have e2 : C2.toList = C1.toList.take (i * 6) ++ news ++ C1.toList.drop (i * 6 + news.length) := by rw [hC2]
    rw [e2]
    apply List.ext_getElem?
    intro j
    have hcl : cur.toList.length = c * 6 := by simpa using hcs
    have hc1l : C1.toList.length = c * 6 := by simpa using hC1s
    rw [List.getElem?_take]
    rw [splice_get _ _ rfl (by rw [hl, hc1l]; omega), hl]
    rw [e1, splice_get _ _ rfl (by rw [hdl, hcl]; omega), hdl]
    have hx : ∀ j, j < n * 6 → xs[j]? = cur.toList[j]? := fun j hj => by rw [← htk, List.getElem?_take, if_pos hj]
    rcases Nat.lt_or_ge j (i * 6) with a1 | a1
    · rw [if_pos (by omega), if_pos a1, if_pos (by omega), List.append_assoc, List.getElem?_append_left (by rw [List.length_take, hxl]; omega), List.getElem?_take, if_pos a1, hx j (by omega)]
    · have hlt : (xs.take (i * 6)).length = i * 6 := by rw [List.length_take, hxl]; omega
      rw [if_neg (by omega : ¬ j < i * 6)]
      rcases Nat.lt_or_ge j (i * 6 + m * 6) with a2 | a2
      · rw [if_pos (by omega), if_pos a2, List.append_assoc, List.getElem?_append_right (by omega), hlt, List.getElem?_append_left (by omega)]
      · rw [if_neg (by omega : ¬ j < i * 6 + m * 6), if_neg (by omega : ¬ j < (i + m) * 6), List.getElem?_append_right (by rw [List.length_append, hlt, hl]; omega), List.length_append, hlt, hl]
        rcases Nat.lt_or_ge j ((n + m) * 6) with a3 | a3
        · rw [if_pos a3, if_pos (by omega)]
          congr 1; omega
        · rw [if_neg (by omega), List.getElem?_eq_none (by rw [hdl]; omega)]

theorem insert_grow (g c n i m vb vo vc : Nat) (cur : Array Value) (xs news : List Value) (w : World) (hg : w.heap[g]? = some (.cells cur 64 (0, 0))) (hcs : cur.size = c * 6) (htk : cur.toList.take (n * 6) = xs)
    (hi : i < n) (hm : 0 < m) (hnc : n ≤ c) (hroom : c < n + m) (hbig : (n + m) * 64 ≤ big) (hl : news.length = m * 6)
    (hA : ∀ (j : Nat) (u : Value), news[j]? = some u → w.cell? ⟨vb, vo + j, none⟩ = some u) (h1 : ∀ u ∈ news, u.oneCell' = true) (h1x : ∀ u ∈ xs, u.oneCell' = true) (hvw : vb < w.heap.size) :
    Calls Try.prog 48 #[.slice (some ⟨g, 0, none⟩) n c, .int .i64 i, .slice (some ⟨vb, vo, none⟩) m vc] w fun e w' =>
      ∃ C cur', e = .returned (.slice (some ⟨w.heap.size, 0, none⟩) (n + m) C) ∧ n + m ≤ C ∧ C ≤ maxLen ∧ w.grownBy w' none ∧ w'.heap[w.heap.size]? = some (.cells cur' 64 (0, 0)) ∧ cur'.size = C * 6 ∧ cur'.toList.take ((n + m) * 6) = xs.take (i * 6) ++ news ++ xs.drop (i * 6) := by
  have hu := run_underlying ins_und
  have hxl : xs.length = n * 6 := by rw [← htk, List.length_take, Array.length_toList, hcs]; omega
  obtain ⟨i0, hi0, hsz⟩ := info_of_sz ins_sz
  have hby : i0.bytes = 64 := by have := ins_by; simpa [byP, hi0] using this
  obtain ⟨z, hz, hzs⟩ : ∃ z, i0.zero = some z ∧ z.cells.size = 6 := by
    have := ins_zero
    unfold zeroOk at this
    rw [hi0] at this
    cases h : i0.zero with
    | none => simp [h] at this
    | some z => exact ⟨z, rfl, by simpa [h] using this⟩
  have hz1 : ¬ ((m : Int) = 0) := by omega
  have hz2 : ¬ ((i : Int) = (n : Int)) := by omega
  have hz3 : (c : Int) < (n : Int) + (m : Int) := by omega
  have hbl : n + m ≤ big := by omega
  have hbm : big = 140737488355328 := rfl
  have hkk : (n : Int) + (m : Int) - (i : Int) = ((n + m - i : Nat) : Int) := by omega
  have hik : i + (n + m - i) = n + m := by omega
  have hold : (Builtin.firstCells i0.size i (.slice (some ⟨g, 0, none⟩) i c)).run Try.prog w.drew = .ok (xs.take (i * 6)).toArray w.drew := by
    rw [hsz]
    exact run_firstCells_some w.drew 6 i ⟨g, 0, none⟩ i c (xs.take (i * 6)) (by rw [List.length_take]; omega) (fun j v hj => by
      rw [List.getElem?_take, ← htk, List.getElem?_take] at hj
      split at hj
      · split at hj
        · rw [add_mid, Nat.zero_add]
          exact (cell_of_row w g j cur 64 (0, 0) hg).trans (by simpa using hj)
        · cases hj
      · cases hj)
  have h63 : n + m ≤ 9223372036854775807 := by omega
  have hgw : g < w.heap.size := (Array.getElem?_eq_some_iff.1 hg).1
  obtain ⟨G, hG⟩ : ∃ G, G = grownCap w (n + m) c 64 := ⟨_, rfl⟩
  have hGn : n + m ≤ G := by rw [hG]; exact grownCap_ge w _ _ _
  have hGm : G ≤ maxLen := by rw [hG]; exact grownCap_le_maxLen w (n + m) c 64 h63
  obtain ⟨N, hN⟩ : ∃ N, w.heap.size = N := ⟨_, rfl⟩
  obtain ⟨ROW, W1, hrz, hrow, hgb, hRs, hRt⟩ : ∃ (ROW : Array Value) (W1 : World), (∀ ty, (Builtin.append_ #[40, 3] ty #[.slice (some ⟨g, 0, none⟩) i c, .int .i64 ((n : Int) + (m : Int) - (i : Int))]).run Try.prog w = .ok (.slice (some ⟨N, 0, none⟩) (n + m) G) W1) ∧
      W1.heap[N]? = some (.cells ROW 64 (0, 0)) ∧ w.grownBy W1 none ∧ ROW.size = G * 6 ∧ ROW.toList.take (i * 6) = xs.take (i * 6) := by
    refine ⟨(xs.take (i * 6)).toArray ++ Builtin.zeroCells z.cells (n + m - i) ++ Builtin.zeroCells z.cells (G - (n + m)), w.drew.alloc (.cells ((xs.take (i * 6)).toArray ++ Builtin.zeroCells z.cells (n + m - i) ++ Builtin.zeroCells z.cells (G - (n + m))) 64), fun ty => ?_, ?_, ⟨rfl, rfl, rfl, by simp, fun k hk _ => heap_alloc_old w.drew _ hk⟩, ?_, ?_⟩
    · have h := Lib.run_append_grow_zeros w 40 3 ty 64 i0 z .i64 .i64 ins_und ins_int hi0 hz (some ⟨g, 0, none⟩) i c (xs.take (i * 6)) hold (n + m - i) (by omega) (by omega) (by omega) (by omega) (by rw [hby]; omega) (by rw [hby, hik]; exact growslice_fits hroom hbig)
      rw [hik, ← hG, hN] at h
      rw [hkk]
      exact h
    · rw [← hN]; exact heap_alloc_new w.drew _
    · simp only [Array.size_append, List.size_toArray, size_zeroCells, hzs, List.length_take, hxl]; omega
    · simp only [Array.toList_append, List.append_assoc]
      rw [List.take_append_of_le_length (by rw [List.length_take, hxl]; omega), List.take_of_length_le (by rw [List.length_take]; omega)]
  have hgN : g ≠ N := by omega
  have hvN : vb ≠ N := by omega
  have hold1 : ∀ b o, b < N → W1.cell? ⟨b, o, none⟩ = w.cell? ⟨b, o, none⟩ := fun b o hb => World.cell?_of_block (a := ⟨b, o, none⟩) (hgb.block b (by omega) (by simp))
  have hmin1 : min m (n + m - i) = m := by omega
  have hmin2 : min (n - i) (n + m - (i + m)) = n - i := by omega
  have hdl : (xs.drop (i * 6)).length = (n - i) * 6 := by rw [List.length_drop, hxl]; omega
  obtain ⟨D1, hD1'⟩ : ∃ D1, (ROW.toList.take (i * 6) ++ news ++ ROW.toList.drop (i * 6 + news.length)).toArray = D1 := ⟨_, rfl⟩
  have hD1s : D1.size = G * 6 := by rw [← hD1']; simp only [List.size_toArray, List.length_append, List.length_take, List.length_drop, Array.length_toList, hl, hRs]; omega
  obtain ⟨D2, hD2'⟩ : ∃ D2, (D1.toList.take ((i + m) * 6) ++ xs.drop (i * 6) ++ D1.toList.drop ((i + m) * 6 + (xs.drop (i * 6)).length)).toArray = D2 := ⟨_, rfl⟩
  have hcpA : ∀ ty dc, (Builtin.copy_ #[40, 40] ty #[.slice (some ⟨N, i * 6, none⟩) (n + m - i) dc, .slice (some ⟨vb, vo, none⟩) m vc]).run Try.prog W1 = .ok (goInt (m : Nat)) (W1.setRow N D1) := fun ty dc => by
    have := run_copy_k W1 ty N (i * 6) (n + m - i) dc ⟨vb, vo, none⟩ m vc ROW 64 news hrow (by rw [hmin1, hl]) (fun j v hj => by rw [add_mid, hold1 _ _ (by omega)]; exact hA j v hj) (by rw [hl, hRs]; omega) h1
    rw [hmin1, hD1'] at this
    exact this
  have hcpB : ∀ ty dc sc, (Builtin.copy_ #[40, 40] ty #[.slice (some ⟨N, (i + m) * 6, none⟩) (n + m - (i + m)) dc, .slice (some ⟨g, i * 6, none⟩) (n - i) sc]).run Try.prog (W1.setRow N D1).drew = .ok (goInt (n - i : Nat)) ((W1.setRow N D1).drew.setRow N D2) := fun ty dc sc => by
    have hW : (W1.setRow N D1).drew.heap[N]? = some (.cells D1 64 (0, 0)) := setRow_heap W1 N ROW D1 64 (0, 0) hrow
    have hWc : ∀ o, (W1.setRow N D1).drew.cell? ⟨g, o, none⟩ = W1.cell? ⟨g, o, none⟩ := fun o => World.cell?_of_block (a := ⟨g, o, none⟩) (setRow_other W1 N g D1 hgN)
    have := run_copy_k (W1.setRow N D1).drew ty N ((i + m) * 6) (n + m - (i + m)) dc ⟨g, i * 6, none⟩ (n - i) sc D1 64 (xs.drop (i * 6)) hW (by rw [hmin2, hdl]) (fun j v hj => by
      rw [List.getElem?_drop, ← htk, List.getElem?_take] at hj
      split at hj
      · rw [add_mid, hWc, hold1 _ _ (by omega)]
        exact (cell_of_row w g (i * 6 + j) cur 64 (0, 0) hg).trans (by simpa using hj)
      · cases hj) (by rw [hdl, hD1s]; omega) (fun v hv => h1x v (List.mem_of_mem_drop hv))
    rw [hmin2, hD2'] at this
    exact this
  have mixed : Try.prog.follows .mixedOrders = true := by kernel_rfl
  have hnx : IntKind.i64.wrap ((n : Int) + (m : Int)) = (n : Int) + (m : Int) := by rw [IntKind.wrap_i64]; omega
  have hnx2 : IntKind.i64.wrap ((n : Int) + (m : Int) - (i : Int)) = (n : Int) + (m : Int) - (i : Int) := by rw [IntKind.wrap_i64]; omega
  have hw1 : IntKind.i64.wrap ((i : Int) + (m : Int)) = (i : Int) + (m : Int) := by rw [IntKind.wrap_i64]; omega
  have hb1 : (0 : Int) ≤ (i : Int) + (m : Int) := by omega
  have hin : i ≤ n := by omega
  have htn : ((i : Int) + (m : Int)).toNat = i + m := by omega
  have hGi : ¬ (G = i) := by omega
  have hGim : ¬ (G = i + m) := by omega
  have hci : ¬ (c = i) := by omega
  have hb3 : (i : Int) ≤ (n : Int) := by omega
  have hfin : ((W1.setRow N D1).drew.setRow N D2).heap[N]? = some (.cells D2 64 (0, 0)) := setRow_heap (W1.setRow N D1).drew N D1 D2 64 (0, 0) (setRow_heap W1 N ROW D1 64 (0, 0) hrow)
  have hfg : w.grownBy ((W1.setRow N D1).drew.setRow N D2) none := by
    refine ⟨hgb.os, hgb.tape, hgb.output, ?_, fun k hk _ => ?_⟩
    · have := hgb.size; simpa using this
    · have h2 := hgb.block k hk (by simp)
      have e1 := setRow_other (W1.setRow N D1).drew N k D2 (by omega)
      have e2 := setRow_other W1 N k D1 (by omega)
      exact e1.trans (e2.trans h2)
  clear hkk hik hold hrow hA hi0 hz hby hsz hG
  go_enter Try.func48, Try.ntmps48
  go_wp2_with (first
    | (at_builtin; refine Lib.wpList_append_run _ rfl _ _ _ _ rfl _ _ rfl rfl _ _ (hrz _) ?_)
    | (at_builtin; refine wpList_copy_runI _ rfl _ _ 40 40 rfl _ _ rfl rfl (hcpA _ _) ?_))
  go_region_law_o (refine step_copy_runI rfl _ _ 40 40 rfl (.slice (some ⟨N, (i + m) * 6, none⟩) (n + m - (i + m)) (G - (i + m))) (.slice (some ⟨g, i * 6, none⟩) (n - i) (c - i)) (by simp [Act.eval, Act.put]) (by simp [Act.eval, Act.put]) (hcpB _ _ _) ?_)
  go_wp2
  go_ret
  refine ⟨G, D2, by rw [hN]; rfl, hGn, hGm, hfg, by rw [hN]; exact hfin, ?_, ?_⟩
  · rw [← hD2']; simp only [List.size_toArray, List.length_append, List.length_take, List.length_drop, Array.length_toList, hxl, hD1s]; omega
  · have e1 : D1.toList = ROW.toList.take (i * 6) ++ news ++ ROW.toList.drop (i * 6 + news.length) := by rw [← hD1']
    have e2 : D2.toList = D1.toList.take ((i + m) * 6) ++ xs.drop (i * 6) ++ D1.toList.drop ((i + m) * 6 + (xs.drop (i * 6)).length) := by rw [← hD2']
    have hRl : ROW.toList.length = G * 6 := by simpa using hRs
    have hD1l : D1.toList.length = G * 6 := by simpa using hD1s
    rw [e2]
    have h3 : D1.toList.take ((i + m) * 6) = xs.take (i * 6) ++ news := by
      rw [e1, hRt]
      rw [List.take_append_of_le_length (by rw [List.length_append, List.length_take, hl, hxl]; omega)]
      exact List.take_of_length_le (by rw [List.length_append, List.length_take, hl, hxl]; omega)
    rw [h3]
    rw [List.take_append_of_le_length (by rw [List.length_append, List.length_append, List.length_take, hl, hdl, hxl]; omega)]
    exact List.take_of_length_le (by rw [List.length_append, List.length_append, List.length_take, hl, hdl, hxl]; omega)
end Go.Sim
