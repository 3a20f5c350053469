/- The texts of a proof, one behind the other: an interpreter and its soundness, what the functions of the program answer, and plain laws on that. -/
import Derived.Test.YtckfafoabnfbpaaK1
import Derived.Great.BuildSlice
import Derived.MapKept
import Derived.WideKeyRuns
set_option linter.unusedVariables false
set_option linter.unusedSimpArgs false
set_option linter.unnecessarySimpa false
set_option linter.unusedSectionVars false
/- Stores; new variables; made rows. -/
namespace Go.Sim
open Go.RowKit
set_option linter.unusedVariables false
set_option linter.unusedSimpArgs false

section
variable {P : Program}
theorem run_storeVar_at {w : World} {b o : Nat} {t e : TypeId} {s : Nat} {cur : Array Value} {v : Value} (hs : szP P t = some s) (hg : w.heap[b]? = some (.cells cur e (0, 0))) (hv : v.cells.size = s) (ho : o + s ≤ cur.size) (h1 : ∀ c ∈ v.cells, c.oneCell' = true) :
    (Instr.storeAt t (.pointer (some ⟨b, o, none⟩)) v).run P w = .ok () (w.setRow b (cur.toList.take o ++ v.cells.toList ++ cur.toList.drop (o + s)).toArray) := by
  have := run_storeCells_at P b o e v.cells.toList 0 cur w hg (by simpa [hv] using ho) (by simpa using h1)
  simp only [Nat.add_zero, Array.length_toList, hv] at this
  simp [Instr.storeAt, Instr.sureAddr, storeVar, run_sizeOf' hs, hv, this]
end

section
variable {β : Type} {E : Env} {st : St} {F : Nat → Prop} {κ : Nat → Value} {w : World} {N0 : Nat} {tm : Array Value}

theorem undef_rp {F : Nat → Prop} {κ : Nat → Value} {N : Nat} {w : World} : RP F κ N w undefV undef := .tup (cs := []) (vs := []) rfl (fun i p v h => by simp at h)

theorem storeK_sound {t : TypeId} {p q : PV} {K : St → Res β} {v u : Value} (h : storeK E st t p q K ≠ .stuck) (h0 : N0 ≤ st.heap.length) (s : SI F κ w st.heap) (ht : TR F κ w st tm) (hp : RP F κ st.heap.length w p v) (hq : RP F κ st.heap.length w q u) :
    ∃ st' F' w', storeK E st t p q K = K st' ∧ (Instr.storeAt t v u).run E.P w = .ok () w' ∧ Next' N0 F κ w st tm undefV undef F' κ w' st' := by
  unfold storeK at h ⊢
  cases hs : szP E.P t with
  | none => simp [hs] at h
  | some sz =>
    cases ha : aggP E.P t with
    | none => simp [hs, ha] at h
    | some a =>
      simp only [hs, ha] at h ⊢
      obtain ⟨hg, he⟩ := cond_inv h
      rw [he] at h ⊢
      clear he
      obtain ⟨hok, he⟩ := chk_inv h
      rw [he] at h ⊢
      clear he
      obtain ⟨u1, u2⟩ := okS_sound hq hok
      obtain ⟨u3, u4⟩ := hq.cells u1 u2
      cases hp with
      | @ptr l o b hN hl =>
        cases ho : st.heap[l]? with
        | none => simp [ho] at h
        | some obj =>
          have hro := s.ro l obj ho
          cases obj with
          | box e n p0 =>
            simp only [ho] at h ⊢
            obtain ⟨b', vs, vv, r1, r2, r3, r4, r5, r6⟩ := hro
            rw [hl] at r1
            injection r1 with r1; injection r1 with r1; injection r1 with r1
            subst r1
            subst r3
            have hblk : ∀ p' : PV, blk κ l (.box e n p') = some b := fun p' => by simp [blk, hl, ptrBlock]
            have fin : ∀ (p' : PV) (vv' : Value) (cs : Array Value), cs = vv'.cells → cs.size = n → (∀ c ∈ cs, c.oneCell' = true) → RP F κ st.heap.length w p' vv' →
                Next' N0 F κ w st tm undefV undef F κ (w.setRow b cs) ⟨st.tmps, st.heap.set l (.box e n p')⟩ := by
              intro p' vv' cs h1 h2 h3 h4
              have hoth : ∀ c, c ≠ b → (w.setRow b cs).heap[c]? = w.heap[c]? := fun c hc => setRow_other w b c cs hc
              have hFb : ∀ c, F c → (w.setRow b cs).heap[c]? = w.heap[c]? := fun c hc => hoth c fun e => (s.lt l _ b ho (hblk p0)).2 (e ▸ hc)
              have mono : ∀ {p : PV} {v : Value}, RP F κ st.heap.length w p v → RP F κ st.heap.length (w.setRow b cs) p v := fun h => h.mono (fun _ h => h) hFb fun l hl => ⟨rfl, h.bound l hl⟩
              refine ⟨s.objSet ho (hblk p0) (hblk p') (by simp) hoth ⟨b, cs, vv', hl, setRow_heap w b _ _ _ _ r2, h1, h2, h3, mono h4⟩,
                Ev.objSet ho (hblk p0) (hblk p') rfl rfl rfl (by simp) hoth h0 (.inr (by simp)), undef_rp, rfl, fun i q v g1 g2 => ?_⟩
              simpa using mono (ht i q v g1 g2)
            cases hw : (o == 0 && sz == n) with
            | true =>
              simp only [Bool.and_eq_true, beq_iff_eq] at hw
              obtain ⟨rfl, rfl⟩ := hw
              refine ⟨_, F, _, rfl, run_storeVar_at hs r2 u1 (by omega) u2, fin q u _ ?_ (by simp [u1, r4]) (fun c hc => u2 c ?_) hq⟩
              · apply Array.ext'; simp [← r4]
              · have : ((List.take 0 vv.cells.toList ++ u.cells.toList ++ List.drop (0 + sz) vv.cells.toList).toArray) = u.cells := by apply Array.ext'; simp [← r4]
                rwa [this] at hc
            | false =>
              rw [hw] at h
              simp only [cond_false] at h ⊢
              obtain ⟨h5, h6⟩ := cond_inv' h
              rw [h6]
              have h5 : o + sz ≤ n := by simpa using h5
              obtain ⟨c1, c2⟩ := r6.cells r4 r5
              refine ⟨_, F, _, rfl, run_storeVar_at hs r2 u1 (by omega) u2, fin _ (.agg (vv.cells.toList.take o ++ u.cells.toList ++ vv.cells.toList.drop (o + sz)).toArray) _ rfl (by simp; omega) (fun c hc => ?_) (mkAgg_rp (by simp; omega) (fun c hc => ?_) fun i p' c hp' hc => ?_)⟩
              · simp only [List.mem_toArray, List.mem_append] at hc
                rcases hc with (hc | hc) | hc
                · exact r5 c (by simpa using List.mem_of_mem_take hc)
                · exact u2 c (by simpa using hc)
                · exact r5 c (by simpa using List.mem_of_mem_drop hc)
              · simp only [List.mem_append] at hc
                rcases hc with (hc | hc) | hc
                · exact r5 c (by simpa using List.mem_of_mem_take hc)
                · exact u2 c (by simpa using hc)
                · exact r5 c (by simpa using List.mem_of_mem_drop hc)
              · rw [splice_get _ _ u3 (by omega)] at hp'
                rw [splice_get _ _ (by simpa using u1) (by simp; omega)] at hc
                split at hp'
                · rename_i g; rw [if_pos g] at hc; exact c2 i p' c hp' (by simpa using hc)
                · rename_i g
                  rw [if_neg g] at hc
                  split at hp'
                  · rename_i g2; rw [if_pos g2] at hc; exact u4 _ p' c hp' (by simpa using hc)
                  · rename_i g2; rw [if_neg g2] at hc; exact c2 i p' c hp' (by simpa using hc)
          | _ => simp [ho] at h
      | @eptr l k i o b n c hN hl hi =>
        cases ho : st.heap[l]? with
        | none => simp [ho] at h
        | some obj =>
          have hro := s.ro l obj ho
          cases obj with
          | vec e k' m xs =>
            simp only [ho] at h ⊢
            obtain ⟨hk, e1⟩ := cond_inv' h
            rw [e1] at h ⊢
            simp only [Bool.and_eq_true, beq_iff_eq, decide_eq_true_eq] at hk
            obtain ⟨rfl, hos⟩ := hk
            obtain ⟨cs, o1, o2, o3, o4, o5⟩ := hro
            have hown := o1
            rw [hl] at hown
            rcases hown.2 with ⟨hnil, _⟩ | ⟨g, cap, cur, q1, q2, q3, q4, q5, q6, q7⟩
            · cases hnil
            simp only [Value.slice.injEq, Option.some.injEq, Addr.mk.injEq, and_true, true_and] at q1
            obtain ⟨rfl, rfl, rfl⟩ := q1
            have hcs : cs.length = n * k' := o1.1
            have hin : i * k' + o + sz ≤ n * k' := by
              calc i * k' + o + sz ≤ i * k' + k' := by omega
                _ = (i + 1) * k' := by rw [Nat.succ_mul]
                _ ≤ n * k' := Nat.mul_le_mul_right _ hi
            have hcur : n * k' ≤ cur.size := by rw [q6]; exact Nat.mul_le_mul_right _ q4
            have hfit : (i * k' + o) + sz ≤ cur.size := Nat.le_trans hin hcur
            have hblk : ∀ xs' : List PV, blk κ l (.vec e k' n xs') = some b := fun xs' => by simp [blk, hl, Value.ownBlock]
            refine ⟨_, F, _, rfl, run_storeVar_at hs q3 u1 hfit u2, ?_⟩
            generalize hcur' : (cur.toList.take (i * k' + o) ++ u.cells.toList ++ cur.toList.drop (i * k' + o + sz)).toArray = cur'
            have hoth : ∀ c, c ≠ b → (w.setRow b cur').heap[c]? = w.heap[c]? := fun c hc => setRow_other w b c cur' hc
            have hFb : ∀ c, F c → (w.setRow b cur').heap[c]? = w.heap[c]? := fun c hc => hoth c fun e => (s.lt l _ b ho (hblk xs)).2 (e ▸ hc)
            have mono : ∀ {p : PV} {v : Value}, RP F κ st.heap.length w p v → RP F κ st.heap.length (w.setRow b cur') p v := fun h => h.mono (fun _ h => h) hFb fun l hl => ⟨rfl, h.bound l hl⟩
            have htake : cur'.toList.take (n * k') = cs.take (i * k' + o) ++ u.cells.toList ++ cs.drop (i * k' + o + sz) := by
              rw [← hcur', ← q7]
              apply List.ext_getElem?
              intro j
              rw [splice_get _ _ (by simpa using u1) (by simp; omega)]
              simp only [List.getElem?_take]
              by_cases hj : j < n * k'
              · simp only [if_pos hj]
                rw [splice_get _ _ (by simpa using u1) (by simpa using hfit)]
              · simp only [if_neg hj]
                rw [if_neg (by omega), if_neg (by omega)]
            have hlen' : (cs.take (i * k' + o) ++ u.cells.toList ++ cs.drop (i * k' + o + sz)).length = n * k' := by rw [splice_len _ _ (by simpa using u1) (by omega)]; exact hcs
            have hro' : RO F κ st.heap.length (w.setRow b cur') l (.vec e k' n (xs.take (i * k' + o) ++ q.cells sz ++ xs.drop (i * k' + o + sz))) := by
              refine ⟨cs.take (i * k' + o) ++ u.cells.toList ++ cs.drop (i * k' + o + sz), ?_, o2, ?_, fun c hc => ?_, fun j p c hp hc => ?_⟩
              · rw [hl]
                exact ⟨hlen', .inr ⟨b, _, cur', rfl, q2, setRow_heap w b _ _ _ _ q3, q4, q5, by rw [← hcur']; simp; omega, htake⟩⟩
              · rw [splice_len _ _ u3 (by omega)]; exact o3
              · simp only [List.mem_append] at hc
                rcases hc with (hc | hc) | hc
                · exact o4 c (List.mem_of_mem_take hc)
                · exact u2 c (by simpa using hc)
                · exact o4 c (List.mem_of_mem_drop hc)
              · rw [splice_get _ _ u3 (by omega)] at hp
                rw [splice_get _ _ (by simpa using u1) (by omega)] at hc
                refine mono ?_
                split at hp
                · rename_i g; rw [if_pos g] at hc; exact o5 j p c hp hc
                · rename_i g
                  rw [if_neg g] at hc
                  split at hp
                  · rename_i g2; rw [if_pos g2] at hc; exact u4 _ p c hp (by simpa using hc)
                  · rename_i g2; rw [if_neg g2] at hc; exact o5 j p c hp hc
            refine ⟨s.objSet ho (hblk _) (hblk _) (by simp) hoth hro', Ev.objSet ho (hblk _) (hblk _) rfl rfl rfl (by simp) hoth h0 (.inr (by simp)), undef_rp, rfl, fun i q v g1 g2 => ?_⟩
            simpa using mono (ht i q v g1 g2)
          | row e k' xs =>
            simp only [ho] at h ⊢
            obtain ⟨hk, e1⟩ := cond_inv h
            rw [e1] at h ⊢
            clear e1
            have hk' : k' = k := by simpa using hk
            subst hk'
            obtain ⟨y, hy, e1⟩ := someK_inv h
            rw [e1] at h ⊢
            clear e1
            obtain ⟨hnr, e1⟩ := cond_inv h
            rw [e1] at h ⊢
            clear e1
            obtain ⟨F', s', a1, a2, a3, a4, a5, a6⟩ := freeze_sound q.rows s
            have hrd := frz_sound s hq a1 hy a4
            have hev : Ev N0 F κ w st.heap F' κ w (freezeRows q.rows st.heap) := Ev.freeze q.rows h0 a1 a2 a3 a5
            have ho' : (freezeRows q.rows st.heap)[l]? = some (.row e k' xs) := by
              rw [freezeRows_other]; · exact ho
              · intro hm; simp [List.contains_iff_mem] at hnr; exact hnr hm
            obtain ⟨cs, o1, o2, o3, o4, o5⟩ := s'.ro l _ ho'
            have hown := o1
            rw [hl] at hown
            rcases hown.2 with ⟨hnil, _⟩ | ⟨g, cap, cur, q1, q2, q3, q4, q5, q6, q7⟩
            · cases hnil
            simp only [Value.slice.injEq, Option.some.injEq, Addr.mk.injEq, and_true, true_and] at q1
            obtain ⟨rfl, hn, rfl⟩ := q1
            subst hn
            have hcs : cs.length = xs.length * k' := o1.1
            have hblk : ∀ xs' : List T, blk κ l (.row e k' xs') = some b := fun xs' => by simp [blk, hl, Value.ownBlock]
            -- what the store leaves
            have hin : o + sz ≤ k' → i * k' + o + sz ≤ xs.length * k' := fun hle => by
              calc i * k' + o + sz ≤ i * k' + k' := by omega
                _ = (i + 1) * k' := by rw [Nat.succ_mul]
                _ ≤ xs.length * k' := Nat.mul_le_mul_right _ hi
            have fin : o + sz ≤ k' → ∀ (y' : T), y'.cells.length = k' → (k' = 1 → y'.isAgg = false) →
                (∀ (j : Nat) (z : T) (c : Value), y'.cells[j]? = some z → (if j < o then cs[i * k' + j]? else if j < o + sz then u.cells[j - o]? else cs[i * k' + j]?) = some c → Rd F' w z c) →
                ∃ w', (Instr.storeAt t (.pointer (some ⟨b, i * k' + o, none⟩)) u).run E.P w = .ok () w' ∧ Next' N0 F κ w st tm undefV undef F' κ w' ⟨st.tmps, (freezeRows q.rows st.heap).set l (.row e k' (xs.set i y'))⟩ := by
              intro hle y' g1 g2 g3
              have hcur : xs.length * k' ≤ cur.size := by rw [q6]; exact Nat.mul_le_mul_right _ q4
              have hfit : (i * k' + o) + sz ≤ cur.size := Nat.le_trans (hin hle) hcur
              refine ⟨_, run_storeVar_at hs q3 u1 hfit u2, ?_⟩
              generalize hcur' : (cur.toList.take (i * k' + o) ++ u.cells.toList ++ cur.toList.drop (i * k' + o + sz)).toArray = cur'
              have hoth : ∀ c, c ≠ b → (w.setRow b cur').heap[c]? = w.heap[c]? := fun c hc => setRow_other w b c cur' hc
              have hFb : ∀ c, F' c → (w.setRow b cur').heap[c]? = w.heap[c]? := fun c hc => hoth c fun e => (s'.lt l _ b ho' (hblk xs)).2 (e ▸ hc)
              have mono : ∀ {p : PV} {v : Value}, RP F κ st.heap.length w p v → RP F' κ st.heap.length (w.setRow b cur') p v := fun h => (h.freeze a1).mono (fun _ h => h) hFb fun l hl => ⟨rfl, h.bound l hl⟩
              have htake : cur'.toList.take (xs.length * k') = cs.take (i * k' + o) ++ u.cells.toList ++ cs.drop (i * k' + o + sz) := by
                rw [← hcur', ← q7]
                apply List.ext_getElem?
                intro j
                rw [splice_get _ _ (by simpa using u1) (by simp; have := hin hle; omega)]
                simp only [List.getElem?_take]
                by_cases hj : j < xs.length * k'
                · simp only [if_pos hj]
                  rw [splice_get _ _ (by simpa using u1) (by simpa using hfit)]
                · simp only [if_neg hj]
                  rw [if_neg (by have := hin hle; omega), if_neg (by have := hin hle; omega)]
              have hlen' : (cs.take (i * k' + o) ++ u.cells.toList ++ cs.drop (i * k' + o + sz)).length = xs.length * k' := by rw [splice_len _ _ (by simpa using u1) (by have := hin hle; omega)]; exact hcs
              have hro' : RO F' κ (freezeRows q.rows st.heap).length (w.setRow b cur') l (.row e k' (xs.set i y')) := by
                refine ⟨cs.take (i * k' + o) ++ u.cells.toList ++ cs.drop (i * k' + o + sz), ?_, by simpa using o2, fun x hx => ?_, fun c hc => ?_, fun i' x j z c hx hz hc => ?_⟩
                · rw [hl, List.length_set]
                  exact ⟨hlen', .inr ⟨b, _, cur', rfl, q2, setRow_heap w b _ _ _ _ q3, q4, q5, by rw [← hcur']; simp; omega, htake⟩⟩
                · rcases List.mem_or_eq_of_mem_set hx with hx | rfl
                  · exact o3 x hx
                  · exact ⟨g1, g2⟩
                · simp only [List.mem_append] at hc
                  rcases hc with (hc | hc) | hc
                  · exact o4 c (List.mem_of_mem_take hc)
                  · exact u2 c (by simpa using hc)
                  · exact o4 c (List.mem_of_mem_drop hc)
                · refine Rd.mono (fun _ h => h) hFb ?_
                  rw [splice_get _ _ (by simpa using u1) (by have := hin hle; omega)] at hc
                  by_cases e0 : i' = i
                  · subst e0
                    rw [List.getElem?_set_self hi] at hx
                    injection hx with hx
                    subst hx
                    refine g3 j z c hz ?_
                    simp only [Nat.add_assoc, Nat.add_lt_add_iff_left, Nat.add_sub_add_left] at hc
                    simpa using hc
                  · rw [List.getElem?_set_ne (fun h => e0 h.symm)] at hx
                    have hj : j < k' := by rw [← (o3 x (List.mem_of_getElem? hx)).1]; exact (List.getElem?_eq_some_iff.1 hz).1
                    have hout : i' * k' + j < i * k' + o ∨ i * k' + o + sz ≤ i' * k' + j := by
                      rcases Nat.lt_or_gt_of_ne e0 with h1 | h1
                      · left
                        calc i' * k' + j < i' * k' + k' := by omega
                          _ = (i' + 1) * k' := by rw [Nat.succ_mul]
                          _ ≤ i * k' := Nat.mul_le_mul_right _ h1
                          _ ≤ i * k' + o := by omega
                      · right
                        calc i * k' + o + sz ≤ i * k' + k' := by omega
                          _ = (i + 1) * k' := by rw [Nat.succ_mul]
                          _ ≤ i' * k' := Nat.mul_le_mul_right _ h1
                          _ ≤ i' * k' + j := by omega
                    refine o5 i' x j z c hx hz ?_
                    rcases hout with h1 | h1
                    · rw [if_pos h1] at hc; exact hc
                    · rw [if_neg (by omega), if_neg (by omega)] at hc; exact hc
              refine ⟨s'.objSet ho' (hblk _) (hblk _) (by simp) hoth hro', hev.trans (Ev.objSet ho' (hblk _) (hblk _) rfl rfl rfl (by simp) hoth (by rw [freezeRows_length]; exact h0) (.inl ⟨_, _, _, rfl⟩)), undef_rp, rfl, fun i q v g1 g2 => ?_⟩
              simpa [freezeRows_length] using mono (ht i q v g1 g2)
            -- the cells of what is stored
            have hyc : ∀ (j : Nat) (z : T) (c : Value), y.cells[j]? = some z → u.cells[j]? = some c → Rd F' w z c := fun j z c hz hc => by
              obtain ⟨b1, b2⟩ := RP.cells (κ := κ) (N := 0) (.t hrd) u1 u2
              have hj : j < sz := by have := (Array.getElem?_eq_some_iff.1 hc).1; omega
              have := b2 j (.t z) c (by simp [PV.cells, List.getElem?_range hj, T.cell, List.getD_eq_getElem?_getD, hz]) hc
              cases this with
              | t h => exact h
            have hys : y.cells.length = sz := by
              by_cases hv : u.oneCell' = true
              · rw [eq_zero_cells (hrd.notAgg hv)]
                rw [cells_one hv] at u1; simpa using u1
              · cases hrd with
                | agg hl' _ _ => simp [Value.cells] at u1; simp [T.cells]; omega
                | @tup _ vs _ _ => exact absurd (u2 (.tuple vs.toArray) (by simp [Value.cells])) (by simp [Value.oneCell'])
                | _ => exact absurd rfl hv
            cases hw : (o == 0 && sz == k') with
            | true =>
              rw [hw] at h
              simp only [Bool.and_eq_true, beq_iff_eq] at hw
              obtain ⟨rfl, rfl⟩ := hw
              simp only [cond_true] at h ⊢
              obtain ⟨h5, h6⟩ := chk_inv h
              rw [h6]
              obtain ⟨w', f1, f2⟩ := fin (by omega) y hys (fun h => by simpa [h] using h5) (fun j z c hz hc => by
                rw [if_neg (by omega)] at hc
                have hj : j < sz := by rw [← hys]; exact (List.getElem?_eq_some_iff.1 hz).1
                rw [if_pos (by omega)] at hc
                exact hyc j z c hz (by simpa using hc))
              exact ⟨_, F', w', rfl, f1, f2⟩
            | false =>
              rw [hw] at h
              simp only [cond_false] at h ⊢
              obtain ⟨h5, h6⟩ := cond_inv' h
              rw [h6]
              have h5 : o + sz ≤ k' := by simpa using h5
              have hx : xs.getD i .nilp ∈ xs := by rw [List.getD_eq_getElem?_getD, List.getElem?_eq_getElem hi]; exact List.getElem_mem _
              have hxi : xs[i]? = some (xs.getD i .nilp) := by rw [List.getD_eq_getElem?_getD, List.getElem?_eq_getElem hi]; rfl
              have hxl := (o3 _ hx).1
              by_cases hk1 : k' = 1
              · -- sz = 1, o = 0: the whole
                exfalso
                have : sz = 1 ∧ o = 0 := by
                  rcases guard_of hg with ⟨_, h2⟩ | ⟨_, h2⟩ <;> omega
                obtain ⟨rfl, rfl⟩ := this
                simp [hk1] at hw
              · have hpl : ((xs.getD i .nilp).cells.take o ++ y.cells ++ (xs.getD i .nilp).cells.drop (o + y.cells.length)).length = k' := by
                  rw [splice_len _ _ rfl (by omega)]; exact hxl
                obtain ⟨w', f1, f2⟩ := fin h5 ((xs.getD i .nilp).putD o y.cells) (by simpa [T.putD, T.cells] using hpl) (fun h => absurd h hk1) (fun j z c hz hc => by
                  change ((xs.getD i .nilp).cells.take o ++ y.cells ++ (xs.getD i .nilp).cells.drop (o + y.cells.length))[j]? = some z at hz
                  rw [splice_get _ _ rfl (by rw [hys]; omega), hys] at hz
                  split at hz
                  · rename_i g; rw [if_pos g] at hc; exact o5 i _ j z c hxi hz hc
                  · rename_i g
                    rw [if_neg g] at hc
                    split at hz
                    · rename_i g2; rw [if_pos g2] at hc; exact hyc _ z c hz hc
                    · rename_i g2; rw [if_neg g2] at hc; exact o5 i _ j z c hxi hz hc)
                exact ⟨_, F', w', rfl, f1, f2⟩
          | _ => simp [ho] at h
      | _ => exact absurd rfl h
end
end Go.Sim

/- Operands; new variables; literals. -/
namespace Go.Sim
open Go.RowKit
set_option linter.unusedVariables false
set_option linter.unusedSimpArgs false

section
variable {F : Nat → Prop} {κ : Nat → Value} {N : Nat} {w : World} {P : Program}

theorem pvLeaf_sound {t : TypeId} {v : Value} {p : PV} (h : pvLeaf P t v = some p) : RP F κ N w p v ∧ v.oneCell' = true := by
  unfold pvLeaf at h
  split at h
  · rename_i k n
    cases hk : kindOk k n with
    | true => simp [hk] at h; subst h; exact ⟨.t (.int hk), rfl⟩
    | false => simp [hk] at h
  · injection h with h; subst h; exact ⟨.t .bool, rfl⟩
  · rename_i s
    cases hk : decide (s.size ≤ big) with
    | true => simp [hk] at h; subst h; exact ⟨.t (.str (by simpa using hk)), rfl⟩
    | false => simp [hk] at h
  · injection h with h; subst h; exact ⟨.t .nilp, rfl⟩
  · injection h with h; subst h; exact ⟨.t .nilfn, rfl⟩
  · injection h with h; subst h; exact ⟨.t .nilif, rfl⟩
  · split at h
    · simp only [Option.map_eq_some_iff] at h
      obtain ⟨k, _, rfl⟩ := h
      exact ⟨.nil, rfl⟩
    · cases h
  · cases h

theorem pvZip_sound : ∀ {ts : List TypeId} {vs : List Value} {ps : List PV}, pvZip (pvLeaf P) ts vs = some ps → vs.length = ps.length ∧ (∀ v ∈ vs, v.oneCell' = true) ∧ ∀ (i : Nat) (p : PV) (v : Value), ps[i]? = some p → vs[i]? = some v → RP F κ N w p v
  | [], [], ps, h => by simp [pvZip] at h; subst h; simp
  | [], _ :: _, ps, h => by simp [pvZip] at h
  | _ :: _, [], ps, h => by simp [pvZip] at h
  | t :: ts, v :: vs, ps, h => by
    simp only [pvZip] at h
    cases h1 : pvLeaf P t v with
    | none => simp [h1] at h
    | some p =>
      cases h2 : pvZip (pvLeaf P) ts vs with
      | none => simp [h1, h2] at h
      | some r =>
        simp [h1, h2] at h
        subst h
        obtain ⟨a, b⟩ := pvLeaf_sound (F := F) (κ := κ) (N := N) (w := w) h1
        obtain ⟨c, d, e⟩ := pvZip_sound h2
        refine ⟨by simp [c], fun u hu => ?_, fun i p' u hp hu => ?_⟩
        · rcases List.mem_cons.1 hu with rfl | hu
          · exact b
          · exact d u hu
        · cases i with
          | zero => simp at hp hu; subst hp; subst hu; exact a
          | succ i => exact e i p' u (by simpa using hp) (by simpa using hu)

theorem pvConst_sound {t : TypeId} {v : Value} {p : PV} (h : pvConst P t v = some p) : RP F κ N w p v := by
  unfold pvConst at h
  split at h
  · rename_i vs
    split at h
    · rename_i ts hts
      simp only [Option.map_eq_some_iff] at h
      obtain ⟨ps, h1, rfl⟩ := h
      obtain ⟨a, b, c⟩ := pvZip_sound (F := F) (κ := κ) (N := N) (w := w) h1
      have := mkAgg_rp (κ := κ) (N := N) a b c
      simpa using this
    · cases h
  · rename_i vs
    cases hv : vs.isEmpty with
    | true =>
      simp [hv] at h
      subst h
      have : vs = #[] := by simpa using hv
      subst this
      exact undef_rp
    | false => simp [hv] at h
  · exact (pvLeaf_sound h).1

def TRn (F : Nat → Prop) (κ : Nat → Value) (N : Nat) (w : World) (tm : List PV) (vs : Array Value) : Prop := ∀ (i : Nat) (q : PV) (v : Value), tm[i]? = some q → vs[i]? = some v → RP F κ N w q v

theorem evalO_sound {tm : List PV} {a : Act} (hl : a.tmps.size = tm.length) (ht : TRn F κ N w tm a.tmps) {t : TypeId} {o : Operand} {p : PV} (h : evalO P tm t o = some p) : RP F κ N w p (a.eval o) := by
  cases o with
  | tmp i =>
    simp only [evalO, Option.some.injEq] at h
    subst h
    simp only [Act.eval]
    by_cases hi : i < tm.length
    · have h2 : i < a.tmps.size := by rw [hl]; exact hi
      rw [List.getD_eq_getElem?_getD, List.getElem?_eq_getElem hi, Array.getD_eq_getD_getElem?, Array.getElem?_eq_getElem h2]
      exact ht i _ _ (List.getElem?_eq_getElem hi) (Array.getElem?_eq_getElem h2)
    · have h1 : tm.length ≤ i := Nat.le_of_not_lt hi
      have h2 : a.tmps.size ≤ i := by rw [hl]; exact h1
      rw [List.getD_eq_getElem?_getD, List.getElem?_eq_none h1, Array.getD_eq_getD_getElem?, Array.getElem?_eq_none h2]
      exact undef_rp
  | const v => exact pvConst_sound h
  | global g => simp [evalO] at h
  | func f =>
    simp only [evalO, Option.some.injEq] at h
    subst h
    exact .t (.fn (vf := []) (vc := []) rfl rfl (fun i x v h => by simp at h) (fun i x v h => by simp at h))

theorem evalO_is {a : Act} {o : Operand} : Is o (a.eval o) := fun c h => by subst h; rfl

theorem evalOs_sound {tm : List PV} {a : Act} (hl : a.tmps.size = tm.length) (ht : TRn F κ N w tm a.tmps) {ty : Nat → TypeId} : ∀ {os : List Operand} {j : Nat} {ps : List PV}, evalOs P tm ty j os = some ps →
    ps.length = os.length ∧ ∀ (i : Nat) (p : PV) (v : Value), ps[i]? = some p → (os.map a.eval)[i]? = some v → RP F κ N w p v
  | [], j, ps, h => by simp [evalOs] at h; subst h; simp
  | o :: os, j, ps, h => by
    simp only [evalOs] at h
    cases h1 : evalO P tm (ty j) o with
    | none => simp [h1] at h
    | some p =>
      cases h2 : evalOs P tm ty (j + 1) os with
      | none => simp [h1, h2] at h
      | some r =>
        simp [h1, h2] at h
        subst h
        obtain ⟨a1, a2⟩ := evalOs_sound hl ht h2
        refine ⟨by simp [a1], fun i p' v hp hv => ?_⟩
        cases i with
        | zero => simp at hp hv; subst hp; subst hv; exact evalO_sound hl ht h1
        | succ i => exact a2 i p' v (by simpa using hp) (by simpa using hv)
theorem partsOf_sound {tm : List PV} {a : Act} (hl : a.tmps.size = tm.length) (ht : TRn F κ N w tm a.tmps) {ty : Nat → TypeId} : ∀ {os : List (Nat × Operand)} {ps : List (Nat × PV)}, partsOf P tm ty os = some ps →
    ps.length = os.length ∧ ∀ (i : Nat) (p : Nat × PV) (v : Nat × Value), ps[i]? = some p → (os.map fun x => (x.1, a.eval x.2))[i]? = some v → p.1 = v.1 ∧ RP F κ N w p.2 v.2
  | [], ps, h => by simp [partsOf] at h; subst h; simp
  | (k, o) :: os, ps, h => by
    simp only [partsOf] at h
    cases h1 : evalO P tm (ty k) o with
    | none => simp [h1] at h
    | some p =>
      cases h2 : partsOf P tm ty os with
      | none => simp [h1, h2] at h
      | some r =>
        simp [h1, h2] at h
        subst h
        obtain ⟨a1, a2⟩ := partsOf_sound hl ht h2
        refine ⟨by simp [a1], fun i p' v hp hv => ?_⟩
        cases i with
        | zero => simp at hp hv; subst hp; subst hv; exact ⟨rfl, evalO_sound hl ht h1⟩
        | succ i => exact a2 i p' v (by simpa using hp) (by simpa using hv)
theorem optO_sound {tm : List PV} {a : Act} (hl : a.tmps.size = tm.length) (ht : TRn F κ N w tm a.tmps) {o : Option Operand} {p : Option PV} (h : optO P tm o = some p) : OptR F κ N w p (o.map a.eval) := by
  cases o with
  | none => simp [optO] at h; subst h; trivial
  | some o =>
    simp only [optO, Option.map_eq_some_iff] at h
    obtain ⟨q, h1, rfl⟩ := h
    exact evalO_sound hl ht h1
end

section
variable {β : Type} {E : Env} {st : St} {F : Nat → Prop} {κ : Nat → Value} {w : World} {N0 : Nat} {tm : Array Value}

/-- A new variable. -/
theorem newVar_sound {e : TypeId} {n : Nat} {p : PV} {v : Value} (h0 : N0 ≤ st.heap.length) (s : SI F κ w st.heap) (ht : TR F κ w st tm) (hp : RP F κ st.heap.length w p v) (ho : p.okS n = true) :
    ∃ w' κ', (newVar e v).run E.P w = .ok ⟨w.heap.size, 0, none⟩ w' ∧ Next' N0 F κ w st tm (.ptr st.heap.length 0) (.pointer (some ⟨w.heap.size, 0, none⟩)) F κ' w' ⟨st.tmps, st.heap ++ [.box e n p]⟩ := by
  obtain ⟨a, b⟩ := okS_sound hp ho
  refine ⟨w.alloc (.cells v.cells e), upd κ st.heap.length (.pointer (some ⟨w.heap.size, 0, none⟩)), by simp [newVar, newRow], ?_⟩
  have hold : ∀ b, b < w.heap.size → (w.alloc (.cells v.cells e)).heap[b]? = w.heap[b]? := fun b hb => heap_alloc_old' w _ b hb
  refine Next'.push h0 s ht rfl rfl rfl (by simp) hold (fun _ h => h) (fun _ h => .inl h) (fun b hb => by have := s.fl b hb; simp; omega) ?_ (fun b hb => ?_) (.ptr (by omega) (upd_same κ _ _))
  · exact ⟨w.heap.size, v.cells, v, upd_same κ _ _, heap_alloc_new' w _, rfl, a, b, hp.push s _ hold (fun _ h => h)⟩
  · simp only [blk, upd_same, ptrBlock, Option.some.injEq] at hb
    subst hb
    exact ⟨Nat.le_refl _, by simp, fun hf => absurd (s.fl _ hf) (by omega)⟩

/-- Rows that have been made. -/
theorem newRow_sound {e k cap : Nat} {xs : List T} {cells : Array Value} (h0 : N0 ≤ st.heap.length) (s : SI F κ w st.heap) (ht : TR F κ w st tm)
    (hcap : xs.length ≤ cap) (hmax : cap ≤ maxLen) (hsz : cells.size = cap * k) (hb : xs.length ≤ big) (hx : ∀ x ∈ xs, x.cells.length = k ∧ (k = 1 → x.isAgg = false)) (h1 : ∀ c ∈ cells, c.oneCell' = true)
    (hr : ∀ (i : Nat) (x : T) (j : Nat) (y : T) (v : Value), xs[i]? = some x → x.cells[j]? = some y → cells[i * k + j]? = some v → Rd F w y v) :
    ∃ κ', Next' N0 F κ w st tm (.own st.heap.length) (.slice (some ⟨w.heap.size, 0, none⟩) xs.length cap) F κ' (w.alloc (.cells cells e)) ⟨st.tmps, st.heap ++ [.row e k xs]⟩ := by
  have hold : ∀ b, b < w.heap.size → (w.alloc (.cells cells e)).heap[b]? = w.heap[b]? := fun b hb => heap_alloc_old' w _ b hb
  refine ⟨upd κ st.heap.length (.slice (some ⟨w.heap.size, 0, none⟩) xs.length cap), Next'.push h0 s ht rfl rfl rfl (by simp) hold (fun _ h => h) (fun _ h => .inl h) (fun b hb => by have := s.fl b hb; simp; omega) ?_ (fun b hb => ?_) (.own (by omega) (upd_same κ _ _))⟩
  · have hle : xs.length * k ≤ cells.size := by rw [hsz]; exact Nat.mul_le_mul_right _ hcap
    refine ⟨cells.toList.take (xs.length * k), ?_, hb, hx, fun c hc => h1 c (by simpa using List.mem_of_mem_take hc), fun i x j y v hi hy hv => ?_⟩
    · rw [upd_same]
      exact ⟨by simp; omega, .inr ⟨w.heap.size, cap, cells, rfl, by omega, heap_alloc_new' w _, hcap, hmax, hsz, rfl⟩⟩
    · rw [List.getElem?_take] at hv
      split at hv
      · exact (hr i x j y v hi hy (by simpa using hv)).mono (fun _ h => h) (fun b hb => hold b (s.fl b hb))
      · cases hv
  · simp only [blk, upd_same, Value.ownBlock, Option.some.injEq] at hb
    subst hb
    exact ⟨Nat.le_refl _, by simp, fun hf => absurd (s.fl _ hf) (by omega)⟩

theorem zero_of {e : TypeId} {z : PV} (h : ((E.P.info? e).bind (·.zero)).bind (pvConst E.P e) = some z) : ∃ i zv, E.P.info? e = some i ∧ i.zero = some zv ∧ pvConst E.P e zv = some z := by
  cases h1 : E.P.info? e with
  | none => simp [h1] at h
  | some i =>
    cases h2 : i.zero with
    | none => simp [h1, h2] at h
    | some zv => exact ⟨i, zv, rfl, h2, by simpa [h1, h2] using h⟩

theorem makeSliceK_sound {t : TypeId} {p q : PV} {K : PV → St → Res β} {v u : Value} (h : makeSliceK E st t p q K ≠ .stuck) (h0 : N0 ≤ st.heap.length) (s : SI F κ w st.heap) (ht : TR F κ w st tm) (hp : RP F κ st.heap.length w p v) (hq : RP F κ st.heap.length w q u) :
    ∃ r x st' F' κ' w', makeSliceK E st t p q K = K r st' ∧ (Instr.makeSlice t v u).run E.P w = .ok x w' ∧ Next' N0 F κ w st tm r x F' κ' w' st' := by
  unfold makeSliceK at h ⊢
  cases he : elP E.P t with
  | none => simp [he] at h
  | some e =>
    cases hp with
    | @t n _ hn =>
      cases hq with
      | @t c _ hc =>
        simp only [he] at h ⊢
        cases hs : szP E.P e with
        | none => simp [hs] at h
        | some k =>
          cases k with
          | zero => simp [hs] at h
          | succ k =>
            cases hb : byP E.P e with
            | none => simp [hs, hb] at h
            | some b =>
              cases b with
              | zero => simp [hs, hb] at h
              | succ b =>
                cases hz : ((E.P.info? e).bind (·.zero)).bind (pvConst E.P e) with
                | none => simp [hs, hb, hz] at h
                | some z =>
                  simp only [hs, hb, hz] at h ⊢
                  obtain ⟨zt, g1, e1⟩ := someK_inv h
                  rw [e1] at h ⊢; clear e1
                  obtain ⟨nn, rfl, e1⟩ := iT_inv h
                  rw [e1] at h ⊢; clear e1
                  obtain ⟨cc, rfl, e1⟩ := iT_inv h
                  rw [e1] at h ⊢; clear e1
                  obtain ⟨g2, e1⟩ := chk_inv h
                  rw [e1] at h ⊢; clear e1
                  obtain ⟨g3, e1⟩ := chk_inv h
                  rw [e1] at h ⊢; clear e1
                  simp only [Bool.and_eq_true, decide_eq_true_eq] at g2 g3
                  obtain ⟨g2, g2'⟩ := g2
                  obtain ⟨⟨g4, g5⟩, g6⟩ := g3
                  cases hn
                  cases hc
                  obtain ⟨i, zv, i1, i2, i3⟩ := zero_of hz
                  have hsz : i.size = k + 1 := by simpa [szP, i1] using hs
                  have hby : i.bytes = b + 1 := by simpa [byP, i1] using hb
                  have hzs : zv.cells.size = k + 1 := by unfold zeroOk at g2; simpa [i1, i2] using g2
                  have hz0 : Rd F w zt zv := by
                    have s0 : SI F κ w [] := ⟨by simp, by simp, by simp, s.fl⟩
                    have h := pvConst_sound (F := F) (κ := κ) (N := 0) (w := w) i3
                    exact frz_sound (F' := F) s0 h (fun _ h => h) g1 (by simp)
                  obtain ⟨z1, z2, z3, z4, z5⟩ := okE_sound hz0 g2'
                  have hcb : cc.toNat ≤ big := Nat.le_trans (Nat.le_mul_of_pos_right _ (by omega)) g6
                  have hbig : big ≤ 281474976710656 := by decide
                  have hmax := big_max
                  have hrun := run_make (P := E.P) w t e i zv (elP_underlying he) i1 i2 .i64 .i64 nn cc g4 g5 (by rw [hby]; have : ((cc.toNat * (b + 1) : Nat) : Int) ≤ 281474976710656 := by omega
                                                                                                                  have e : (cc.toNat : Int) = cc := Int.toNat_of_nonneg (by omega)
                                                                                                                  rw [Int.natCast_mul, e] at this
                                                                                                                  rw [Int.mul_comm]; exact this) (by omega)
                  have hle : nn.toNat ≤ cc.toNat := by omega
                  have hnb : nn.toNat ≤ big := by omega
                  have hcell : ∀ m v, (madeCells zv.cells (cc.toNat * i.size))[m]? = some v → zv.cells[m % (k + 1)]? = some v := by
                    intro m v hv
                    have hm : m < cc.toNat * i.size := by have := (Array.getElem?_eq_some_iff.1 hv).1; simpa [madeCells] using this
                    have hmod : m % (k + 1) < zv.cells.size := by rw [hzs]; exact Nat.mod_lt _ (by omega)
                    rw [Array.getElem?_eq_getElem (by simpa [madeCells] using hm)] at hv
                    simp only [madeCells, Array.getElem_map, Array.getElem_range, Option.some.injEq, hzs] at hv
                    rw [← hv, getElem!_pos zv.cells _ hmod, Array.getElem?_eq_getElem hmod]
                  obtain ⟨κ', hnext⟩ := newRow_sound (e := e) (k := k + 1) (cap := cc.toNat) (xs := List.replicate nn.toNat zt) (cells := madeCells zv.cells (cc.toNat * i.size)) h0 s ht (by simpa using hle) (by omega) (by rw [size_madeCells, hsz]) (by simpa using hnb)
                    (fun x hx => by rw [(List.mem_replicate.1 hx).2]; exact ⟨z1, z2⟩)
                    (fun c hc => by
                      obtain ⟨m, hm, rfl⟩ := Array.getElem_of_mem hc
                      exact z4 _ (Array.mem_of_getElem? (hcell m _ (Array.getElem?_eq_getElem hm))))
                    (fun i' x j y v hx hy hv => by
                      have := (List.mem_replicate.1 (List.mem_of_getElem? hx)).2
                      subst this
                      have hj : j < k + 1 := by rw [← z1]; exact (List.getElem?_eq_some_iff.1 hy).1
                      have h2 := hcell _ v hv
                      rw [Nat.mul_comm, Nat.mul_add_mod, Nat.mod_eq_of_lt hj] at h2
                      exact z5 j y v hy h2)
                  rw [List.length_replicate] at hnext
                  exact ⟨_, _, _, F, κ', _, rfl, hrun, hnext⟩
      | _ => simp [he] at h
    | _ => simp [he] at h
end
end Go.Sim

/- Literals of structs, arrays, slices. -/
namespace Go.Sim
open Go.RowKit
set_option linter.unusedVariables false
set_option linter.unusedSimpArgs false

section
variable {β : Type} {E : Env} {st : St} {F : Nat → Prop} {κ : Nat → Value} {w : World} {N0 N : Nat} {tm : Array Value}

theorem fillK_sound {n : Nat} {place : Nat → Option (Nat × Nat)} {K : List PV → Res β} : ∀ {ps : List (Nat × PV)} {vs : List (Nat × Value)} {cs : List PV} {cells : Array Value}, fillK n place cs ps K ≠ .stuck →
    vs.length = ps.length → (∀ (i : Nat) (p : Nat × PV) (v : Nat × Value), ps[i]? = some p → vs[i]? = some v → p.1 = v.1 ∧ RP F κ N w p.2 v.2) →
    cs.length = n → cells.size = n → (∀ c ∈ cells, c.oneCell' = true) → (∀ (i : Nat) (p : PV) (c : Value), cs[i]? = some p → cells[i]? = some c → RP F κ N w p c) →
    ∃ cs' cells', fillK n place cs ps K = K cs' ∧ Instr.fill place cells vs = some cells' ∧ cs'.length = n ∧ cells'.size = n ∧ (∀ c ∈ cells', c.oneCell' = true) ∧
      (∀ (i : Nat) (p : PV) (c : Value), cs'[i]? = some p → cells'[i]? = some c → RP F κ N w p c)
  | [], vs, cs, cells, h, hl, hp, h1, h2, h3, h4 => by
    have : vs = [] := List.eq_nil_of_length_eq_zero hl
    subst this
    exact ⟨cs, cells, rfl, rfl, h1, h2, h3, h4⟩
  | (k, p) :: ps, [], cs, cells, h, hl, hp, h1, h2, h3, h4 => by simp at hl
  | (k, p) :: ps, (k', v) :: vs, cs, cells, h, hl, hp, h1, h2, h3, h4 => by
    obtain ⟨e0, hpv⟩ := hp 0 _ _ rfl rfl
    simp only at e0 hpv
    subst e0
    simp only [fillK] at h ⊢
    cases hpl : place k with
    | none => simp [hpl] at h
    | some os =>
      obtain ⟨o, s⟩ := os
      simp only [hpl] at h ⊢
      obtain ⟨g1, e1⟩ := cond_inv' h
      rw [e1] at h ⊢
      clear e1
      obtain ⟨g2, e1⟩ := chk_inv h
      rw [e1] at h ⊢
      clear e1
      have g1 : o + s ≤ n := by simpa using g1
      obtain ⟨u1, u2⟩ := okS_sound hpv g2
      obtain ⟨u3, u4⟩ := hpv.cells u1 u2
      obtain ⟨f1, f2⟩ := Great.foldl_set o v.cells.toList 0 cells
      have ecells : (v.cells.zipIdx.foldl (fun cs (x : Value × Nat) => cs.setIfInBounds (o + x.2) x.1) cells) = ((v.cells.toList.zipIdx 0).foldl (fun cs (x : Value × Nat) => cs.setIfInBounds (o + x.2) x.1) cells) := by
        rw [← Array.foldl_toList, Array.toList_zipIdx]
      generalize hnew : (v.cells.toList.zipIdx 0).foldl (fun cs (x : Value × Nat) => cs.setIfInBounds (o + x.2) x.1) cells = new at *
      have hget : ∀ i : Nat, new[i]? = if i < o then cells[i]? else if i < o + s then v.cells[i - o]? else cells[i]? := by
        intro i
        rw [f2 i]
        simp only [Nat.add_zero, Array.length_toList, u1]
        by_cases a : i < o
        · rw [if_neg (by omega), if_pos a]
        · rw [if_neg a]
          by_cases b : i < o + s
          · rw [if_pos (by omega), if_pos b]; simp
          · rw [if_neg (by omega), if_neg b]
      obtain ⟨cs', cells', r1, r2, r3, r4, r5, r6⟩ := fillK_sound (ps := ps) (vs := vs) (cs := cs.take o ++ p.cells s ++ cs.drop (o + s)) (cells := new) h (by simpa using hl) (fun i p v a b => hp (i + 1) p v (by simpa using a) (by simpa using b))
        (by rw [splice_len _ _ u3 (by omega)]; exact h1) (by rw [f1]; exact h2) (fun c hc => by
          obtain ⟨i, hi, rfl⟩ := Array.getElem_of_mem hc
          have := hget i
          rw [Array.getElem?_eq_getElem hi] at this
          split at this
          · exact h3 _ (Array.mem_of_getElem? this.symm)
          · split at this
            · exact u2 _ (Array.mem_of_getElem? this.symm)
            · exact h3 _ (Array.mem_of_getElem? this.symm))
        (fun i q c hq hc => by
          rw [splice_get _ _ u3 (by omega)] at hq
          rw [hget i] at hc
          split at hq
          · rename_i a; rw [if_pos a] at hc; exact h4 i q c hq hc
          · rename_i a
            rw [if_neg a] at hc
            split at hq
            · rename_i b; rw [if_pos b] at hc; exact u4 _ q c hq hc
            · rename_i b; rw [if_neg b] at hc; exact h4 i q c hq hc)
      refine ⟨cs', cells', r1, ?_, r3, r4, r5, r6⟩
      unfold Instr.fill
      simp only [hpl, u1]
      rw [if_neg (by simp; omega)]
      rw [← r2]
      congr 1

theorem buildK_sound {t : TypeId} {ps : List (Nat × PV)} {vs : Array (Nat × Value)} {K : PV → Res β} (h : buildK E t ps K ≠ .stuck) (hl : vs.toList.length = ps.length)
    (hp : ∀ (i : Nat) (p : Nat × PV) (v : Nat × Value), ps[i]? = some p → vs.toList[i]? = some v → p.1 = v.1 ∧ RP F κ N w p.2 v.2) :
    ∃ q u, buildK E t ps K = K q ∧ (Instr.build t vs).run E.P w = .ok u w ∧ RP F κ N w q u := by
  unfold buildK at h ⊢
  cases hs : szP E.P t with
  | none => simp [hs] at h
  | some n =>
    cases hz : ((E.P.info? t).bind (·.zero)).bind (pvConst E.P t) with
    | none => simp [hs, hz] at h
    | some z =>
      simp only [hs, hz] at h ⊢
      obtain ⟨place, hpl, e1⟩ := someK_inv h
      rw [e1] at h ⊢
      clear e1
      obtain ⟨g1, e1⟩ := chk_inv h
      rw [e1] at h ⊢
      clear e1
      obtain ⟨i, zv, i1, i2, i3⟩ := zero_of hz
      have hzr : RP F κ N w z zv := pvConst_sound i3
      obtain ⟨z1, z2⟩ := okS_sound hzr g1
      obtain ⟨z3, z4⟩ := hzr.cells z1 z2
      have fin : ∀ place : Nat → Option (Nat × Nat), fillK n place (z.cells n) ps (fun cs => K (mkAgg cs)) ≠ .stuck → (∀ cells, Instr.fill place zv.cells vs.toList = some cells → E.P.built t vs.toList = some cells) →
          ∃ q u, fillK n place (z.cells n) ps (fun cs => K (mkAgg cs)) = K q ∧ (Instr.build t vs).run E.P w = .ok u w ∧ RP F κ N w q u := by
        intro place hne hb
        obtain ⟨cs', cells', r1, r2, r3, r4, r5, r6⟩ := fillK_sound hne hl hp z3 z1 z2 z4
        refine ⟨_, _, r1, run_build w t vs cells' (hb _ r2), ?_⟩
        have := mkAgg_rp (κ := κ) (N := N) (w := w) (F := F) (cs := cs') (vs := cells'.toList) (by simp; omega) (by simpa using r5) (fun i p v a b => r6 i p v a (by simpa using b))
        simpa using this
      refine fin place h fun cells hc => ?_
      unfold placesP at hpl
      unfold Program.built
      cases hu : E.P.underlying t with
      | none => simp [hu] at hpl
      | some d =>
        cases d with
        | struct fs =>
          simp only [hu, Option.map_eq_some_iff] at hpl
          obtain ⟨places, e2, rfl⟩ := hpl
          simp only [i1, i2, e2]
          simpa using hc
        | array m e =>
          simp only [hu, Option.map_eq_some_iff] at hpl
          obtain ⟨ie, e2, rfl⟩ := hpl
          simp only [i1, i2, e2]
          exact hc
        | _ => simp [hu] at hpl

theorem frzs_sound {H : List AObj} (s : SI F κ w H) {F' : Nat → Prop} {ps : List PV} {vs : List Value} {xs : List T} (hp : ∀ (i : Nat) (p : PV) (v : Value), ps[i]? = some p → vs[i]? = some v → RP F κ H.length w p v) (hx : PV.frzs H ps = some xs) (a : ∀ b, F b → F' b)
    (hr : ∀ l ∈ PV.rowss ps, ∀ (e : TypeId) (k : Nat) (xs : List T) (b : Nat), H[l]? = some (.row e k xs) → (κ l).ownBlock = some b → F' b) :
    xs.length = ps.length ∧ ∀ (i : Nat) (x : T) (v : Value), xs[i]? = some x → vs[i]? = some v → Rd F' w x v := by
  obtain ⟨h1, h2⟩ := frzs_get hx
  refine ⟨h1, fun i x v g1 g2 => ?_⟩
  obtain ⟨p, h3, h4⟩ := h2 i x g1
  exact frz_sound s (hp i p v h3 g2) a h4 fun l hl => hr l (mem_rowss (List.mem_of_getElem? h3) hl)

theorem chkAll_inv {α : Type} {f : α → Bool} {r : Res β} : ∀ {xs : List α}, chkAll f xs r ≠ .stuck → (∀ x ∈ xs, f x = true) ∧ chkAll f xs r = r
  | [], h => ⟨by simp, rfl⟩
  | x :: xs, h => by
    simp only [chkAll] at h ⊢
    obtain ⟨h1, h2⟩ := chk_inv h
    rw [h2] at h ⊢
    obtain ⟨h3, h4⟩ := chkAll_inv h
    exact ⟨fun y hy => (List.mem_cons.1 hy).elim (fun e => e ▸ h1) (h3 y), h4⟩

theorem buildSliceK_sound {dr : Bool} {t : TypeId} {n : Nat} {ps : List (Nat × PV)} {vs : Array (Nat × Value)} {K : PV → St → Res β} (h : buildSliceK E dr st t n ps K ≠ .stuck) (h0 : N0 ≤ st.heap.length) (s : SI F κ w st.heap) (ht : TR F κ w st tm) (hl : vs.toList.length = ps.length)
    (hp : ∀ (i : Nat) (p : Nat × PV) (v : Nat × Value), ps[i]? = some p → vs.toList[i]? = some v → p.1 = v.1 ∧ RP F κ st.heap.length w p.2 v.2) :
    ∃ q u st' F' κ' w', buildSliceK E dr st t n ps K = K q st' ∧ (Instr.buildSlice t n vs).run E.P w = .ok u w' ∧ Next' N0 F κ w st tm q u F' κ' w' st' ∧ (dr = true → st' = st) := by
  unfold buildSliceK at h ⊢
  cases he : elP E.P t with
  | none => simp [he] at h
  | some e =>
    cases hs : szP E.P e with
    | none => simp [he, hs] at h
    | some k =>
      cases k with
      | zero => simp [he, hs] at h
      | succ k =>
        simp only [he, hs] at h ⊢
        obtain ⟨g1, e1⟩ := cond_inv h
        rw [e1] at h ⊢
        clear e1
        simp only [Bool.not_eq_false', Bool.and_eq_true, decide_eq_true_eq, beq_iff_eq] at g1
        obtain ⟨⟨g1, g2⟩, g3⟩ := g1
        obtain ⟨i, i1, i2⟩ := info_of_sz hs
        cases hz : i.zero with
        | none => unfold zeroOk at g2; simp [i1, hz] at g2
        | some zv =>
          have hzs : zv.cells.size = k + 1 := by unfold zeroOk at g2; simpa [i1, hz] using g2
          have hpn : ps.length = n := by have := congrArg List.length g3; simpa using this
          -- the values, in order
          have hparts : vs.toList = ((vs.toList.map (·.2)).zipIdx 0).map fun x => (x.2, x.1) := by
            apply List.ext_getElem
            · simp
            · intro j h1 h2
              have hj : j < ps.length := by omega
              have h4 := (hp j _ _ (List.getElem?_eq_getElem hj) (List.getElem?_eq_getElem h1)).1
              have h5 : (ps.map (·.1))[j]? = (List.range n)[j]? := by rw [g3]
              rw [List.getElem?_map, List.getElem?_eq_getElem hj, List.getElem?_range (by omega)] at h5
              simp only [Option.map_some, Option.some.injEq] at h5
              simp only [List.getElem_map, List.getElem_zipIdx, Nat.zero_add]
              rw [h5] at h4
              exact Prod.ext h4.symm rfl
          have hvl : (vs.toList.map (·.2)).length = n := by simp; simpa [hpn] using hl
          have hrun : (∀ v ∈ vs.toList.map (·.2), v.cells.size = k + 1) → (Instr.buildSlice t n vs).run E.P w = .ok (.slice (some ⟨w.heap.size, 0, none⟩) n n) (w.alloc (.cells ((vs.toList.map (·.2)).flatMap fun v => v.cells.toList).toArray e)) := by
            intro hsz
            rcases Nat.eq_zero_or_pos n with e0 | e0
            · subst e0
              have : vs = #[] := by
                have : vs.toList.length = 0 := by simpa using hvl
                apply Array.ext'; exact List.eq_nil_of_length_eq_zero this
              subst this
              simp [Instr.buildSlice, run_underlying (elP_underlying he), run_sizeOf' hs, Instr.fill, newRow, Array.range_zero']
            · have hf := Great.fill_whole (s := k + 1) (by omega) (vs.toList.map (·.2)) ((Array.range (n * i.size)).map (zv.cells[· % zv.cells.size]!)) hsz (by rw [hvl, i2]; simp)
              rw [← hparts, ← i2] at hf
              exact run_buildSlice w t e n vs _ i zv (elP_underlying he) i1 hz (by rw [i2]; omega) (by rw [i2]; exact Nat.ne_of_gt (Nat.mul_pos e0 (by omega))) hf
          have hp2 : ∀ (i : Nat) (p : PV) (v : Value), (ps.map (·.2))[i]? = some p → (vs.toList.map (·.2))[i]? = some v → RP F κ st.heap.length w p v := by
            intro i p v a b
            rw [List.getElem?_map, Option.map_eq_some_iff] at a b
            obtain ⟨p', a, rfl⟩ := a
            obtain ⟨v', b, rfl⟩ := b
            exact (hp i p' v' a b).2
          have hlen : ((vs.toList.map (·.2)).flatMap fun v => v.cells.toList).length = n * (k + 1) ∨ True := .inr trivial
          cases hfr : PV.frzs st.heap (ps.map (·.2)) with
          | some xs =>
            simp only [hfr] at h ⊢
            obtain ⟨g4, e1⟩ := cond_inv h
            rw [e1] at h ⊢
            clear e1
            obtain ⟨g5, e1⟩ := chkAll_inv h
            rw [e1] at h ⊢
            clear e1
            obtain ⟨F', s', a1, a2, a3, a4, a5, a6⟩ := freeze_sound (PV.rowss (ps.map (·.2))) s
            obtain ⟨x1, x2⟩ := frzs_sound s hp2 hfr a1 a4
            have hxl : xs.length = n := by rw [x1]; simpa using hpn
            have hsz : ∀ v ∈ vs.toList.map (·.2), v.cells.size = k + 1 := by
              intro v hv
              obtain ⟨j, hj, rfl⟩ := List.getElem_of_mem hv
              have hjx : j < xs.length := by omega
              exact (okE_sound (x2 j _ _ (List.getElem?_eq_getElem hjx) (List.getElem?_eq_getElem hj)) (g5 _ (List.getElem_mem hjx))).2.2.1
            have hcell : ∀ m, ((vs.toList.map (·.2)).flatMap fun v => v.cells.toList)[m]? = ((vs.toList.map (·.2))[m / (k + 1)]?).bind fun v => v.cells[m % (k + 1)]? := fun m => Great.flat_get (by omega) _ hsz m
            have hflen : ((vs.toList.map (·.2)).flatMap fun v => v.cells.toList).length = n * (k + 1) := by
              have : ∀ (l : List Value), (∀ v ∈ l, v.cells.size = k + 1) → (l.flatMap fun v => v.cells.toList).length = l.length * (k + 1) := by
                intro l
                induction l with
                | nil => simp
                | cons v l ih => intro h; rw [List.flatMap_cons, List.length_append, ih (fun u hu => h u (List.mem_cons_of_mem _ hu)), Array.length_toList, h v List.mem_cons_self, List.length_cons, Nat.succ_mul]; omega
              rw [this _ hsz, hvl]
            have hbig : n ≤ big := by
              have : n ≤ n * (k + 1) := Nat.le_mul_of_pos_right _ (by omega)
              have : (1024 : Nat) ≤ big := by decide
              omega
            have hmax := big_max
            have hone : ∀ c ∈ ((vs.toList.map (·.2)).flatMap fun v => v.cells.toList).toArray, c.oneCell' = true := by
              intro c hc
              simp only [List.mem_toArray, List.mem_flatMap] at hc
              obtain ⟨v, hv, hc⟩ := hc
              obtain ⟨j, hj, rfl⟩ := List.getElem_of_mem hv
              have hjx : j < xs.length := by omega
              exact (okE_sound (x2 j _ _ (List.getElem?_eq_getElem hjx) (List.getElem?_eq_getElem hj)) (g5 _ (List.getElem_mem hjx))).2.2.2.1 c (by simpa using hc)
            have hel : ∀ x ∈ xs, x.cells.length = k + 1 ∧ (k + 1 = 1 → x.isAgg = false) := by
              intro x hx
              obtain ⟨j, hj, rfl⟩ := List.getElem_of_mem hx
              have hjx : j < (vs.toList.map (·.2)).length := by omega
              have := okE_sound (x2 j _ _ (List.getElem?_eq_getElem hj) (List.getElem?_eq_getElem hjx)) (g5 _ (List.getElem_mem hj))
              exact ⟨this.1, this.2.1⟩
            have hrd : ∀ (i : Nat) (x : T) (j : Nat) (y : T) (v : Value), xs[i]? = some x → x.cells[j]? = some y → ((vs.toList.map (·.2)).flatMap fun v => v.cells.toList).toArray[i * (k + 1) + j]? = some v → Rd F' w y v := by
              intro i x j y v hx hy hv
              have hj : j < k + 1 := by rw [← (hel x (List.mem_of_getElem? hx)).1]; exact (List.getElem?_eq_some_iff.1 hy).1
              have hi : i < (vs.toList.map (·.2)).length := by have := (List.getElem?_eq_some_iff.1 hx).1; omega
              rw [List.getElem?_toArray, hcell, Nat.mul_comm i, Nat.mul_add_div (by omega), Nat.mul_add_mod, Nat.div_eq_of_lt hj, Nat.mod_eq_of_lt hj, Nat.add_zero, List.getElem?_eq_getElem hi] at hv
              exact (okE_sound (x2 i x _ hx (List.getElem?_eq_getElem hi)) (g5 x (List.mem_of_getElem? hx))).2.2.2.2 j y v hy hv
            cases dr with
            | false =>
              simp only [cond_false] at h ⊢
              have ht' : TR F' κ w ⟨st.tmps, freezeRows (PV.rowss (ps.map (·.2))) st.heap⟩ tm := fun i q v c d => by simpa [freezeRows_length] using (ht i q v c d).freeze a1
              obtain ⟨κ', hn⟩ := newRow_sound (st := ⟨st.tmps, freezeRows (PV.rowss (ps.map (·.2))) st.heap⟩) (N0 := N0) (e := e) (k := k + 1) (cap := n) (xs := xs) (cells := ((vs.toList.map (·.2)).flatMap fun v => v.cells.toList).toArray) (by simpa [freezeRows_length] using h0) s' ht' (by omega) (by omega) (by simpa using hflen) (by omega) hel hone hrd
              have hev : Ev N0 F κ w st.heap F' κ w (freezeRows (PV.rowss (ps.map (·.2))) st.heap) := Ev.freeze _ h0 a1 a2 a3 a5
              rw [hxl] at hn
              refine ⟨_, _, _, F', κ', _, rfl, hrun hsz, ⟨hn.si, hev.trans hn.ev, ?_, hn.tl, hn.tr⟩, by simp⟩
              simpa [freezeRows_length] using hn.rp
            | true =>
              simp only [cond_true] at h ⊢
              have hnr : PV.rowss (ps.map (·.2)) = [] := by simpa using g4
              -- frozen at once, in a fresh block
              have x2' : ∀ (i : Nat) (x : T) (v : Value), xs[i]? = some x → (vs.toList.map (·.2))[i]? = some v → Rd F w x v := (frzs_sound s hp2 hfr (fun _ h => h) (by rw [hnr]; simp)).2
              have hold : ∀ b, b < w.heap.size → (w.alloc (.cells ((vs.toList.map (·.2)).flatMap fun v => v.cells.toList).toArray e)).heap[b]? = w.heap[b]? := fun b hb => heap_alloc_old' w _ b hb
              have hrd' : Rd (fun b => F b ∨ b = w.heap.size) (w.alloc (.cells ((vs.toList.map (·.2)).flatMap fun v => v.cells.toList).toArray e)) (.sl (k + 1) xs) (.slice (some ⟨w.heap.size, 0, none⟩) xs.length n) := by
                refine .sl w.heap.size 0 (fun i j => ((vs.toList.map (·.2)).flatMap fun v => v.cells.toList).getD (i * (k + 1) + j) undef) (by omega) (by omega) hel (fun _ => ⟨rfl, .inr rfl⟩) (fun i j hi hj => ?_) (fun i j hi hj => ?_) (fun i x j y hx hy => ?_)
                all_goals
                  have hlt : ∀ i j, i < xs.length → j < k + 1 → i * (k + 1) + j < ((vs.toList.map (·.2)).flatMap fun v => v.cells.toList).length := fun i j hi hj => by
                    rw [hflen]
                    calc i * (k + 1) + j < i * (k + 1) + (k + 1) := by omega
                      _ = (i + 1) * (k + 1) := by rw [Nat.succ_mul]
                      _ ≤ n * (k + 1) := Nat.mul_le_mul_right _ (by omega)
                · show (List.getD _ _ undef).oneCell' = true
                  rw [List.getD_eq_getElem?_getD, List.getElem?_eq_getElem (hlt i j hi hj)]
                  exact hone _ (by simp)
                · show World.cell? _ _ = some (List.getD _ _ undef)
                  rw [List.getD_eq_getElem?_getD, List.getElem?_eq_getElem (hlt i j hi hj)]
                  simp only [World.cell?, heap_alloc_new', Nat.zero_add, List.getElem?_toArray, List.getElem?_eq_getElem (hlt i j hi hj), Option.getD_some, Option.isSome_none, Bool.false_eq_true, if_false]
                · have hi : i < xs.length := (List.getElem?_eq_some_iff.1 hx).1
                  have hj : j < k + 1 := by rw [← (hel x (List.mem_of_getElem? hx)).1]; exact (List.getElem?_eq_some_iff.1 hy).1
                  have hiv : i < (vs.toList.map (·.2)).length := by omega
                  have hg : ((vs.toList.map (·.2)).flatMap fun v => v.cells.toList)[i * (k + 1) + j]? = some (((vs.toList.map (·.2)).flatMap fun v => v.cells.toList).getD (i * (k + 1) + j) undef) := by
                    rw [List.getD_eq_getElem?_getD, List.getElem?_eq_getElem (hlt i j hi hj)]; rfl
                  show Rd _ _ y (List.getD _ _ undef)
                  generalize hvv : (((vs.toList.map (·.2)).flatMap fun v => v.cells.toList).getD (i * (k + 1) + j) undef) = vv at *
                  rw [hcell, Nat.mul_comm i, Nat.mul_add_div (by omega), Nat.mul_add_mod, Nat.div_eq_of_lt hj, Nat.mod_eq_of_lt hj, Nat.add_zero, List.getElem?_eq_getElem hiv] at hg
                  exact ((okE_sound (x2' i x _ hx (List.getElem?_eq_getElem hiv)) (g5 x (List.mem_of_getElem? hx))).2.2.2.2 j y vv hy hg).mono (fun _ h => .inl h) (fun b hb => hold b (s.fl b hb))
              have hrun' := hrun hsz
              rw [← hxl] at hrun' hrd'
              refine ⟨_, _, _, fun b => F b ∨ b = w.heap.size, κ, w.alloc (.cells ((vs.toList.map (·.2)).flatMap fun v => v.cells.toList).toArray e), rfl, by rw [← hxl]; exact hrun', Next'.fresh h0 s ht rfl rfl rfl (by simp) hold (fun _ h => .inl h) (fun b h => h.imp id (by omega)) (fun b h => ?_) (.full hrd'), fun _ => rfl⟩
              rcases h with h | rfl
              · have := s.fl b h; simp; omega
              · simp
          | none =>
            simp only [hfr] at h ⊢
            obtain ⟨g4, e1⟩ := cond_inv' h
            rw [e1] at h ⊢
            clear e1
            simp only [Bool.and_eq_true, beq_iff_eq, Bool.not_eq_true'] at g4
            obtain ⟨rfl, rfl⟩ := g4
            obtain ⟨g5, e1⟩ := chkAll_inv h
            rw [e1] at h ⊢
            clear e1
            have hone : ∀ (j : Nat) (p : PV) (v : Value), (ps.map (·.2))[j]? = some p → (vs.toList.map (·.2))[j]? = some v → v.oneCell' = true := by
              intro j p v a b
              have g := g5 p (List.mem_of_getElem? a)
              simp only [Bool.and_eq_true, Bool.not_eq_true'] at g
              obtain ⟨⟨g6, g7⟩, g8⟩ := g
              have hr := hp2 j p v a b
              obtain ⟨o1, o2⟩ := okS_sound hr g6
              cases v with
              | agg us =>
                exfalso
                cases hr with
                | t h => cases h; simp [T.isAgg] at g8
                | agg => simp at g7
                | junk => simp [PV.okS] at g6
              | tuple us => have := o2 (.tuple us) (by simp [Value.cells]); simp [Value.oneCell'] at this
              | _ => rfl
            have hcs : ∀ v ∈ vs.toList.map (·.2), v.cells = #[v] := by
              intro v hv
              obtain ⟨j, hj, rfl⟩ := List.getElem_of_mem hv
              have hjp : j < (ps.map (·.2)).length := by simp; simp at hj; omega
              exact cells_one (hone j _ _ (List.getElem?_eq_getElem hjp) (List.getElem?_eq_getElem hj))
            have hflat : ((vs.toList.map (·.2)).flatMap fun v => v.cells.toList) = vs.toList.map (·.2) := by
              have : ∀ (l : List Value), (∀ v ∈ l, v.cells = #[v]) → (l.flatMap fun v => v.cells.toList) = l := by
                intro l
                induction l with
                | nil => simp
                | cons v l ih => intro h; rw [List.flatMap_cons, ih (fun u hu => h u (List.mem_cons_of_mem _ hu)), h v List.mem_cons_self]; rfl
              exact this _ hcs
            have hrun' := hrun (fun v hv => by rw [hcs v hv]; rfl)
            rw [hflat] at hrun'
            have hold : ∀ b, b < w.heap.size → (w.alloc (.cells (vs.toList.map (·.2)).toArray e)).heap[b]? = w.heap[b]? := fun b hb => heap_alloc_old' w _ b hb
            refine ⟨_, _, _, F, upd κ st.heap.length (.slice (some ⟨w.heap.size, 0, none⟩) n n), _, rfl, hrun', Next'.push h0 s ht rfl rfl rfl (by simp) hold (fun _ h => h) (fun _ h => .inl h) (fun b hb => by have := s.fl b hb; simp; omega) ?_ (fun b hb => ?_) (.own (by omega) (upd_same κ _ _)), by simp⟩
            · have hel : (ps.map (·.2)).length = n := by simpa using hpn
              have hmax := big_max
              have hbig : n ≤ big := by
                have : (1024 : Nat) ≤ big := by decide
                omega
              refine ⟨vs.toList.map (·.2), ?_, by omega, by omega, fun c hc => ?_, fun i p v a b => ?_⟩
              · rw [upd_same, hel]
                exact ⟨by rw [hvl]; omega, .inr ⟨w.heap.size, n, (vs.toList.map (·.2)).toArray, rfl, by omega, heap_alloc_new' w _, Nat.le_refl _, by omega, by simpa using hvl, by rw [List.take_of_length_le (by simp; simp at hvl; omega)]⟩⟩
              · obtain ⟨j, hj, rfl⟩ := List.getElem_of_mem hc
                have hjp : j < (ps.map (·.2)).length := by simp; simp at hj; omega
                exact hone j _ _ (List.getElem?_eq_getElem hjp) (List.getElem?_eq_getElem hj)
              · exact (hp2 i p v a b).push s _ hold (fun _ h => h)
            · simp only [blk, upd_same, Value.ownBlock, Option.some.injEq] at hb
              subst hb
              exact ⟨Nat.le_refl _, by simp, fun hf => absurd (s.fl _ hf) (by omega)⟩
end
end Go.Sim

/- The passing style is natural: what is done with the end may be done behind. -/
namespace Go.Sim
open Go.RowKit
set_option linter.unusedVariables false
set_option linter.unusedSimpArgs false
set_option linter.unusedSectionVars false

structure Strict {β γ : Type} (g : Res β → Res γ) : Prop where
  stuck : g .stuck = .stuck
  absurd : g .absurd = .absurd
theorem Strict.bind {β γ : Type} (k : β → Res γ) : Strict (fun r : Res β => r.bind k) := ⟨rfl, rfl⟩

section
variable {β γ α : Type} {g : Res β → Res γ} (hg : Strict g)
include hg

theorem nat_bind (r : Res α) (k : α → Res β) : g (r.bind k) = r.bind fun a => g (k a) := by cases r <;> simp [hg.stuck, hg.absurd]
theorem nat_cond (b : Bool) (x y : Res β) : g (bif b then x else y) = bif b then g x else g y := by cases b <;> rfl
theorem nat_ite (c : Prop) [Decidable c] (x y : Res β) : g (if c then x else y) = if c then g x else g y := by split <;> rfl
theorem nat_someK (o : Option α) (K : α → Res β) : g (someK o K) = someK o fun a => g (K a) := by cases o <;> simp [someK, hg.stuck]
theorem nat_chk (b : Bool) (r : Res β) : g (chk b r) = chk b (g r) := by cases b <;> simp [chk, hg.stuck]
theorem nat_bT (x : T) (K : Bool → Res β) : g (bT x K) = bT x fun b => g (K b) := by cases x <;> simp [bT, hg.stuck]
theorem nat_iT (k : IntKind) (x : T) (K : Int → Res β) : g (iT k x K) = iT k x fun b => g (K b) := by cases x <;> simp [iT, hg.stuck]; split <;> simp [hg.stuck]
theorem nat_anyT (x : T) (K : Int → Res β) : g (anyT x K) = anyT x fun b => g (K b) := by cases x <;> simp [anyT, hg.stuck]
theorem nat_slT (k : Nat) (x : T) (K : List T → Res β) : g (slT k x K) = slT k x fun b => g (K b) := by cases x <;> simp [slT, hg.stuck]; split <;> simp [hg.stuck]
theorem nat_strT (x : T) (K : ByteArray → Res β) : g (strT x K) = strT x fun b => g (K b) := by cases x <;> simp [strT, hg.stuck]
theorem nat_lenT (x : T) (K : Int → Res β) : g (lenT x K) = lenT x fun b => g (K b) := by cases x <;> simp [lenT, hg.stuck]
theorem nat_sllT (x : T) (K : Int → Res β) : g (sllT x K) = sllT x fun b => g (K b) := by cases x <;> simp [sllT, hg.stuck]
theorem nat_refT (x : T) (K : Nat → T → Res β) : g (refT x K) = refT x fun n b => g (K n b) := by cases x <;> simp [refT, hg.stuck]
theorem nat_compT (x : T) (i : Nat) (K : T → Res β) : g (compT x i K) = compT x i fun b => g (K b) := by cases x <;> simp [compT, hg.stuck]; split <;> simp [hg.stuck]
theorem nat_atT (xs : List T) (i : Int) (K : T → Res β) : g (atT xs i K) = atT xs i fun b => g (K b) := by unfold atT; split; split; all_goals simp [hg.stuck]
theorem nat_chkAll (f : α → Bool) (r : Res β) : ∀ (xs : List α), g (chkAll f xs r) = chkAll f xs (g r)
  | [] => rfl
  | x :: xs => by simp only [chkAll]; rw [nat_chk hg, nat_chkAll f r xs]
theorem nat_ptrT (x : T) (K : T → Res β) : g (ptrT x .stuck K) = ptrT x .stuck fun b => g (K b) := by cases x <;> simp [ptrT, hg.stuck]
theorem nat_eqT (l : List Nat) (x y : T) (K : Bool → Res β) : g (eqT l x y K) = eqT l x y fun b => g (K b) := by unfold eqT; split <;> simp [hg.stuck]

variable {E : Env} {st : St}
theorem nat_loadK (t : TypeId) (p : PV) (K : PV → Res β) : g (loadK E st t p K) = loadK E st t p fun b => g (K b) := by unfold loadK; repeat' (first | rfl | exact Strict.stuck hg | exact Strict.absurd hg | simp only [nat_cond hg, nat_ite hg, nat_chk hg, nat_someK hg, nat_bT hg, nat_iT hg, nat_anyT hg, nat_slT hg, nat_strT hg, nat_lenT hg, nat_sllT hg, nat_refT hg, nat_compT hg, nat_atT hg, nat_chkAll hg, nat_ptrT hg, nat_eqT hg, nat_bind hg, Strict.stuck hg, Strict.absurd hg] | split | (congr 1; funext _))
theorem nat_storeK (t : TypeId) (p v : PV) (K : St → Res β) : g (storeK E st t p v K) = storeK E st t p v fun b => g (K b) := by unfold storeK; repeat' (first | rfl | exact Strict.stuck hg | exact Strict.absurd hg | simp only [nat_cond hg, nat_ite hg, nat_chk hg, nat_someK hg, nat_bT hg, nat_iT hg, nat_anyT hg, nat_slT hg, nat_strT hg, nat_lenT hg, nat_sllT hg, nat_refT hg, nat_compT hg, nat_atT hg, nat_chkAll hg, nat_ptrT hg, nat_eqT hg, nat_bind hg, Strict.stuck hg, Strict.absurd hg] | split | (congr 1; funext _))
theorem nat_elemsK (k : Nat) (p : PV) (K : List T → Res β) : g (elemsK st k p K) = elemsK st k p fun b => g (K b) := by unfold elemsK; repeat' (first | rfl | exact Strict.stuck hg | exact Strict.absurd hg | simp only [nat_cond hg, nat_ite hg, nat_chk hg, nat_someK hg, nat_bT hg, nat_iT hg, nat_anyT hg, nat_slT hg, nat_strT hg, nat_lenT hg, nat_sllT hg, nat_refT hg, nat_compT hg, nat_atT hg, nat_chkAll hg, nat_ptrT hg, nat_eqT hg, nat_bind hg, Strict.stuck hg, Strict.absurd hg] | split | (congr 1; funext _))
theorem nat_indexK (t : TypeId) (p ix : PV) (K : PV → Res β) : g (indexK E st t p ix K) = indexK E st t p ix fun b => g (K b) := by unfold indexK; repeat' (first | rfl | exact Strict.stuck hg | exact Strict.absurd hg | simp only [nat_cond hg, nat_ite hg, nat_chk hg, nat_someK hg, nat_bT hg, nat_iT hg, nat_anyT hg, nat_slT hg, nat_strT hg, nat_lenT hg, nat_sllT hg, nat_refT hg, nat_compT hg, nat_atT hg, nat_chkAll hg, nat_ptrT hg, nat_eqT hg, nat_bind hg, Strict.stuck hg, Strict.absurd hg] | split | (congr 1; funext _))
theorem nat_fieldAddrK (t : TypeId) (f : Nat) (p : PV) (K : PV → Res β) : g (fieldAddrK E t f p K) = fieldAddrK E t f p fun b => g (K b) := by unfold fieldAddrK; repeat' (first | rfl | exact Strict.stuck hg | exact Strict.absurd hg | simp only [nat_cond hg, nat_ite hg, nat_chk hg, nat_someK hg, nat_bT hg, nat_iT hg, nat_anyT hg, nat_slT hg, nat_strT hg, nat_lenT hg, nat_sllT hg, nat_refT hg, nat_compT hg, nat_atT hg, nat_chkAll hg, nat_ptrT hg, nat_eqT hg, nat_bind hg, Strict.stuck hg, Strict.absurd hg] | split | (congr 1; funext _))
theorem nat_arithK (op : BinOp) (k : IntKind) (a b : Int) (K : T → Res β) : g (arithK op k a b K) = arithK op k a b fun x => g (K x) := by cases op <;> simp only [arithK, nat_chk hg, hg.stuck]
theorem nat_shiftK (op : BinOp) (k : IntKind) (a b : Int) (K : T → Res β) : g (shiftK op k a b K) = shiftK op k a b fun x => g (K x) := by cases op <;> simp only [shiftK, nat_chk hg, hg.stuck]
theorem nat_nilT (k : Nat) (x : T) (K : Bool → Res β) : g (nilT k x K) = nilT k x fun b => g (K b) := by unfold nilT; repeat' (first | rfl | exact Strict.stuck hg | exact Strict.absurd hg | simp only [nat_cond hg, nat_ite hg, nat_chk hg, nat_someK hg, nat_bT hg, nat_iT hg, nat_anyT hg, nat_slT hg, nat_strT hg, nat_lenT hg, nat_sllT hg, nat_refT hg, nat_compT hg, nat_atT hg, nat_chkAll hg, nat_ptrT hg, nat_eqT hg, nat_bind hg, Strict.stuck hg, Strict.absurd hg] | split | (congr 1; funext _))
theorem nat_nilK (k : Nat) (p : PV) (K : Bool → Res β) : g (nilK k p K) = nilK k p fun b => g (K b) := by unfold nilK; cases p <;> simp only [nat_cond hg, nat_nilT hg, hg.stuck]
theorem nat_eqK (t : TypeId) (x y : Operand) (px py : PV) (K : Bool → Res β) : g (eqK E t x y px py K) = eqK E t x y px py fun b => g (K b) := by
  unfold eqK; split
  · simp only [nat_cond hg, nat_nilK hg, hg.stuck]
  · repeat' (first | rfl | exact Strict.stuck hg | exact Strict.absurd hg | simp only [nat_cond hg, nat_ite hg, nat_chk hg, nat_someK hg, nat_bT hg, nat_iT hg, nat_anyT hg, nat_slT hg, nat_strT hg, nat_lenT hg, nat_sllT hg, nat_refT hg, nat_compT hg, nat_atT hg, nat_chkAll hg, nat_ptrT hg, nat_eqT hg, nat_bind hg, Strict.stuck hg, Strict.absurd hg] | split | (congr 1; funext _))
theorem nat_binK (op : BinOp) (t t' : TypeId) (x y : Operand) (px py : PV) (K : PV → Res β) : g (binK E op t t' x y px py K) = binK E op t t' x y px py fun b => g (K b) := by
  unfold binK; split
  · split
    · split
      · split <;> simp only [nat_iT hg, nat_shiftK hg, hg.stuck]
      · exact hg.stuck
    · split
      · split <;> simp only [nat_iT hg, nat_shiftK hg, hg.stuck]
      · exact hg.stuck
    · split <;> simp only [nat_iT hg, nat_arithK hg, hg.stuck]
  · split <;> simp only [nat_eqK hg, hg.stuck]
theorem nat_unK (op : UnOp) (t : TypeId) (px : PV) (K : PV → Res β) : g (unK E op t px K) = unK E op t px fun b => g (K b) := by unfold unK; repeat' (first | rfl | exact Strict.stuck hg | exact Strict.absurd hg | simp only [nat_cond hg, nat_ite hg, nat_chk hg, nat_someK hg, nat_bT hg, nat_iT hg, nat_anyT hg, nat_slT hg, nat_strT hg, nat_lenT hg, nat_sllT hg, nat_refT hg, nat_compT hg, nat_atT hg, nat_chkAll hg, nat_ptrT hg, nat_eqT hg, nat_bind hg, Strict.stuck hg, Strict.absurd hg] | split | (congr 1; funext _))
theorem nat_convK (s d : TypeId) (px : PV) (K : PV → Res β) : g (convK E s d px K) = convK E s d px fun b => g (K b) := by unfold convK; repeat' (first | rfl | exact Strict.stuck hg | exact Strict.absurd hg | simp only [nat_cond hg, nat_ite hg, nat_chk hg, nat_someK hg, nat_bT hg, nat_iT hg, nat_anyT hg, nat_slT hg, nat_strT hg, nat_lenT hg, nat_sllT hg, nat_refT hg, nat_compT hg, nat_atT hg, nat_chkAll hg, nat_ptrT hg, nat_eqT hg, nat_bind hg, Strict.stuck hg, Strict.absurd hg] | split | (congr 1; funext _))
theorem nat_partK (s : Nat) (a : Bool) (n o : Nat) (p : PV) (K : PV → Res β) : g (partK s a n o p K) = partK s a n o p fun b => g (K b) := by unfold partK; repeat' (first | rfl | exact Strict.stuck hg | exact Strict.absurd hg | simp only [nat_cond hg, nat_ite hg, nat_chk hg, nat_someK hg, nat_bT hg, nat_iT hg, nat_anyT hg, nat_slT hg, nat_strT hg, nat_lenT hg, nat_sllT hg, nat_refT hg, nat_compT hg, nat_atT hg, nat_chkAll hg, nat_ptrT hg, nat_eqT hg, nat_bind hg, Strict.stuck hg, Strict.absurd hg] | split | (congr 1; funext _))
theorem nat_arrK (t : TypeId) (p i : PV) (K : PV → Res β) : g (arrK E t p i K) = arrK E t p i fun b => g (K b) := by
  unfold arrK; split
  · split
    · simp only [nat_anyT hg, nat_chk hg, nat_partK hg]
    · exact hg.stuck
  · split
    · simp only [nat_strT hg, nat_anyT hg, nat_chk hg, nat_someK hg]
    · exact hg.stuck
  · exact hg.stuck
theorem nat_fldK (t : TypeId) (f : Nat) (p : PV) (K : PV → Res β) : g (fldK E t f p K) = fldK E t f p fun b => g (K b) := by
  unfold fldK; split
  · split
    · simp only [nat_partK hg]
    · exact hg.stuck
  · exact hg.stuck
theorem nat_boundK (n d : Nat) (p : Option PV) (K : Nat → Res β) : g (boundK n d p K) = boundK n d p fun b => g (K b) := by unfold boundK; repeat' (first | rfl | exact Strict.stuck hg | exact Strict.absurd hg | simp only [nat_cond hg, nat_ite hg, nat_chk hg, nat_someK hg, nat_bT hg, nat_iT hg, nat_anyT hg, nat_slT hg, nat_strT hg, nat_lenT hg, nat_sllT hg, nat_refT hg, nat_compT hg, nat_atT hg, nat_chkAll hg, nat_ptrT hg, nat_eqT hg, nat_bind hg, Strict.stuck hg, Strict.absurd hg] | split | (congr 1; funext _))
theorem nat_sliceK (dr : Bool) (t : TypeId) (p : PV) (lo hi mx : Option PV) (K : PV → St → Res β) : g (sliceK E dr st t p lo hi mx K) = sliceK E dr st t p lo hi mx fun b s => g (K b s) := by
  unfold sliceK; split
  · split
    · simp only [nat_strT hg, nat_boundK hg]
    · exact hg.stuck
  · split
    · exact hg.stuck
    · split
      · simp only [nat_cond hg, hg.stuck]
        congr 1
        split <;> simp only [nat_boundK hg, nat_cond hg, hg.stuck]
      · simp only [nat_elemsK hg, nat_cond hg, hg.stuck]
        congr 1; congr 1; funext xs
        split <;> simp only [nat_boundK hg, nat_cond hg, hg.stuck]
  · exact hg.stuck
theorem nat_appendK (t t' : TypeId) (s x : PV) (K : PV → St → Res β) : g (appendK E st t t' s x K) = appendK E st t t' s x fun b s => g (K b s) := by
  unfold appendK; split
  · split
    · simp only [nat_cond hg, nat_elemsK hg, hg.stuck]
      congr 1; congr 1; funext ys
      repeat' (first | rfl | exact Strict.stuck hg | exact Strict.absurd hg | simp only [nat_cond hg, nat_ite hg, nat_chk hg, nat_someK hg, nat_bT hg, nat_iT hg, nat_anyT hg, nat_slT hg, nat_strT hg, nat_lenT hg, nat_sllT hg, nat_refT hg, nat_compT hg, nat_atT hg, nat_chkAll hg, nat_ptrT hg, nat_eqT hg, nat_bind hg, Strict.stuck hg, Strict.absurd hg] | split | (congr 1; funext _))
    · exact hg.stuck
  · exact hg.stuck
theorem nat_clearK (t : TypeId) (p : PV) (K : St → Res β) : g (clearK E st t p K) = clearK E st t p fun s => g (K s) := by
  unfold clearK; repeat' (first | rfl | exact Strict.stuck hg | exact Strict.absurd hg | simp only [nat_cond hg, nat_ite hg, nat_chk hg, nat_someK hg, nat_bT hg, nat_iT hg, nat_anyT hg, nat_slT hg, nat_strT hg, nat_lenT hg, nat_sllT hg, nat_refT hg, nat_compT hg, nat_atT hg, nat_chkAll hg, nat_ptrT hg, nat_eqT hg, nat_bind hg, Strict.stuck hg, Strict.absurd hg] | split | (congr 1; funext _))
theorem nat_copyK (t t' : TypeId) (p x : PV) (K : PV → St → Res β) : g (copyK E st t t' p x K) = copyK E st t t' p x fun b s => g (K b s) := by
  unfold copyK; split
  · split
    · simp only [nat_cond hg, nat_elemsK hg, hg.stuck]
      congr 1; congr 1; funext ys
      repeat' (first | rfl | exact Strict.stuck hg | exact Strict.absurd hg | simp only [nat_cond hg, nat_ite hg, nat_chk hg, nat_someK hg, nat_bT hg, nat_iT hg, nat_anyT hg, nat_slT hg, nat_strT hg, nat_lenT hg, nat_sllT hg, nat_refT hg, nat_compT hg, nat_atT hg, nat_chkAll hg, nat_ptrT hg, nat_eqT hg, nat_bind hg, Strict.stuck hg, Strict.absurd hg] | split | (congr 1; funext _))
    · exact hg.stuck
  · exact hg.stuck
theorem nat_makeSliceK (t : TypeId) (n c : PV) (K : PV → St → Res β) : g (makeSliceK E st t n c K) = makeSliceK E st t n c fun b s => g (K b s) := by unfold makeSliceK; repeat' (first | rfl | exact Strict.stuck hg | exact Strict.absurd hg | simp only [nat_cond hg, nat_ite hg, nat_chk hg, nat_someK hg, nat_bT hg, nat_iT hg, nat_anyT hg, nat_slT hg, nat_strT hg, nat_lenT hg, nat_sllT hg, nat_refT hg, nat_compT hg, nat_atT hg, nat_chkAll hg, nat_ptrT hg, nat_eqT hg, nat_bind hg, Strict.stuck hg, Strict.absurd hg] | split | (congr 1; funext _))
theorem nat_entK (l : List Nat) (k : T) (es : List (T × T × Nat)) (Kn : Res β) (K : Nat → T → Nat → Res β) : g (entK l k es Kn K) = entK l k es (g Kn) fun i v b => g (K i v b) := by unfold entK; split <;> simp [hg.stuck]
theorem nat_mapK (t : TypeId) (p ix : PV) (K : List Nat → Nat → List (T × T × Nat) → Nat → T → Res β) : g (mapK E st t p ix K) = mapK E st t p ix fun l m es c k => g (K l m es c k) := by
  unfold mapK
  split
  · simp only [nat_someK hg]
    congr 1; funext l
    split
    · split
      · simp only [nat_chk hg]
      · exact hg.stuck
    · exact hg.stuck
  · exact hg.stuck
theorem nat_lookupK (t : TypeId) (p ix : PV) (ok : Bool) (K : PV → Res β) : g (lookupK E st t p ix ok K) = lookupK E st t p ix ok fun q => g (K q) := by
  simp only [lookupK, nat_someK hg, nat_mapK hg, nat_entK hg]
theorem nat_mapSetK (t : TypeId) (p ix v : PV) (K : St → Res β) : g (mapSetK E st t p ix v K) = mapSetK E st t p ix v fun s => g (K s) := by
  simp only [mapSetK, nat_someK hg, nat_mapK hg, nat_entK hg, nat_cond hg, hg.stuck]
theorem nat_mapEntryK (t : TypeId) (p ix : PV) (K : PV → St → Res β) : g (mapEntryK E st t p ix K) = mapEntryK E st t p ix fun q s => g (K q s) := by
  simp only [mapEntryK, nat_someK hg, nat_mapK hg, nat_entK hg, nat_chk hg]
theorem nat_entryStoreK (p s v : PV) (K : St → Res β) : g (entryStoreK st p s v K) = entryStoreK st p s v fun s => g (K s) := by
  unfold entryStoreK
  split
  · simp only [nat_iT hg]
    congr 1; funext n
    split
    · simp only [nat_someK hg, nat_cond hg, hg.stuck]
      congr 1; funext x; congr 1; congr 1; funext i
      split
      · rfl
      · exact hg.stuck
    · exact hg.stuck
  · exact hg.stuck
theorem nat_deleteK (t : TypeId) (p ix : PV) (K : St → Res β) : g (deleteK E st t p ix K) = deleteK E st t p ix fun s => g (K s) := by
  simp only [deleteK, nat_mapK hg, nat_entK hg]
theorem nat_fillK (n : Nat) (place : Nat → Option (Nat × Nat)) (K : List PV → Res β) : ∀ (ps : List (Nat × PV)) (cs : List PV), g (fillK n place cs ps K) = fillK n place cs ps fun b => g (K b)
  | [], cs => rfl
  | (i, p) :: r, cs => by
    simp only [fillK]
    split
    · simp only [nat_cond hg, nat_chk hg, nat_fillK n place K r, hg.stuck]
    · exact hg.stuck
theorem nat_buildK (t : TypeId) (ps : List (Nat × PV)) (K : PV → Res β) : g (buildK E t ps K) = buildK E t ps fun b => g (K b) := by
  unfold buildK; split
  · simp only [nat_someK hg, nat_chk hg, nat_fillK hg]
  · exact hg.stuck
theorem nat_buildSliceK (dr : Bool) (t : TypeId) (n : Nat) (ps : List (Nat × PV)) (K : PV → St → Res β) : g (buildSliceK E dr st t n ps K) = buildSliceK E dr st t n ps fun b s => g (K b s) := by unfold buildSliceK; repeat' (first | rfl | exact Strict.stuck hg | exact Strict.absurd hg | simp only [nat_cond hg, nat_ite hg, nat_chk hg, nat_someK hg, nat_bT hg, nat_iT hg, nat_anyT hg, nat_slT hg, nat_strT hg, nat_lenT hg, nat_sllT hg, nat_refT hg, nat_compT hg, nat_atT hg, nat_chkAll hg, nat_ptrT hg, nat_eqT hg, nat_bind hg, Strict.stuck hg, Strict.absurd hg] | split | (congr 1; funext _))
theorem nat_compsK (x : T) (K : List PV → Res β) : ∀ (n i : Nat) (K : List PV → Res β), g (compsK x i n K) = compsK x i n fun b => g (K b)
  | 0, i, K => rfl
  | n + 1, i, K => by
    simp only [compsK, nat_compT hg]
    congr 1; funext y
    exact nat_compsK x K n (i + 1) _
theorem nat_intsK (k : IntKind) : ∀ (ps : List PV) (K : List Int → Res β), g (intsK k ps K) = intsK k ps fun b => g (K b)
  | [], K => rfl
  | p :: r, K => by
    cases p <;> simp only [intsK, hg.stuck, nat_iT hg]
    congr 1; funext n
    exact nat_intsK k r _

/-- A callee may be run ahead. -/
def Caller.Nat (rc : Caller) : Prop := ∀ (β γ : Type) (g : Res β → Res γ), Strict g → ∀ (f : FuncId) (args : List PV) (H : List AObj) (K : PV → List AObj → Res β), g (rc.go β f args H K) = rc.go γ f args H fun r H' => g (K r H')
theorem nat_inplO (dr : Bool) (f : FuncId) (gf : List AObj → List T → List PV → Res (List T)) (l : Nat) (rest : List PV) (st : St) (K : PV → St → Res β) : g (inplO E dr f gf l rest st K) = inplO E dr f gf l rest st fun b s => g (K b s) := by unfold inplO; repeat' (first | rfl | exact Strict.stuck hg | exact Strict.absurd hg | simp only [nat_cond hg, nat_ite hg, nat_chk hg, nat_someK hg, nat_bT hg, nat_iT hg, nat_anyT hg, nat_slT hg, nat_strT hg, nat_lenT hg, nat_sllT hg, nat_refT hg, nat_compT hg, nat_atT hg, nat_chkAll hg, nat_ptrT hg, nat_eqT hg, nat_bind hg, Strict.stuck hg, Strict.absurd hg] | split | (congr 1; funext _))
theorem nat_inplK (dr : Bool) (f : FuncId) (gf : List AObj → List T → List PV → Res (List T)) (args : List PV) (K : PV → St → Res β) : g (inplK E dr f gf args st K) = inplK E dr f gf args st fun b s => g (K b s) := by
  unfold inplK
  split
  · exact nat_inplO hg _ _ _ _ _ _ _
  · split
    · exact nat_inplO hg _ _ _ _ _ _ _
    · exact Strict.stuck hg
  · exact Strict.stuck hg
theorem nat_trimK (p : PV) (K : PV → St → Res β) : g (trimK p st K) = trimK p st fun b s => g (K b s) := by unfold trimK; repeat' (first | rfl | exact Strict.stuck hg | exact Strict.absurd hg | simp only [nat_cond hg, nat_ite hg, nat_chk hg, nat_someK hg, nat_bT hg, nat_iT hg, nat_anyT hg, nat_slT hg, nat_strT hg, nat_lenT hg, nat_sllT hg, nat_refT hg, nat_compT hg, nat_atT hg, nat_chkAll hg, nat_ptrT hg, nat_eqT hg, nat_bind hg, Strict.stuck hg, Strict.absurd hg] | split | (congr 1; funext _))
variable {rc : Caller} (hrc : rc.Nat)
include hrc
theorem nat_callK (dr : Bool) (f : FuncId) (args : List PV) (K : PV → St → Res β) : g (callK E rc dr f args st K) = callK E rc dr f args st fun b s => g (K b s) := by
  unfold callK; split
  · exact nat_inplK hg _ _ _ _ _
  split
  · simp only []
    split
    · simp only [nat_bind hg, nat_cond hg, nat_chk hg, hg.stuck]
    · simp only [nat_bind hg, nat_cond hg, nat_someK hg, nat_slT hg, hg.stuck]
    · simp only [nat_bind hg, nat_cond hg, nat_someK hg, nat_slT hg, nat_compT hg, nat_compsK hg, hg.stuck]
      congr 1; congr 1; funext x; congr 1; funext y; congr 1; funext z; congr 1; funext u
      exact nat_compsK hg _ (fun _ => .stuck) _ _ _
  · rw [nat_cond hg, hg.stuck, hrc _ _ g hg]
    simp only [nat_trimK hg]
theorem nat_apK (x : T) (ts : List T) (K : T → Res β) : g (apK E rc x ts K) = apK E rc x ts fun b => g (K b) := by unfold apK; repeat' (first | rfl | exact Strict.stuck hg | exact Strict.absurd hg | simp only [nat_cond hg, nat_ite hg, nat_chk hg, nat_someK hg, nat_bT hg, nat_iT hg, nat_anyT hg, nat_slT hg, nat_strT hg, nat_lenT hg, nat_sllT hg, nat_refT hg, nat_compT hg, nat_atT hg, nat_chkAll hg, nat_ptrT hg, nat_eqT hg, nat_bind hg, Strict.stuck hg, Strict.absurd hg] | split | (congr 1; funext _))
theorem nat_builtinK (b : Builtin) (tys : List TypeId) (args : List PV) (K : PV → St → Res β) : g (builtinK E b tys args st K) = builtinK E b tys args st fun b s => g (K b s) := by
  unfold builtinK; split
  · repeat' (first | rfl | exact Strict.stuck hg | exact Strict.absurd hg | simp only [nat_cond hg, nat_ite hg, nat_chk hg, nat_someK hg, nat_bT hg, nat_iT hg, nat_anyT hg, nat_slT hg, nat_strT hg, nat_lenT hg, nat_sllT hg, nat_refT hg, nat_compT hg, nat_atT hg, nat_chkAll hg, nat_ptrT hg, nat_eqT hg, nat_bind hg, Strict.stuck hg, Strict.absurd hg] | split | (congr 1; funext _))
  · exact nat_appendK hg _ _ _ _ _
  · exact nat_deleteK hg _ _ _ _
  · exact nat_clearK hg _ _ _
  · exact nat_copyK hg _ _ _ _ _
  · simp only [nat_someK hg, nat_iT hg, nat_intsK hg]
  · simp only [nat_someK hg, nat_iT hg, nat_intsK hg]
  · exact hg.stuck
theorem nat_opK (dr : Bool) (o : Oper) (K : PV → St → Res β) : g (opK E rc dr o st K) = opK E rc dr o st fun b s => g (K b s) := by
  unfold opK
  split
  all_goals simp only [nat_someK hg, nat_chk hg, nat_cond hg, nat_loadK hg, nat_storeK hg, nat_binK hg, nat_unK hg, nat_convK hg, nat_buildK hg, nat_buildSliceK hg, nat_makeSliceK hg, nat_sliceK hg, nat_fieldAddrK hg, nat_indexK hg, nat_arrK hg, nat_fldK hg, nat_lookupK hg, nat_mapSetK hg, nat_mapEntryK hg, nat_entryStoreK hg, hg.stuck]
  · congr 1; funext p; cases p <;> first | exact hg.stuck | (simp only [nat_bT hg, nat_cond hg, nat_someK hg])
  · congr 1; funext p; cases p <;> first | exact hg.stuck | rfl | (simp only [nat_ptrT hg])
  · congr 1; funext p; cases p <;> first | exact hg.stuck | simp only [nat_someK hg, nat_compT hg]
  · split
    · simp only [nat_someK hg, nat_builtinK hg hrc]
    · simp only [nat_someK hg, nat_callK hg hrc]
    · simp only [nat_someK hg]
      congr 1; funext p; congr 1; funext args
      cases p <;> first | exact hg.stuck | exact nat_callK hg hrc _ _ _ _ | simp only [nat_someK hg, nat_cond hg, nat_apK hg hrc, hg.stuck]
    · exact hg.stuck

theorem nat_opsK (ops : Array Oper) : ∀ (l : List (Oper × Bool)) (st : St) (K : St → Res β), g (opsK E rc ops l st K) = opsK E rc ops l st fun s => g (K s)
  | [], st, K => rfl
  | (o, dr) :: r, st, K => by
    simp only [opsK]
    split
    · rw [nat_opK hg hrc]; congr 1; funext p s; exact nat_opsK ops r _ K
    · split
      · exact nat_opsK ops r _ K
      · split
        · exact nat_opsK ops r _ K
        · simp only [nat_bT hg, nat_cond hg, nat_opK hg hrc, nat_opsK ops r _ K]
        · exact hg.stuck
end
end Go.Sim

/- Calls: what callers lean on; how a call is made. -/
namespace Go.Sim
open Go.RowKit
set_option linter.unusedVariables false
set_option linter.unusedSimpArgs false

/-- A row that somebody may own. -/
def Row (F : Nat → Prop) (w : World) (e k : Nat) (xs : List T) (v : Value) : Prop := RO F (fun _ => v) 0 w 0 (.row e k xs)
theorem Row.ro {F : Nat → Prop} {w : World} {e k : Nat} {xs : List T} {v : Value} (h : Row F w e k xs v) {κ : Nat → Value} {N l : Nat} (hk : κ l = v) : RO F κ N w l (.row e k xs) := by
  obtain ⟨cs, h1, h2⟩ := h
  exact ⟨cs, by rw [hk]; exact h1, h2⟩

inductive Out (E : Env) (f : FuncId) (F : Nat → Prop) (B : Nat) (w : World) : T → Value → Prop
  | frozen {x : T} {v : Value} (hm : E.mode f = 0) (h : Rd F w x v) : Out E f F B w x v
  | row {e k : Nat} {xs : List T} {v : Value} (hm : E.mode f = 1) (hr : retRow E f = some (e, k)) (h : Row F w e k xs v) (hb : ∀ b, v.ownBlock = some b → B ≤ b ∧ b < w.heap.size ∧ ¬ F b) : Out E f F B w (.sl k xs) v
  | tup {e k : Nat} {xs ys : List T} {v : Value} {vs : List Value} (hm : 2 ≤ E.mode f) (hr : retRow E f = some (e, k)) (h : Row F w e k xs v) (hb : ∀ b, v.ownBlock = some b → B ≤ b ∧ b < w.heap.size ∧ ¬ F b)
      (hc : ys.length + 1 = retCount E f) (hl : vs.length = ys.length) (hys : ∀ (i : Nat) (x : T) (v : Value), ys[i]? = some x → vs[i]? = some v → Rd F w x v) : Out E f F B w (.tup (.sl k xs :: ys)) (.tuple (v :: vs).toArray)

/-- The world has grown by blocks that nobody had; some of them are frozen. -/
structure Grown (F : Nat → Prop) (w : World) (F' : Nat → Prop) (w' : World) : Prop where
  os : w'.os = w.os
  tape : w'.tape = w.tape
  output : w'.output = w.output
  size : w.heap.size ≤ w'.heap.size
  old : ∀ b, b < w.heap.size → w'.heap[b]? = w.heap[b]?
  fm : ∀ b, F b → F' b
  fn : ∀ b, F' b → F b ∨ w.heap.size ≤ b
  fl : ∀ b, F' b → b < w'.heap.size

/-- What is come to when a function is called; the tape is asked no less. -/
def Invokes (P : Program) (f : FuncId) (args : Array Value) (w : World) (R : Value → World → Prop) : Prop := match (callFunc f args).run P w with
  | .ok (.enter g as) w1 => Calls P g as w1 fun e w' => ∃ v, e = .returned v ∧ R v w' ∧ w.drawn ≤ w'.drawn
  | .ok (.value v) w1 => R v w1
  | .ok (.row row as) w1 => Rows P row as w1 fun v w' => R v w' ∧ w.drawn ≤ w'.drawn
  | _ => False

theorem Invokes.mono {P : Program} {f : FuncId} {args : Array Value} {w : World} {R R' : Value → World → Prop} (h : Invokes P f args w R) (hr : ∀ v w', R v w' → R' v w') : Invokes P f args w R' := by
  unfold Invokes at *
  split at h
  · exact Calls.mono h fun e w' ⟨v, h1, h2, h3⟩ => ⟨v, h1, hr v w' h2, h3⟩
  · exact hr _ _ h
  · exact Rows.mono h fun v w' ⟨h1, h2⟩ => ⟨hr v w' h1, h2⟩
  · exact h.elim

theorem Invokes.upon {P : Program} {f : FuncId} {args : Array Value} {w : World} {R : Value → World → Prop} {o : Oper} {a : Act} {next : Act → World → Prop} {Q : Exit → Act → World → Prop} (h : Invokes P f args w R)
    (hr : ∀ v w', R v w' → w.drawn ≤ w'.drawn → next (a.put o.dst v) w') : o.upon P a next Q ((callFunc f args).run P w) := by
  unfold Invokes at h
  have hd : ∀ {n : Next} {w1 : World}, (callFunc f args).run P w = .ok n w1 → w.drawn ≤ w1.drawn := fun h => run_drawn P _ _ h
  generalize (callFunc f args).run P w = r at *
  cases r with
  | ok n w1 =>
    cases n <;> simp only at h
    case enter g as =>
      simp only [Oper.upon]
      refine Calls.mono h fun e w' ⟨v, h1, h2, h3⟩ => ?_
      subst h1
      exact hr v w' h2 h3
    case value v => exact hr _ _ h (hd rfl)
    case row row as => exact Rows.mono h fun v w' ⟨h1, h2⟩ => hr v w' h1 h2
  | halt => exact h.elim

/-- What is leant on of a function that writes on a row of its caller's. -/
def InplOk (E : Env) (f : FuncId) (g : List AObj → List T → List PV → Res (List T)) : Prop := ∀ (F : Nat → Prop) (κ : Nat → Value) (w : World) (H : List AObj) (l e k : Nat) (xs : List T) (rest : List PV) (vals : List Value), SI F κ w H → H[l]? = some (.row e k xs) →
  retRow E f = some (e, k) → l ∉ PV.rowss rest → vals.length = rest.length → (∀ (i : Nat) (p : PV) (v : Value), rest[i]? = some p → vals[i]? = some v → RP F κ H.length w p v) → g H xs rest ≠ .stuck →
  Invokes E.P f (κ l :: vals).toArray w fun r w' => ∃ ys, g H xs rest = .ok ys ∧ w.grownBy w' (κ l).ownBlock ∧ (r.ownBlock = (κ l).ownBlock ∨ ∃ b, r.ownBlock = some b ∧ w.heap.size ≤ b) ∧ (∀ b, r.ownBlock = some b → b < w'.heap.size) ∧
    ∀ F1 : Nat → Prop, (∀ b, F b → F1 b) → (∀ m ∈ PV.rowss rest, ∀ (e' k' : Nat) (xs' : List T) (b : Nat), H[m]? = some (.row e' k' xs') → (κ m).ownBlock = some b → F1 b) → (∀ b, F1 b → w'.heap[b]? = w.heap[b]?) → Row F1 w' e k ys r

structure CallerOk (E : Env) (rc : Caller) : Prop where
  nat : rc.Nat
  inpl : ∀ (f : FuncId) (g : List AObj → List T → List PV → Res (List T)), E.inpl f = some g → InplOk E f g
  pure : ∀ (f : FuncId) (ts : List T), rc.pure f ts ≠ .stuck → ∀ (F : Nat → Prop) (w : World) (vals : List Value), vals.length = ts.length → (∀ (i : Nat) (x : T) (v : Value), ts[i]? = some x → vals[i]? = some v → Rd F w x v) →
    (∀ b, F b → b < w.heap.size) → Invokes E.P f vals.toArray w fun v w' => ∃ x F', rc.pure f ts = .ok x ∧ Out E f F' w.heap.size w' x v ∧ Grown F w F' w'
  go : ∀ (β : Type) (f : FuncId) (args : List PV) (H : List AObj) (K : PV → List AObj → Res β), rc.go β f args H K ≠ .stuck → ∀ (F : Nat → Prop) (κ : Nat → Value) (w : World) (vals : List Value), vals.length = args.length →
    (∀ (i : Nat) (p : PV) (v : Value), args[i]? = some p → vals[i]? = some v → RP F κ H.length w p v) → SI F κ w H →
    Invokes E.P f vals.toArray w fun v w' => ∃ r H' F' κ', rc.go β f args H K = K r H' ∧ RP F' κ' H'.length w' r v ∧ SI F' κ' w' H' ∧ Ev H.length F κ w H F' κ' w' H'

theorem compsK_tup {β : Type} : ∀ (n i : Nat) (l : List T) (K : List PV → Res β), i + n = l.length → compsK (.tup l) i n K = K ((l.drop i).map .t)
  | 0, i, l, K, h => by simp [compsK, List.drop_of_length_le (show l.length ≤ i by omega)]
  | n + 1, i, l, K, h => by
    have hi : i < l.length := by omega
    simp only [compsK, compT, List.getElem?_eq_getElem hi]
    rw [compsK_tup n (i + 1) l _ (by omega), List.drop_eq_getElem_cons hi]
    rfl

section
variable {β : Type} {E : Env} {rc : Caller} {st : St} {F : Nat → Prop} {κ : Nat → Value} {w : World} {N0 : Nat} {tm : Array Value}

theorem bind_inv {α : Type} {r : Res α} {k : α → Res β} (h : r.bind k ≠ .stuck) : r ≠ .stuck := by rintro rfl; exact h rfl

theorem Grown.next (h0 : N0 ≤ st.heap.length) (s : SI F κ w st.heap) (ht : TR F κ w st tm) {F' : Nat → Prop} {w' : World} (g : Grown F w F' w') {p : PV} {v : Value} (hp : RP F' κ st.heap.length w' p v) : Next' N0 F κ w st tm p v F' κ w' st :=
  Next'.fresh h0 s ht g.os g.tape g.output g.size g.old g.fm g.fn g.fl hp

/-- A step behind a freezing. -/
theorem Next'.frozen {ls : List Nat} {F1 F' : Nat → Prop} {κ' : Nat → Value} {w' : World} {p : PV} {v : Value} {st' : St} (h0 : N0 ≤ st.heap.length) (a1 : ∀ b, F b → F1 b) (a2 : ∀ b, F1 b → F b ∨ Own κ st.heap b) (a3 : ∀ b, Own κ (freezeRows ls st.heap) b → Own κ st.heap b)
    (a5 : ∀ (l : Nat) (o : AObj), st.heap[l]? = some o → (∀ (e : TypeId) (k : Nat) (xs : List T), o ≠ .row e k xs) → (freezeRows ls st.heap)[l]? = some o)
    (h : Next' N0 F1 κ w ⟨st.tmps, freezeRows ls st.heap⟩ tm p v F' κ' w' st') : Next' N0 F κ w st tm p v F' κ' w' st' :=
  ⟨h.si, (Ev.freeze ls h0 a1 a2 a3 a5).trans h.ev, h.rp, h.tl, h.tr⟩

theorem hide_get (ex : List Nat) (H : List AObj) (l : Nat) : (hideRows ex H)[l]? = (H[l]?).map fun o => match o with
  | .row e k xs => bif ex.contains l then .row e k xs else .dead
  | o => o := by
  unfold hideRows
  rw [List.getElem?_map, List.getElem?_zipIdx]
  cases H[l]? with
  | none => rfl
  | some o => simp; cases o <;> rfl
theorem hide_len (ex : List Nat) (H : List AObj) : (hideRows ex H).length = H.length := by simp [hideRows]
theorem show_get (ex : List Nat) (H H' : List AObj) (l : Nat) : (showRows ex H H')[l]? = (H'[l]?).map fun o => match H[l]? with
  | some (.row e k xs) => bif ex.contains l then o else .row e k xs
  | _ => o := by
  unfold showRows
  rw [List.getElem?_map, List.getElem?_zipIdx]
  cases H'[l]? with
  | none => rfl
  | some o =>
    simp only [Option.map_some, Nat.zero_add]
    cases H[l]? with
    | none => rfl
    | some q => cases q <;> rfl
theorem show_len (ex : List Nat) (H H' : List AObj) : (showRows ex H H').length = H'.length := by simp [showRows]

/-- Which rows are hidden. -/
def Hid (ex : List Nat) (H : List AObj) (l : Nat) : Prop := ex.contains l = false ∧ ∃ e k xs, H[l]? = some (.row e k xs)

theorem hide_cases (ex : List Nat) (H : List AObj) (l : Nat) : (Hid ex H l ∧ (hideRows ex H)[l]? = some .dead) ∨ (¬ Hid ex H l ∧ (hideRows ex H)[l]? = H[l]?) := by
  rw [hide_get]
  cases h : H[l]? with
  | none => exact .inr ⟨fun ⟨_, e, k, xs, h'⟩ => (by rw [h] at h'; cases h'), rfl⟩
  | some o =>
    cases o with
    | row e k xs =>
      cases hc : ex.contains l with
      | true => exact .inr ⟨fun h' => (by rw [h'.1] at hc; cases hc), by simp only [Option.map_some, hc, cond_true]⟩
      | false => exact .inl ⟨⟨hc, e, k, xs, h⟩, by simp only [Option.map_some, hc, cond_false]⟩
    | _ => exact .inr ⟨fun ⟨_, e, k, xs, h'⟩ => (by rw [h] at h'; cases h'), rfl⟩

theorem SI.hide (s : SI F κ w st.heap) (ex : List Nat) : SI F κ w (hideRows ex st.heap) := by
  have hg : ∀ l o, (hideRows ex st.heap)[l]? = some o → o = AObj.dead ∨ st.heap[l]? = some o := fun l o h => by
    rcases hide_cases ex st.heap l with ⟨_, h2⟩ | ⟨_, h2⟩
    · rw [h] at h2; injection h2 with h2; exact .inl h2
    · exact .inr (h2 ▸ h)
  refine ⟨fun l o h => ?_, fun l o b h hb => ?_, fun l l' o o' b h h' hb hb' => ?_, s.fl⟩
  · rw [hide_len]
    rcases hg l o h with rfl | h1
    · trivial
    · exact s.ro l o h1
  · rcases hg l o h with rfl | h1
    · simp [blk] at hb
    · exact s.lt l o b h1 hb
  · rcases hg l o h with rfl | h1
    · simp [blk] at hb
    · rcases hg l' o' h' with rfl | h2
      · simp [blk] at hb'
      · exact s.ne l l' o o' b h1 h2 hb hb'

theorem hide_own {ex : List Nat} {H : List AObj} {b : Nat} (h : Own κ (hideRows ex H) b) : ∃ l o, H[l]? = some o ∧ blk κ l o = some b ∧ ¬ Hid ex H l := by
  obtain ⟨l, o, h1, h2⟩ := h
  rcases hide_cases ex H l with ⟨_, h4⟩ | ⟨h3, h4⟩
  · rw [h1] at h4; injection h4 with h4; subst h4; simp [blk] at h2
  · exact ⟨l, o, by rw [← h4]; exact h1, h2, h3⟩

/-- Behind a call that may write: the hidden rows are shown again. -/
theorem goBack (h0 : N0 ≤ st.heap.length) (s : SI F κ w st.heap) (ht : TR F κ w st tm) {ex : List Nat} {F' : Nat → Prop} {κ' : Nat → Value} {w' : World} {H' : List AObj} {r : PV} {v : Value}
    (hr : RP F' κ' H'.length w' r v) (s' : SI F' κ' w' H') (ev : Ev (hideRows ex st.heap).length F κ w (hideRows ex st.heap) F' κ' w' H') :
    Next' N0 F κ w st tm r v F' κ' w' ⟨PV.kills (ex.contains ·) st.tmps, showRows ex st.heap H'⟩ := by
  have hN : st.heap.length ≤ H'.length := by have := ev.hl; rwa [hide_len] at this
  -- a hidden row is as it was
  have hid : ∀ l, Hid ex st.heap l → κ' l = κ l ∧ (∃ o', H'[l]? = some o' ∧ ∀ e k xs, o' ≠ .row e k xs) := fun l hl => by
    have hlt : l < st.heap.length := by obtain ⟨_, e, k, xs, h⟩ := hl; exact (List.getElem?_eq_some_iff.1 h).1
    rcases hide_cases ex st.heap l with ⟨_, h2⟩ | ⟨h1, _⟩
    · obtain ⟨a, o', b, c⟩ := ev.kp l .dead (by rw [hide_len]; exact hlt) h2 (by simp)
      exact ⟨a, o', b, c⟩
    · exact absurd hl h1
  have hidb : ∀ l e k xs b, Hid ex st.heap l → st.heap[l]? = some (.row e k xs) → (κ l).ownBlock = some b → w'.heap[b]? = w.heap[b]? ∧ b < w.heap.size ∧ ¬ F' b ∧ (∀ i o, H'[i]? = some o → ¬ Hid ex st.heap i → blk κ' i o ≠ some b) := by
    intro l e k xs b hl ho hb
    obtain ⟨h1, h2⟩ := s.lt l _ b ho (by simpa [blk] using hb)
    have hno : ¬ Own κ (hideRows ex st.heap) b := fun h => by
      obtain ⟨l', o', a, c, d⟩ := hide_own h
      exact d (s.ne l l' _ o' b ho a (by simpa [blk] using hb) c ▸ hl)
    refine ⟨ev.frame b h1 hno, h1, fun hf => ?_, fun i o hi _ hbi => ?_⟩
    · rcases ev.fn b hf with h | h | h
      · exact h2 h
      · exact hno h
      · omega
    · rcases ev.on b ⟨i, o, hi, hbi⟩ with h | h
      · exact hno h
      · omega
  have sg : ∀ l o, (showRows ex st.heap H')[l]? = some o → (Hid ex st.heap l ∧ st.heap[l]? = some o ∧ ∃ e k xs, o = .row e k xs) ∨ (¬ Hid ex st.heap l ∧ H'[l]? = some o) := by
    intro l o h
    rw [show_get, Option.map_eq_some_iff] at h
    obtain ⟨o', h1, h2⟩ := h
    cases h3 : st.heap[l]? with
    | none => rw [h3] at h2; simp only at h2; subst h2; exact .inr ⟨fun ⟨_, e, k, xs, h⟩ => (by rw [h3] at h; cases h), h1⟩
    | some q =>
      rw [h3] at h2
      cases q with
      | row e k xs =>
        simp only at h2
        cases hc : ex.contains l with
        | true => rw [hc] at h2; simp only [cond_true] at h2; subst h2; exact .inr ⟨fun h => (by rw [h.1] at hc; cases hc), h1⟩
        | false => rw [hc] at h2; simp only [cond_false] at h2; subst h2; exact .inl ⟨⟨hc, e, k, xs, h3⟩, rfl, e, k, xs, rfl⟩
      | _ => simp only at h2; subst h2; exact .inr ⟨fun ⟨_, e, k, xs, h⟩ => (by rw [h3] at h; cases h), h1⟩
  refine ⟨⟨fun l o h => ?_, fun l o b h hb => ?_, fun l l' o o' b h h' hb hb' => ?_, s'.fl⟩, ⟨ev.os, ev.tape, ev.output, ev.size, fun b hb hno => ?_, ev.fm, fun b hb => ?_, fun b hb => ?_, by rw [show_len]; omega, fun l o hl h1 h2 => ?_⟩, by rw [show_len]; exact hr, by simp [kills_length], fun i q u g1 g2 => ?_⟩
  · rw [show_len]
    rcases sg l o h with ⟨h1, h2, e, k, xs, rfl⟩ | ⟨h1, h2⟩
    · refine (s.ro l _ h2).mono ev.fm (fun b hb => ?_) (fun b hb => ?_) (hid l h1).1 (fun l' hl' => by simp [AObj.locs] at hl')
      · exact ev.frame b (s.fl b hb) fun h => by obtain ⟨l', o', a, c, _⟩ := hide_own h; exact (s.lt l' o' b a c).2 hb
      · exact (hidb l e k xs b h1 h2 (by simpa [blk] using hb)).1
    · exact s'.ro l o h2
  · rcases sg l o h with ⟨h1, h2, e, k, xs, rfl⟩ | ⟨h1, h2⟩
    · have hb : (κ l).ownBlock = some b := by rw [← (hid l h1).1]; simpa [blk] using hb
      obtain ⟨_, a, c, _⟩ := hidb l e k xs b h1 h2 hb
      exact ⟨Nat.lt_of_lt_of_le a ev.size, c⟩
    · exact s'.lt l o b h2 hb
  · rcases sg l o h with ⟨h1, h2, e, k, xs, rfl⟩ | ⟨h1, h2⟩ <;> rcases sg l' o' h' with ⟨h1', h2', e', k', xs', rfl⟩ | ⟨h1', h2'⟩
    · have hb : (κ l).ownBlock = some b := by rw [← (hid l h1).1]; simpa [blk] using hb
      have hb' : (κ l').ownBlock = some b := by rw [← (hid l' h1').1]; simpa [blk] using hb'
      exact s.ne l l' _ _ b h2 h2' (by simpa [blk] using hb) (by simpa [blk] using hb')
    · have hb : (κ l).ownBlock = some b := by rw [← (hid l h1).1]; simpa [blk] using hb
      exact absurd hb' ((hidb l e k xs b h1 h2 hb).2.2.2 l' o' h2' h1')
    · have hb' : (κ l').ownBlock = some b := by rw [← (hid l' h1').1]; simpa [blk] using hb'
      exact absurd hb ((hidb l' e' k' xs' b h1' h2' hb').2.2.2 l o h2 h1)
    · exact s'.ne l l' o o' b h2 h2' hb hb'
  · refine ev.frame b hb fun h => ?_
    obtain ⟨l', o', a, c, _⟩ := hide_own h
    exact hno ⟨l', o', a, c⟩
  · rcases ev.fn b hb with h | h | h
    · exact .inl h
    · obtain ⟨l', o', a, c, _⟩ := hide_own h; exact .inr (.inl ⟨l', o', a, c⟩)
    · exact .inr (.inr h)
  · obtain ⟨l, o, h1, h2⟩ := hb
    rcases sg l o h1 with ⟨a1, a2, e, k, xs, rfl⟩ | ⟨a1, a2⟩
    · have hb : (κ l).ownBlock = some b := by rw [← (hid l a1).1]; simpa [blk] using h2
      exact .inl ⟨l, _, a2, by simpa [blk] using hb⟩
    · rcases ev.on b ⟨l, o, a2, h2⟩ with h | h
      · obtain ⟨l', o', a, c, _⟩ := hide_own h; exact .inl ⟨l', o', a, c⟩
      · exact .inr h
  · have hnh : ¬ Hid ex st.heap l := fun ⟨_, e, k, xs, h⟩ => h2 e k xs (by rw [h1] at h; injection h)
    rcases hide_cases ex st.heap l with ⟨h3, _⟩ | ⟨_, h4⟩
    · exact absurd h3 hnh
    · obtain ⟨a, o', b, c⟩ := ev.kp l o (by rw [hide_len]; omega) (h4.trans h1) h2
      refine ⟨a, o', ?_, c⟩
      rw [show_get, b]
      simp only [Option.map_some, h1]
      cases o <;> first | rfl | exact absurd rfl (h2 _ _ _)
  · rw [kills_get, Option.map_eq_some_iff] at g1
    obtain ⟨q, g1, rfl⟩ := g1
    rw [show_len]
    refine (ht i q u g1 g2).kill _ ev.fm (fun b hb => ?_) hN fun l hl hne => ?_
    · exact ev.frame b (s.fl b hb) fun h => by obtain ⟨l', o', a, c, _⟩ := hide_own h; exact (s.lt l' o' b a c).2 hb
    · cases ho : st.heap[l]? with
      | none => have := List.getElem?_eq_none_iff.1 ho; omega
      | some o =>
        by_cases hrow : ∃ e k xs, o = .row e k xs
        · obtain ⟨e, k, xs, rfl⟩ := hrow
          obtain ⟨A, c, h1, _⟩ := row_len (s.ro l _ ho)
          refine ⟨?_, A, _, c, h1⟩
          cases hc : ex.contains l with
          | true => rfl
          | false => exact absurd (hid l ⟨hc, e, k, xs, ho⟩).1 hne
        · have hnr : ∀ e k xs, o ≠ .row e k xs := fun e k xs h => hrow ⟨e, k, xs, h⟩
          rcases hide_cases ex st.heap l with ⟨⟨_, e, k, xs, h3⟩, _⟩ | ⟨_, h4⟩
          · rw [ho] at h3; injection h3 with h3; exact absurd h3 (hnr e k xs)
          · exact absurd (ev.kp l o (by rw [hide_len]; exact hl) (h4.trans ho) hnr).1 hne

/-- The first elements of a row of one's own. -/
theorem Row.cut {w' : World} {F' : Nat → Prop} {e k hi : Nat} {xs : List T} {r v : Value} (h : Row F' w' e k xs r) (hv : ViewV r v k 0 hi) (hle : hi ≤ xs.length) : Row F' w' e k (xs.take hi) v ∧ v.ownBlock = r.ownBlock := by
  obtain ⟨B, n', c', A', ⟨v1, vb⟩, v2, v3, v4, v5⟩ := hv
  obtain ⟨cs, o1, o2, o3, o4, o5⟩ := h
  have hcs := o1.1
  have hxl : (xs.take hi).length = hi := by simp; omega
  have hle2 : hi * k ≤ cs.length := by rw [hcs]; exact Nat.mul_le_mul_right _ hle
  refine ⟨⟨cs.take (hi * k), ?_, by omega, fun x hx => o3 x (List.mem_of_mem_take hx), fun c hc => o4 c (List.mem_of_mem_take hc), fun i x j y u hx hy hu => ?_⟩, ?_⟩
  · rw [hxl]
    refine ⟨by simp; omega, ?_⟩
    rcases o1.2 with ⟨q1, q2⟩ | ⟨g, cap, cur, q1, q2, q3, q4, q5, q6, q7⟩
    · replace q1 : r = _ := q1
      rw [v1] at q1
      injection q1 with q1 q3 q4
      subst q1; subst q4
      rcases v5 with ⟨_, rfl⟩ | ⟨b, o, h, _⟩
      · have hz : hi = 0 := by replace q2 : xs.length = 0 := q2; omega
        left; exact ⟨by rw [v2, hz], hz⟩
      · cases h
    · replace q1 : r = _ := q1
      rw [v1] at q1
      injection q1 with q1 q8 q9
      subst q1; subst q9
      rcases v5 with ⟨h, _⟩ | ⟨b, o, h1, rfl, h3⟩
      · cases h
      · injection h1 with h1; injection h1 with h1
        subst h1
        right
        refine ⟨g, c', cur, ?_, q2, q3, by omega, q5, q6, ?_⟩
        · rw [v2, h3 (.inr rfl)]; simp
        · rw [← q7, List.take_take]; congr 1; rw [hcs] at hle2; omega
  · have hi' : i < (xs.take hi).length := (List.getElem?_eq_some_iff.1 hx).1
    rw [List.getElem?_take, if_pos (by omega)] at hx
    rw [List.getElem?_take] at hu
    split at hu
    · exact o5 i x j y u hx hy hu
    · cases hu
  · rw [v1, v2]
    rcases v5 with ⟨rfl, rfl⟩ | ⟨b, o, rfl, rfl, _⟩ <;> rfl

theorem trimK_sound {st1 : St} {F' : Nat → Prop} {κ' : Nat → Value} {w' : World} {r : PV} {v : Value} {K : PV → St → Res β} (h0 : N0 ≤ st1.heap.length) (hn : Next' N0 F κ w st tm r v F' κ' w' st1) :
    ∃ p st2 κ2, trimK r st1 K = K p st2 ∧ Next' N0 F κ w st tm p v F' κ2 w' st2 := by
  unfold trimK
  split
  · rename_i l k hi
    split
    · rename_i e k' xs ho
      cases hg : (k' == k && decide (hi ≤ xs.length)) with
      | false => exact ⟨_, _, κ', rfl, hn⟩
      | true =>
        simp only [Bool.and_eq_true, beq_iff_eq, decide_eq_true_eq] at hg
        obtain ⟨rfl, hle⟩ := hg
        simp only [cond_true]
        have hrp := hn.rp
        cases hrp with
        | @view _ _ _ _ A n c hN hv =>
        obtain ⟨b3, hblk⟩ := Row.cut (show Row F' w' e k' xs (κ' l) from hn.si.ro l _ ho) hv hle
        have hro : RO F' (upd κ' l (.slice A n c)) st1.heap.length w' l (.row e k' (xs.take hi)) := b3.ro (upd_same _ _ _)
        obtain ⟨t1, t2, t3, t4⟩ := hn.si.rowTurn ho (.slice A n c) ⟨rfl, rfl, rfl, Nat.le_refl _, fun _ _ _ => rfl⟩ (.inl hblk) (fun b hb => by rw [hblk] at hb; exact (hn.si.lt l _ b ho (by simpa [blk] using hb)).1) hro N0 h0
        refine ⟨_, _, upd κ' l (.slice A n c), rfl, t1, hn.ev.trans t2, .own (by simpa using hN) (upd_same _ _ _), by rw [kills_length]; exact hn.tl, fun i q u g1 g2 => ?_⟩
        rw [kills_get, Option.map_eq_some_iff] at g1
        obtain ⟨q, g1, rfl⟩ := g1
        exact (hn.tr i q u g1 g2).kill _ (fun _ h => h) t3 (by simp) t4
    · exact ⟨_, _, κ', rfl, hn⟩
  · exact ⟨_, _, κ', rfl, hn⟩

theorem inplO_sound {dr : Bool} {f : FuncId} {g : List AObj → List T → List PV → Res (List T)} (hg : InplOk E f g) {l : Nat} {rest : List PV} {v : Value} {vals : List Value} {K : PV → St → Res β} (h : inplO E dr f g l rest st K ≠ .stuck) (h0 : N0 ≤ st.heap.length) (s : SI F κ w st.heap) (ht : TR F κ w st tm)
    (hl : vals.length = rest.length) (hN : l < st.heap.length) (hk : κ l = v) (ha : ∀ (i : Nat) (p : PV) (v : Value), rest[i]? = some p → vals[i]? = some v → RP F κ st.heap.length w p v) :
    Invokes E.P f (v :: vals).toArray w fun v w' => ∃ p st' F' κ', inplO E dr f g l rest st K = K p st' ∧ Next' N0 F κ w st tm p v F' κ' w' st' := by
  unfold inplO at h ⊢
  cases ho : st.heap[l]? with
  | none => simp [ho] at h
  | some obj =>
    cases obj with
    | row e k xs =>
      simp only [ho] at h ⊢
      obtain ⟨g1, e1⟩ := cond_inv' h
      rw [e1] at h ⊢
      simp only [Bool.and_eq_true, beq_iff_eq, Bool.not_eq_true'] at g1
      obtain ⟨⟨_, g2⟩, g3⟩ := g1
      have hnm : l ∉ PV.rowss rest := fun hm => by rw [List.contains_iff_mem.2 hm] at g3; cases g3
      obtain ⟨F1, s1, a1, a2, a3, a4, a5, a6⟩ := freeze_sound (PV.rowss rest) s
      have hi := hg F κ w st.heap l e k xs rest vals s ho g2 hnm hl ha (bind_inv h)
      rw [hk] at hi
      refine hi.mono fun r w' => ?_
      rintro ⟨ys, q1, q2, q3, q4, q5⟩
      rw [q1]
      simp only [Res.bind_ok]
      rw [← hk] at q2 q3
      have ho' : (freezeRows (PV.rowss rest) st.heap)[l]? = some (.row e k xs) := by rw [freezeRows_other _ _ hnm]; exact ho
      have hF1 : ∀ b, F1 b → w'.heap[b]? = w.heap[b]? := fun b hb => q2.block b (s1.fl b hb) fun e => (s1.lt l _ b ho' (by simpa [blk] using e.symm)).2 hb
      have hrow := q5 F1 a1 a4 hF1
      have hro : RO F1 (upd κ l r) (freezeRows (PV.rowss rest) st.heap).length w' l (.row e k ys) := hrow.ro (upd_same _ _ _)
      obtain ⟨t1, t2, t3, t4⟩ := s1.rowTurn ho' r q2 q3 q4 hro N0 (by rw [freezeRows_length]; exact h0)
      refine ⟨_, _, F1, upd κ l r, rfl, Next'.frozen h0 a1 a2 a3 a5 ⟨t1, t2, ?_, by simp [kills_length], fun i q u c d => ?_⟩⟩
      · obtain ⟨A', c', h4, _⟩ := row_len hro
        rw [upd_same] at h4
        rw [h4]
        exact .own (by simpa [freezeRows_length] using hN) (by rw [upd_same])
      · rw [kills_get, Option.map_eq_some_iff] at c
        obtain ⟨q, c, rfl⟩ := c
        exact ((ht i q u c d).freeze a1).kill _ (fun _ h => h) t3 (by simp [freezeRows_length]) (fun i hi => t4 i (by rw [freezeRows_length]; exact hi))
    | _ => simp [ho] at h
theorem inplK_sound {dr : Bool} {f : FuncId} {g : List AObj → List T → List PV → Res (List T)} (hg : InplOk E f g) {args : List PV} {vals : List Value} {K : PV → St → Res β} (h : inplK E dr f g args st K ≠ .stuck) (h0 : N0 ≤ st.heap.length) (s : SI F κ w st.heap) (ht : TR F κ w st tm)
    (hl : vals.length = args.length) (ha : ∀ (i : Nat) (p : PV) (v : Value), args[i]? = some p → vals[i]? = some v → RP F κ st.heap.length w p v) :
    Invokes E.P f vals.toArray w fun v w' => ∃ p st' F' κ', inplK E dr f g args st K = K p st' ∧ Next' N0 F κ w st tm p v F' κ' w' st' := by
  unfold inplK at h ⊢
  match args, vals, hl with
  | [], _, _ => exact absurd rfl h
  | p :: rest, v :: vals, hl =>
    have hp := ha 0 p v rfl rfl
    have ha' : ∀ (i : Nat) (p : PV) (v : Value), rest[i]? = some p → vals[i]? = some v → RP F κ st.heap.length w p v := fun i p v c d => ha (i + 1) p v (by simpa using c) (by simpa using d)
    cases hp with
    | @own l A n c hN hk => exact inplO_sound hg h h0 s ht (by simpa using hl) hN hk ha'
    | nil =>
      simp only [] at h ⊢
      cases hr : retRow E f with
      | none => simp [hr] at h
      | some ek =>
        obtain ⟨e, k⟩ := ek
        simp only [hr] at h ⊢
        have s1 : SI F (upd κ st.heap.length (.slice none 0 0)) w (st.heap ++ [.row e k []]) := s.push _ _ (Nat.le_refl _) (fun _ _ => rfl) (fun _ h => h) (fun _ h => .inl h) s.fl
          ⟨[], by rw [upd_same]; exact World.ownsRow_nil w 0 e k, by simp, by simp, by simp, by simp⟩ (fun b hb => by simp [blk, upd_same, Value.ownBlock] at hb)
        have rp : ∀ {p : PV} {v : Value}, RP F κ st.heap.length w p v → RP F (upd κ st.heap.length (.slice none 0 0)) (st.heap ++ [AObj.row e k []]).length w p v := fun h =>
          h.mono (fun _ h => h) (fun _ _ => rfl) fun l hl => ⟨upd_other κ _ (by have := h.bound l hl; omega), by have := h.bound l hl; simp; omega⟩
        have ev : Ev N0 F κ w st.heap F (upd κ st.heap.length (.slice none 0 0)) w (st.heap ++ [AObj.row e k []]) :=
          ⟨rfl, rfl, rfl, Nat.le_refl _, fun _ _ _ => rfl, fun _ h => h, fun _ h => .inl h, fun b hb => by
            rcases hb.push with h | h
            · exact .inl h
            · simp [blk, upd_same, Value.ownBlock] at h, by simp; omega, fun l o h1 h2 h3 => ⟨upd_other κ _ (by omega), o, by rw [List.getElem?_append_left (by omega)]; exact h2, h3⟩⟩
        have hi := inplO_sound (st := ⟨st.tmps, st.heap ++ [AObj.row e k []]⟩) (N0 := N0) hg h (by simp; omega) s1 (fun i q v c d => rp (ht i q v c d)) (by simpa using hl) (by simp) (upd_same _ _ _) (fun i p v c d => rp (ha' i p v c d))
        refine hi.mono fun r w' => ?_
        rintro ⟨p, st', F', κ', q1, q2⟩
        exact ⟨p, st', F', κ', q1, q2.si, ev.trans q2.ev, q2.rp, q2.tl, q2.tr⟩
    | _ => exact absurd rfl h

theorem callK_sound (hc : CallerOk E rc) {dr : Bool} {f : FuncId} {args : List PV} {vals : List Value} {K : PV → St → Res β} (h : callK E rc dr f args st K ≠ .stuck) (h0 : N0 ≤ st.heap.length) (s : SI F κ w st.heap) (ht : TR F κ w st tm)
    (hl : vals.length = args.length) (ha : ∀ (i : Nat) (p : PV) (v : Value), args[i]? = some p → vals[i]? = some v → RP F κ st.heap.length w p v) :
    Invokes E.P f vals.toArray w fun v w' => ∃ p st' F' κ', callK E rc dr f args st K = K p st' ∧ Next' N0 F κ w st tm p v F' κ' w' st' := by
  unfold callK at h ⊢
  cases hin : E.inpl f with
  | some g =>
    simp only [hin] at h ⊢
    exact inplK_sound (hc.inpl f g hin) h h0 s ht hl ha
  | none =>
  simp only [hin] at h ⊢
  cases hf' : (bif E.mode f == 3 then none else PV.frzs st.heap args) with
  | some ts =>
    have hf : PV.frzs st.heap args = some ts := by
      cases hm3 : E.mode f == 3 with
      | true => rw [hm3] at hf'; cases hf'
      | false => rw [hm3] at hf'; exact hf'
    simp only [hf'] at h ⊢
    obtain ⟨F1, s1, a1, a2, a3, a4, a5, a6⟩ := freeze_sound (PV.rowss args) s
    obtain ⟨t1, t2⟩ := frzs_sound s ha hf a1 a4
    have ht1 : TR F1 κ w ⟨st.tmps, freezeRows (PV.rowss args) st.heap⟩ tm := fun i q v c d => by simpa [freezeRows_length] using (ht i q v c d).freeze a1
    have h01 : N0 ≤ (freezeRows (PV.rowss args) st.heap).length := by rw [freezeRows_length]; exact h0
    have back : ∀ {p : PV} {v : Value} {F' : Nat → Prop} {κ' : Nat → Value} {w' : World} {st' : St}, Next' N0 F1 κ w ⟨st.tmps, freezeRows (PV.rowss args) st.heap⟩ tm p v F' κ' w' st' → Next' N0 F κ w st tm p v F' κ' w' st' := fun h => h.frozen h0 a1 a2 a3 a5
    match hm : E.mode f with
    | 0 =>
      simp only [hm] at h ⊢
      refine (hc.pure f ts (bind_inv h) F1 w vals (by omega) t2 s1.fl).mono fun v w' => ?_
      rintro ⟨x, F', e1, ho, hg⟩
      rw [e1] at h ⊢
      simp only [Res.bind_ok] at h ⊢
      have hx : Rd F' w' x v := by
        cases ho with
        | frozen _ h => exact h
        | row h => omega
        | tup h => omega
      have hfz : Next' N0 F κ w st tm (.t x) v F' κ w' ⟨st.tmps, freezeRows (PV.rowss args) st.heap⟩ := back (hg.next h01 s1 ht1 (.t hx))
      cases hr : (PV.rowss args).isEmpty with
      | true =>
        rw [hr] at h
        have : PV.rowss args = [] := by simpa using hr
        rw [this] at hfz
        exact ⟨_, _, F', κ, rfl, hfz⟩
      | false =>
        rw [hr] at h
        simp only [cond_false] at h ⊢
        cases hre : retFree E f with
        | true =>
          rw [hre] at h
          simp only [cond_true] at h ⊢
          obtain ⟨h1, h2⟩ := chk_inv h
          rw [h2]
          exact ⟨_, _, F, κ, rfl, Next'.fresh h0 s ht hg.os hg.tape hg.output hg.size hg.old (fun _ h => h) (fun _ h => .inl h) (fun b hb => Nat.lt_of_lt_of_le (s.fl b hb) hg.size) (.t (hx.plain h1))⟩
        | false =>
          rw [hre] at h
          simp only [cond_false] at h ⊢
          obtain ⟨h1, h2⟩ := cond_inv h
          rw [h2]
          exact ⟨_, _, F', κ, rfl, hfz⟩
    | 1 =>
      simp only [hm] at h ⊢
      obtain ⟨h1, h2⟩ := cond_inv h
      rw [h2] at h ⊢
      obtain ⟨⟨e, k⟩, h3, h4⟩ := someK_inv h
      rw [h4] at h ⊢
      refine (hc.pure f ts (bind_inv h) F1 w vals (by omega) t2 s1.fl).mono fun v w' => ?_
      rintro ⟨x, F', e1, ho, hg⟩
      rw [e1] at h ⊢
      simp only [Res.bind_ok] at h ⊢
      cases ho with
      | frozen h => omega
      | tup h => omega
      | @row e' k' xs v _ hr hrow hb =>
        rw [hr] at h3
        injection h3 with h3
        injection h3 with h3 h5
        subst h3
        subst h5
        refine ⟨.own st.heap.length, ⟨st.tmps, freezeRows (PV.rowss args) st.heap ++ [.row e' k' xs]⟩, F', upd κ (freezeRows (PV.rowss args) st.heap).length v, by simp [slT], back ?_⟩
        refine Next'.push h01 s1 ht1 hg.os hg.tape hg.output hg.size hg.old hg.fm hg.fn hg.fl (hrow.ro (upd_same κ _ v)) (fun b hb' => ?_) ?_
        · simp only [blk, upd_same] at hb'; exact hb b hb'
        · obtain ⟨A, c, h6, _⟩ := row_len (hrow.ro (κ := fun _ => v) (N := 0) (l := 0) rfl)
          change v = _ at h6
          subst h6
          have := RP.own (F := F') (κ := upd κ (freezeRows (PV.rowss args) st.heap).length (.slice A xs.length c)) (N := (freezeRows (PV.rowss args) st.heap).length + 1) (w := w') (l := (freezeRows (PV.rowss args) st.heap).length) (by omega) (upd_same κ _ _)
          rw [freezeRows_length] at this ⊢
          exact this
    | m + 2 =>
      simp only [hm] at h ⊢
      obtain ⟨h1, h2⟩ := cond_inv h
      rw [h2] at h ⊢
      obtain ⟨⟨e, k⟩, h3, h4⟩ := someK_inv h
      rw [h4] at h ⊢
      refine (hc.pure f ts (bind_inv h) F1 w vals (by omega) t2 s1.fl).mono fun v w' => ?_
      rintro ⟨x, F', e1, ho, hg⟩
      rw [e1] at h ⊢
      simp only [Res.bind_ok] at h ⊢
      cases ho with
      | frozen h => omega
      | row h => omega
      | @tup e' k' xs ys v vs _ hr hrow hb hcnt hlen hys =>
        rw [hr] at h3
        injection h3 with h3
        injection h3 with h3 h5
        subst h3
        subst h5
        refine ⟨.tup (.own st.heap.length :: ys.map .t), ⟨st.tmps, freezeRows (PV.rowss args) st.heap ++ [.row e' k' xs]⟩, F', upd κ (freezeRows (PV.rowss args) st.heap).length v, ?_, back ?_⟩
        · rw [show retCount E f - 1 = ys.length by omega]
          simp only [compT, List.getElem?_cons_zero, slT, if_true]
          rw [compsK_tup _ _ _ _ (by simp; omega)]
          rfl
        have ro := hrow.ro (κ := upd κ (freezeRows (PV.rowss args) st.heap).length v) (N := (freezeRows (PV.rowss args) st.heap).length + 1) (upd_same κ _ v)
        have hp := Next'.push (p := .junk) h01 s1 ht1 hg.os hg.tape hg.output hg.size hg.old hg.fm hg.fn hg.fl ro (fun b hb' => by simp only [blk, upd_same] at hb'; exact hb b hb') .junk
        refine ⟨hp.si, ?_, ?_, hp.tl, hp.tr⟩
        · have := hp.ev
          exact this
        · refine .tup (vs := v :: vs) (by simp [hlen]) fun i p u g1 g2 => ?_
          cases i with
          | zero =>
            simp at g1 g2
            subst g1
            subst g2
            obtain ⟨A, c, h6, _⟩ := row_len (hrow.ro (κ := fun _ => v) (N := 0) (l := 0) rfl)
            change v = _ at h6
            subst h6
            refine .own (by simp [freezeRows_length]) ?_
            rw [← freezeRows_length (PV.rowss args) st.heap]
            exact upd_same κ _ _
          | succ i =>
            simp only [List.getElem?_cons_succ, List.getElem?_map, Option.map_eq_some_iff] at g1 g2
            obtain ⟨y, g1, rfl⟩ := g1
            exact .t (hys i y u g1 g2)
  | none =>
    simp only [hf'] at h ⊢
    obtain ⟨h1, h2⟩ := cond_inv h
    rw [h2] at h ⊢
    refine (hc.go _ f args _ _ h F κ w vals hl (by rw [hide_len]; exact ha) (s.hide _)).mono fun v w' => ?_
    rintro ⟨r, H', F', κ', e1, e2, e3, e4⟩
    have hn := goBack h0 s ht e2 e3 e4
    obtain ⟨p, st2, κ2, f1, f2⟩ := trimK_sound (K := K) hn.ev.hl hn
    exact ⟨p, st2, F', κ2, e1.trans f1, f2⟩
end
end Go.Sim

/- Captured variables: boxes that nobody writes any more. -/
namespace Go.Sim
open Go.RowKit
set_option linter.unusedVariables false
set_option linter.unusedSimpArgs false

def AObj.notRow (o : AObj) : Prop := ∀ (e : TypeId) (k : Nat) (xs : List T), o ≠ .row e k xs

/-- Some objects have been frozen. -/
structure Frz (F : Nat → Prop) (κ : Nat → Value) (w : World) (H : List AObj) (F' : Nat → Prop) (H' : List AObj) : Prop where
  si : SI F' κ w H'
  fm : ∀ b, F b → F' b
  fn : ∀ b, F' b → F b ∨ Own κ H b
  on : ∀ b, Own κ H' b → Own κ H b
  len : H'.length = H.length
  kp : ∀ (l : Nat) (o : AObj), H[l]? = some o → o.notRow → ∃ o', H'[l]? = some o' ∧ o'.notRow

section
variable {F F1 F2 : Nat → Prop} {κ : Nat → Value} {w : World} {H H1 H2 : List AObj}

theorem Frz.refl (s : SI F κ w H) : Frz F κ w H F H := ⟨s, fun _ h => h, fun _ h => .inl h, fun _ h => h, rfl, fun l o h h2 => ⟨o, h, h2⟩⟩
theorem Frz.trans (a : Frz F κ w H F1 H1) (b : Frz F1 κ w H1 F2 H2) : Frz F κ w H F2 H2 where
  si := b.si
  fm := fun x h => b.fm x (a.fm x h)
  fn := fun x h => (b.fn x h).elim (a.fn x) (fun h => .inr (a.on x h))
  on := fun x h => a.on x (b.on x h)
  len := b.len.trans a.len
  kp := fun l o h h2 => by
    obtain ⟨o1, g1, g2⟩ := a.kp l o h h2
    exact b.kp l o1 g1 g2
theorem Frz.rows (s : SI F κ w H) (ls : List Nat) : ∃ F', Frz F κ w H F' (freezeRows ls H) ∧ (∀ l ∈ ls, ∀ (e : TypeId) (k : Nat) (xs : List T) (b : Nat), H[l]? = some (.row e k xs) → (κ l).ownBlock = some b → F' b) ∧
    ∀ (l : Nat) (o : AObj), H[l]? = some o → o.notRow → (freezeRows ls H)[l]? = some o := by
  obtain ⟨F', s', a1, a2, a3, a4, a5, a6⟩ := freeze_sound ls s
  exact ⟨F', ⟨s', a1, a2, a3, freezeRows_length _ _, fun l o h h2 => ⟨o, a5 l o h h2, h2⟩⟩, a4, a5⟩
theorem Frz.next {β : Type} {st : St} {N0 : Nat} {tm : Array Value} (f : Frz F κ w st.heap F1 H1) (h0 : N0 ≤ st.heap.length) (ht : TR F κ w st tm) {p : PV} {v : Value} (hp : RP F1 κ st.heap.length w p v) : Next' N0 F κ w st tm p v F1 κ w ⟨st.tmps, H1⟩ :=
  ⟨f.si, ⟨rfl, rfl, rfl, Nat.le_refl _, fun _ _ _ => rfl, f.fm, fun b h => (f.fn b h).imp id .inl, fun b h => .inl (f.on b h), by rw [f.len]; exact h0, fun l o _ h1 h2 => ⟨rfl, f.kp l o h1 h2⟩⟩, by rw [f.len]; exact hp, rfl,
    fun i q v g1 g2 => by rw [f.len]; exact (ht i q v g1 g2).freeze f.fm⟩

/-- A box that nobody writes any more. -/
theorem Frz.box (s : SI F κ w H) {l : Nat} {e n : Nat} {p : PV} {x : T} (h : H[l]? = some (.box e n p)) (hx : p.frz H = some x) (hn : x.cells.length = n) (h1 : n = 1 → x.isAgg = false) (hrows : ∀ r ∈ p.rows, ∀ (e : TypeId) (k : Nat) (xs : List T), H[r]? ≠ some (.row e k xs)) :
    ∃ F', Frz F κ w H F' (H.set l (.fbox e n x)) ∧ Rd F' w (.ref x) (κ l) := by
  have hl : l < H.length := (List.getElem?_eq_some_iff.1 h).1
  obtain ⟨b, vs, vv, r1, r2, r3, r4, r5, r6⟩ := s.ro l _ h
  subst r3
  have hblk : blk κ l (.box e n p) = some b := by simp [blk, r1, ptrBlock]
  have hF1 : ∀ c, F c → F c ∨ c = b := fun c hc => .inl hc
  have hv : Rd (fun c => F c ∨ c = b) w x vv := frz_sound s r6 hF1 hx (fun r hr e k xs c g _ => absurd g (hrows r hr e k xs))
  have hcells : ∀ (j : Nat) (y : T), x.cells[j]? = some y → ∃ c, vv.cells[j]? = some c ∧ Rd (fun c => F c ∨ c = b) w y c := by
    intro j y hy
    obtain ⟨c1, c2⟩ := RP.cells (κ := κ) (N := 0) (.t hv) r4 r5
    have hj : j < n := by rw [← hn]; exact (List.getElem?_eq_some_iff.1 hy).1
    refine ⟨vv.cells[j], Array.getElem?_eq_getElem (by omega), ?_⟩
    have := c2 j (.t y) _ (by simp [PV.cells, List.getElem?_range hj, T.cell, List.getD_eq_getElem?_getD, hy]) (Array.getElem?_eq_getElem (by omega))
    cases this with
    | t h => exact h
  have href : Rd (fun c => F c ∨ c = b) w (.ref x) (κ l) := by
    rw [r1]
    refine .ref (fun j => vv.cells.getD j undef) (.inr rfl) (fun h => h1 (by omega)) (fun j hj => ?_) (fun j hj => ?_) (fun j y hy => ?_)
    · show (vv.cells.getD j undef).oneCell' = true
      rw [Array.getD_eq_getD_getElem?, Array.getElem?_eq_getElem (show j < vv.cells.size by omega)]
      exact r5 _ (Array.getElem_mem _)
    · show w.cell? _ = some (vv.cells.getD j undef)
      rw [Array.getD_eq_getD_getElem?, Array.getElem?_eq_getElem (show j < vv.cells.size by omega)]
      simp [World.cell?, r2, show j < vv.cells.size by omega]
    · obtain ⟨c, g1, g2⟩ := hcells j y hy
      show Rd _ _ y (vv.cells.getD j undef)
      rw [Array.getD_eq_getD_getElem?, g1]
      exact g2
  refine ⟨fun c => F c ∨ c = b, ⟨⟨fun i o hi => ?_, fun i o c hi hc => ?_, fun i j o o' c hi hj hc hc' => ?_, fun c hc => ?_⟩, hF1, ?_, ?_, by simp, fun i o hi hnr => ?_⟩, href⟩
  · rw [List.length_set]
    rcases set_get hl hi with ⟨rfl, rfl⟩ | ⟨hne, ho⟩
    · exact ⟨b, r1, href, hn⟩
    · exact (s.ro i o ho).mono hF1 (fun _ _ => rfl) (fun _ _ => rfl) rfl fun l' hl' => ⟨rfl, (s.ro i o ho).bound l' hl'⟩
  · rcases set_get hl hi with ⟨rfl, rfl⟩ | ⟨hne, ho⟩
    · simp [blk] at hc
    · refine ⟨(s.lt i o c ho hc).1, ?_⟩
      rintro (hf | rfl)
      · exact (s.lt i o c ho hc).2 hf
      · exact hne (s.ne i l o _ c ho h hc hblk)
  · rcases set_get hl hi with ⟨rfl, rfl⟩ | ⟨hne, ho⟩
    · simp [blk] at hc
    · rcases set_get hl hj with ⟨rfl, rfl⟩ | ⟨hne', ho'⟩
      · simp [blk] at hc'
      · exact s.ne i j o o' c ho ho' hc hc'
  · rcases hc with hc | rfl
    · exact s.fl c hc
    · exact (s.lt l _ c h hblk).1
  · rintro c (hc | rfl)
    · exact .inl hc
    · exact .inr ⟨l, _, h, hblk⟩
  · rintro c ⟨i, o, hi, hc⟩
    rcases set_get hl hi with ⟨rfl, rfl⟩ | ⟨hne, ho⟩
    · simp [blk] at hc
    · exact ⟨i, o, ho, hc⟩
  · by_cases e0 : i = l
    · subst e0
      exact ⟨_, List.getElem?_set_self hl, fun _ _ _ h => by cases h⟩
    · exact ⟨o, by rw [List.getElem?_set_ne (fun h => e0 h.symm)]; exact hi, hnr⟩

theorem frz_congr {H H' : List AObj} (h : ∀ (l : Nat), (∀ (e : TypeId) (k : Nat) (xs : List T), H[l]? = some (.row e k xs) → H'[l]? = some (.row e k xs) ∨ H'[l]? = some (.frow e k xs)) ∧ (∀ o, H[l]? = some o → o.notRow → H'[l]? = some o)) :
    (∀ (p : PV) (x : T), p.frz H = some x → p.frz H' = some x) := by
  have main : ∀ n : Nat, (∀ (p : PV), SizeOf.sizeOf p < n → ∀ (x : T), p.frz H = some x → p.frz H' = some x) ∧ (∀ (ps : List PV), SizeOf.sizeOf ps < n → ∀ (xs : List T), PV.frzs H ps = some xs → PV.frzs H' ps = some xs) := by
    intro n
    induction n with
    | zero => exact ⟨fun p hp => absurd hp (Nat.not_lt_zero _), fun p hp => absurd hp (Nat.not_lt_zero _)⟩
    | succ n ih =>
      refine ⟨fun p hp x hx => ?_, fun ps hp xs hx => ?_⟩
      · cases p with
        | agg cs =>
          simp only [PV.frz, Option.map_eq_some_iff] at hx ⊢
          obtain ⟨ts, h1, h2⟩ := hx
          exact ⟨ts, ih.2 cs (by simp at hp; omega) ts h1, h2⟩
        | tup cs =>
          simp only [PV.frz, Option.map_eq_some_iff] at hx ⊢
          obtain ⟨ts, h1, h2⟩ := hx
          exact ⟨ts, ih.2 cs (by simp at hp; omega) ts h1, h2⟩
        | fn f fs cs =>
          simp only [PV.frz] at hx ⊢
          cases h1 : PV.frzs H fs with
          | none => simp [h1] at hx
          | some a =>
            cases h2 : PV.frzs H cs with
            | none => simp [h1, h2] at hx
            | some b =>
              rw [ih.2 fs (by simp at hp; omega) a h1, ih.2 cs (by simp at hp; omega) b h2]
              simpa [h1, h2] using hx
        | own l =>
          simp only [PV.frz] at hx ⊢
          cases ho : H[l]? with
          | none => simp [ho] at hx
          | some o =>
            cases o with
            | row e k xs =>
              rw [ho] at hx
              rcases (h l).1 e k xs ho with h1 | h1 <;> rw [h1] <;> exact hx
            | frow e k xs => rw [(h l).2 _ ho (fun _ _ _ h => by cases h)]; rw [ho] at hx; exact hx
            | _ => simp [ho] at hx
        | view l k0 lo hi =>
          simp only [PV.frz] at hx ⊢
          cases ho : H[l]? with
          | none => simp [ho] at hx
          | some o =>
            cases o with
            | row e k xs =>
              rw [ho] at hx
              rcases (h l).1 e k xs ho with h1 | h1 <;> rw [h1] <;> exact hx
            | frow e k xs => rw [(h l).2 _ ho (fun _ _ _ h => by cases h)]; rw [ho] at hx; exact hx
            | _ => simp [ho] at hx
        | ptr l o =>
          simp only [PV.frz] at hx ⊢
          cases ho : H[l]? with
          | none => simp [ho] at hx
          | some q =>
            cases q with
            | fbox e k v => rw [(h l).2 _ ho (fun _ _ _ h => by cases h)]; rw [ho] at hx; exact hx
            | _ => simp [ho] at hx
        | _ => exact hx
      · cases ps with
        | nil => exact hx
        | cons p r =>
          simp only [PV.frzs] at hx ⊢
          cases h1 : p.frz H with
          | none => simp [h1] at hx
          | some a =>
            cases h2 : PV.frzs H r with
            | none => simp [h1, h2] at hx
            | some b =>
              rw [ih.1 p (by simp at hp; omega) a h1, ih.2 r (by simp at hp; omega) b h2]
              simpa [h1, h2] using hx
  exact fun p => (main (SizeOf.sizeOf p + 1)).1 p (Nat.lt_succ_self _)

theorem capture_sound (s : SI F κ w H) {p : PV} {v : Value} (h : RP F κ H.length w p v) {x : T} (hc : capture H p = some (x, H1)) : ∃ F', Frz F κ w H F' H1 ∧ Rd F' w x v := by
  cases h with
  | t h => simp [capture] at hc; obtain ⟨rfl, rfl⟩ := hc; exact ⟨F, Frz.refl s, h⟩
  | @ptr l o b hN hk =>
    cases o with
    | succ o => simp [capture] at hc
    | zero =>
      simp only [capture] at hc
      cases ho : H[l]? with
      | none => simp [ho] at hc
      | some q =>
        cases q with
        | box e n q =>
          simp only [ho] at hc
          cases hq : q.frz H with
          | none => simp [hq] at hc
          | some y =>
            simp only [hq] at hc
            cases hg : (y.cells.length == n && (!(n == 1) || !y.isAgg)) with
            | true =>
              rw [hg] at hc
              simp only [cond_true] at hc
              injection hc with hc
              injection hc with h1 h2
              subst h1
              subst h2
              simp only [Bool.and_eq_true, beq_iff_eq, Bool.or_eq_true, Bool.not_eq_true', Bool.not_eq_false'] at hg
              obtain ⟨F1, f1, f2, f3⟩ := Frz.rows s q.rows
              obtain ⟨_, _, _, _, _, _, a5, a6⟩ := freeze_sound q.rows s
              have hob : (freezeRows q.rows H)[l]? = some (.box e n q) := f3 l _ ho (fun _ _ _ h => by cases h)
              have hfz : q.frz (freezeRows q.rows H) = some y := frz_congr (H := H) (fun l' => ⟨a6 l', a5 l'⟩) q y hq
              have hnr : ∀ r ∈ q.rows, ∀ (e : TypeId) (k : Nat) (xs : List T), (freezeRows q.rows H)[r]? ≠ some (.row e k xs) := by
                intro r hr e k xs hh
                -- a row in the list is frozen
                have : ∀ (ls : List Nat) (H : List AObj), r ∈ ls → (freezeRows ls H)[r]? ≠ some (.row e k xs) := by
                  intro ls
                  induction ls with
                  | nil => intro H h; cases h
                  | cons a ls ih =>
                    intro H hm hh
                    by_cases hin : r ∈ ls
                    · exact ih _ hin hh
                    · have hra : r = a := (List.mem_cons.1 hm).resolve_right hin
                      subst hra
                      have e1 : freezeRows (r :: ls) H = freezeRows ls (match H[r]? with | some (AObj.row e k xs) => H.set r (AObj.frow e k xs) | _ => H) := rfl
                      rw [e1, freezeRows_other ls _ hin] at hh
                      cases hq : H[r]? with
                      | none => rw [hq] at hh; simp only [hq] at hh; cases hh
                      | some o =>
                        rw [hq] at hh
                        cases o with
                        | row e' k' xs' =>
                          simp only at hh
                          rw [List.getElem?_set_self (List.getElem?_eq_some_iff.1 hq).1] at hh
                          cases hh
                        | _ => simp only [hq] at hh; cases hh
                exact this _ _ hr hh
              obtain ⟨F2, f4, f5⟩ := Frz.box f1.si hob hfz hg.1 (fun h => by rcases hg.2 with h2 | h2 <;> simp_all) hnr
              exact ⟨F2, f1.trans f4, by rw [← hk]; exact f5⟩
            | false => rw [hg] at hc; cases hc
        | fbox e n y =>
          simp only [ho, Option.some.injEq, Prod.mk.injEq] at hc
          obtain ⟨rfl, rfl⟩ := hc
          obtain ⟨b', r1, r2, r3⟩ := s.ro l _ ho
          exact ⟨F, Frz.refl s, by rw [← hk]; exact r2⟩
        | _ => simp [ho] at hc
  | _ => simp [capture] at hc

theorem captures_sound : ∀ {ps : List PV} {F : Nat → Prop} {H H1 : List AObj} {vs : List Value} {xs : List T}, SI F κ w H → vs.length = ps.length → (∀ (i : Nat) (p : PV) (v : Value), ps[i]? = some p → vs[i]? = some v → RP F κ H.length w p v) → captures H ps = some (xs, H1) →
    ∃ F', Frz F κ w H F' H1 ∧ xs.length = ps.length ∧ ∀ (i : Nat) (x : T) (v : Value), xs[i]? = some x → vs[i]? = some v → Rd F' w x v
  | [], F, H, H1, vs, xs, s, hl, hp, hc => by
    simp [captures] at hc
    obtain ⟨rfl, rfl⟩ := hc
    exact ⟨F, Frz.refl s, rfl, by simp⟩
  | p :: ps, F, H, H1, [], xs, s, hl, hp, hc => by simp at hl
  | p :: ps, F, H, H1, v :: vs, xs, s, hl, hp, hc => by
    simp only [captures] at hc
    cases h1 : capture H p with
    | none => simp [h1] at hc
    | some r =>
      obtain ⟨x, H'⟩ := r
      simp only [h1] at hc
      cases h2 : captures H' ps with
      | none => simp [h2] at hc
      | some r2 =>
        obtain ⟨ys, H''⟩ := r2
        simp only [h2, Option.some.injEq, Prod.mk.injEq] at hc
        obtain ⟨rfl, rfl⟩ := hc
        obtain ⟨Fa, a1, a2⟩ := capture_sound s (hp 0 p v rfl rfl) h1
        obtain ⟨Fb, b1, b2, b3⟩ := captures_sound (vs := vs) a1.si (by simpa using hl) (fun i q u g1 g2 => by rw [a1.len]; exact (hp (i + 1) q u (by simpa using g1) (by simpa using g2)).freeze a1.fm) h2
        refine ⟨Fb, a1.trans b1, by simp [b2], fun i y u g1 g2 => ?_⟩
        cases i with
        | zero => simp at g1 g2; subst g1; subst g2; exact a2.mono b1.fm (fun _ _ => rfl)
        | succ i => exact b3 i y u (by simpa using g1) (by simpa using g2)
end
end Go.Sim

/- clear and copy onto rows of one's own; parts of values. -/
namespace Go.Sim
open Go.RowKit
set_option linter.unusedVariables false
set_option linter.unusedSimpArgs false

section
variable {β : Type} {E : Env} {st : St} {F : Nat → Prop} {κ : Nat → Value} {w : World} {N0 : Nat} {tm : Array Value}

/-- The steps of a write onto a part of a row. -/
theorem part_write (h0 : N0 ≤ st.heap.length) (s : SI F κ w st.heap) (ht : TR F κ w st tm) {l e k a b : Nat} {xs ys : List T} (ho : st.heap[l]? = some (.row e k xs)) {v : Value} (hv : ViewV (κ l) v k a b)
    (hb : b ≤ xs.length) (ha : a + ys.length ≤ b) {news : List Value} (n1 : news.length = ys.length * k) (n2 : ∀ u ∈ news, u.oneCell' = true) (n3 : ∀ x ∈ ys, x.cells.length = k ∧ (k = 1 → x.isAgg = false))
    (n6 : ∀ (i : Nat) (x : T) (j : Nat) (y : T) (u : Value), ys[i]? = some x → x.cells[j]? = some y → news[i * k + j]? = some u → Rd F w y u) (p : PV) (u : Value) (hp : RP F κ st.heap.length w p u) :
    ∃ A c w', v = .slice A (b - a) c ∧ (A = none → ys = []) ∧ (∀ ad, A = some ad → (storeCells ad news).run E.P w = .ok () w') ∧ (A = none → w' = w) ∧ Next' N0 F κ w st tm p u F κ w' ⟨st.tmps, st.heap.set l (.row e k (spliceT xs a ys))⟩ := by
  obtain ⟨A, n, c, A', ⟨v1, vb⟩, rfl, v3, v4, v5⟩ := hv
  obtain ⟨cs, o1, _⟩ := s.ro l _ ho
  have same : ys = [] → Next' N0 F κ w st tm p u F κ w ⟨st.tmps, st.heap.set l (.row e k (spliceT xs a ys))⟩ := fun h => by
    subst h
    rw [spliceT_nil, set_self ho]
    exact Next'.same h0 s ht hp
  have hle : n ≤ c ∧ n = xs.length := by
    rcases o1.2 with ⟨q1, q2⟩ | ⟨g, cap, cur, q1, _, _, q2, _⟩
    · rw [v1] at q1; injection q1 with q1 q3 q4; omega
    · rw [v1] at q1; injection q1 with q1 q3 q4; omega
  rcases v5 with ⟨rfl, rfl⟩ | ⟨g, o, rfl, rfl, v6⟩
  · have hys : ys = [] := by
      rcases o1.2 with ⟨q1, q2⟩ | ⟨g, cap, cur, q1, _⟩
      · exact List.eq_nil_of_length_eq_zero (by omega)
      · rw [v1] at q1; cases q1
    exact ⟨none, c - a, w, rfl, fun _ => hys, fun ad h => (by cases h), fun _ => rfl, same hys⟩
  · rcases Nat.eq_zero_or_pos ys.length with ey | ey
    · have hys : ys = [] := List.eq_nil_of_length_eq_zero ey
      have hn : news = [] := List.eq_nil_of_length_eq_zero (by rw [n1, ey]; simp)
      exact ⟨_, c - a, w, rfl, fun _ => hys, fun ad h => (by rw [hn]; rfl), fun h => (by cases h), same hys⟩
    · obtain ⟨w', g1, g2, g3, g4⟩ := row_splice (P := E.P) (N0 := N0) (a := a) s h0 ho v1 (by omega) n1 n2 n3 n6
      refine ⟨_, c - a, w', rfl, fun h => (by cases h), fun ad h => ?_, fun h => (by cases h), g2, g3, by simpa using g4 p u hp, rfl, fun i q u g5 g6 => ?_⟩
      · injection h with h
        subst h
        rw [v6 (by omega)]
        exact g1
      · simpa using g4 q u (ht i q u g5 g6)

theorem zero_cells {z : Value} {k n : Nat} (hz : z.cells.size = k + 1) (i : Nat) (hi : i < n * (k + 1)) : (Builtin.zeroCells z.cells n)[i]? = z.cells[i % (k + 1)]? := by
  unfold Builtin.zeroCells
  rw [Array.getElem?_map, Array.getElem?_range, hz]
  rw [if_pos (by simpa using hi)]
  have : i % (k + 1) < z.cells.size := by rw [hz]; exact Nat.mod_lt _ (by omega)
  simp only [Option.map_some]
  rw [getElem!_pos z.cells _ this, Array.getElem?_eq_getElem this]

theorem clearK_sound {t ty : TypeId} {p : PV} {K : St → Res β} {v : Value} (h : clearK E st t p K ≠ .stuck) (h0 : N0 ≤ st.heap.length) (s : SI F κ w st.heap) (ht : TR F κ w st tm) (hp : RP F κ st.heap.length w p v) :
    ∃ st' w', clearK E st t p K = K st' ∧ (Builtin.clear_ #[t] ty #[v]).run E.P w = .ok undef w' ∧ Next' N0 F κ w st tm undefV undef F κ w' st' := by
  unfold clearK at h ⊢
  cases he : elP E.P t with
  | none => simp [he] at h
  | some e =>
    cases hs : szP E.P e with
    | none => simp [he, hs] at h
    | some k =>
      cases k with
      | zero => simp [he, hs] at h
      | succ k =>
        cases hz : ((E.P.info? e).bind (·.zero)).bind (pvConst E.P e) with
        | none => simp [he, hs, hz] at h
        | some z =>
          simp only [he, hs, hz] at h ⊢
          obtain ⟨z', h1, e1⟩ := someK_inv h
          rw [e1] at h ⊢
          obtain ⟨h2, e2⟩ := chk_inv h
          rw [e2] at h ⊢
          clear e1 e2
          simp only [Bool.and_eq_true] at h2
          cases hr : rowView st.heap p with
          | none => simp [hr] at h
          | some q =>
            obtain ⟨l, k', a, b, full⟩ := q
            simp only [hr] at h ⊢
            obtain ⟨e', kr, xs, A0, c, r1, r2, r3, r4, r5, r6, r7⟩ := rowView_sound hr s hp
            rw [r1] at h ⊢
            simp only [] at h ⊢
            obtain ⟨g1, e3⟩ := cond_inv' h
            rw [e3] at h ⊢
            obtain ⟨g2, e4⟩ := chk_inv h
            rw [e4]
            clear e3 e4
            simp only [Bool.and_eq_true, beq_iff_eq, decide_eq_true_eq] at g1 g2
            obtain ⟨⟨rfl, rfl⟩, rfl⟩ := g1
            obtain ⟨i, zv, i1, i2, i3⟩ := zero_of hz
            have hu := elP_underlying he
            have hrz : RP F κ 0 w z zv := pvConst_sound i3
            have hfz : Rd F w z' zv := by
              have := frz_sound (F := F) (F' := F) (κ := κ) (w := w) (H := []) ⟨fun l o h => by simp at h, fun l o b h => by simp at h, fun l l' o o' b h => by simp at h, s.fl⟩ hrz (fun _ h => h) h1 (fun l _ e k xs b h => by simp at h)
              exact this
            obtain ⟨z1, z2, z3, z4, z5⟩ := okE_sound hfz h2.2
            have hsz : (Builtin.zeroCells zv.cells (b - a)).toList.length = (List.replicate (b - a) z').length * (k + 1) := by simp [Builtin.zeroCells, z3]
            have hget : ∀ q u, (Builtin.zeroCells zv.cells (b - a)).toList[q]? = some u → zv.cells[q % (k + 1)]? = some u := fun q u hq => by
              have hlt : q < (b - a) * (k + 1) := by
                have := (List.getElem?_eq_some_iff.1 hq).1
                rw [hsz] at this
                simpa using this
              rw [Array.getElem?_toList, zero_cells z3 q hlt] at hq
              exact hq
            obtain ⟨A, cc, w', rfl, p1, p2, p3, p4⟩ := part_write (E := E) (N0 := N0) (tm := tm) (ys := List.replicate (b - a) z') (news := (Builtin.zeroCells zv.cells (b - a)).toList) h0 s ht r1 r4 r5 (by simp; omega) hsz
              (fun u hu => by
                obtain ⟨q, hq⟩ := List.getElem?_of_mem hu
                exact z4 u (Array.mem_of_getElem? (hget q u hq)))
              (fun x hx => by rw [(List.mem_replicate.1 hx).2]; exact ⟨z1, z2⟩)
              (fun i x j y u hx hy hu => by
                have hx2 := (List.mem_replicate.1 (List.mem_of_getElem? hx)).2
                subst hx2
                have hj : j < k + 1 := by rw [← z1]; exact (List.getElem?_eq_some_iff.1 hy).1
                have h6 := hget _ _ hu
                rw [Nat.mul_comm i, Nat.mul_add_mod, Nat.mod_eq_of_lt hj] at h6
                exact z5 j y u hy h6) undefV undef undef_rp
            refine ⟨_, w', rfl, ?_, p4⟩
            cases A with
            | none =>
              rw [p3 rfl]
              simp [Builtin.clear_, run_underlying hu]
              rfl
            | some ad =>
              have := p2 ad rfl
              rcases Nat.eq_zero_or_pos (b - a) with e0 | e0
              · have hw : w' = w := by
                  rw [e0] at this
                  simp [Builtin.zeroCells, storeCells] at this
                  exact this.symm
                rw [hw, e0]
                simp [Builtin.clear_, run_underlying hu]
                rfl
              · obtain ⟨m, hm⟩ : ∃ m, b - a = m + 1 := ⟨b - a - 1, by omega⟩
                rw [hm] at this ⊢
                simp [Builtin.clear_, run_underlying hu, zeroValue, typeInfo, i1, i2, this]
                rfl

theorem copyK_sound {t t' ty : TypeId} {p q : PV} {K : PV → St → Res β} {v u : Value} (h : copyK E st t t' p q K ≠ .stuck) (h0 : N0 ≤ st.heap.length) (s : SI F κ w st.heap) (ht : TR F κ w st tm) (hp : RP F κ st.heap.length w p v) (hq : RP F κ st.heap.length w q u) :
    ∃ r x st' w', copyK E st t t' p q K = K r st' ∧ (Builtin.copy_ #[t, t'] ty #[v, u]).run E.P w = .ok x w' ∧ Next' N0 F κ w st tm r x F κ w' st' := by
  unfold copyK at h ⊢
  cases he : elP E.P t with
  | none => simp [he] at h
  | some e =>
    cases hs : szP E.P e with
    | none => simp [he, hs] at h
    | some k =>
      cases k with
      | zero => simp [he, hs] at h
      | succ k =>
        simp only [he, hs] at h ⊢
        obtain ⟨g0, e1⟩ := cond_inv' h
        rw [e1] at h ⊢
        obtain rfl : t = t' := by simpa using g0
        obtain ⟨ys, e2, hv⟩ := elemsK_sound h s hq
        rw [e2] at h ⊢
        clear e1 e2
        cases hr : rowView st.heap p with
        | none => simp [hr] at h
        | some q =>
          obtain ⟨l, k', a, b, full⟩ := q
          simp only [hr] at h ⊢
          obtain ⟨e', kr, xs, A0, c, r1, r2, r3, r4, r5, r6, r7⟩ := rowView_sound hr s hp
          rw [r1] at h ⊢
          simp only [] at h ⊢
          obtain ⟨g1, e3⟩ := cond_inv' h
          rw [e3] at h ⊢
          obtain ⟨g2, e4⟩ := chk_inv h
          rw [e4]
          clear e3 e4
          simp only [Bool.and_eq_true, beq_iff_eq, decide_eq_true_eq] at g1 g2
          obtain ⟨⟨rfl, rfl⟩, rfl⟩ := g1
          obtain ⟨A, cA, news, rfl, n1, n2, n3, n4, n5, n6⟩ := hv.news
          obtain ⟨i, hi', hsz⟩ := info_of_sz hs
          have hu := elP_underlying he
          have hlt : (ys.take (b - a)).length = min ys.length (b - a) := by simp [Nat.min_comm]
          have hnl : (news.take (min ys.length (b - a) * (k + 1))).length = min ys.length (b - a) * (k + 1) := by
            rw [List.length_take, n1]
            exact Nat.min_eq_left (Nat.mul_le_mul_right _ (Nat.min_le_left _ _))
          obtain ⟨A', cc, w', rfl, p1, p2, p3, p4⟩ := part_write (E := E) (N0 := N0) (tm := tm) (ys := ys.take (b - a)) (news := news.take (min ys.length (b - a) * (k + 1))) h0 s ht r1 r4 r5 (by rw [hlt]; omega) (by rw [hnl, hlt])
            (fun u hu => n2 u (List.mem_of_mem_take hu)) (fun x hx => n3 x (List.mem_of_mem_take hx))
            (fun i x j y u hx hy hu => by
              rw [List.getElem?_take] at hx hu
              split at hx
              · split at hu
                · exact n6 i x j y u hx hy hu
                · cases hu
              · cases hx) (.t (.int .i64 (min ys.length (b - a) : Nat))) (goInt ((min ys.length (b - a) : Nat) : Int)) (.t (.int (kindOk_nat (by omega))))
          refine ⟨_, _, _, w', rfl, ?_, p4⟩
          have hfc : (Builtin.firstCells (k + 1) (min ys.length (b - a)) (.slice A ys.length cA)).run E.P w = .ok (news.take (min ys.length (b - a) * (k + 1))).toArray w := by
            rcases n5 with ⟨rfl, rfl⟩ | ⟨ad, rfl, hA⟩
            · have : news = [] := List.eq_nil_of_length_eq_zero (by simpa using n1)
              subst this
              simp [Builtin.firstCells]
            · exact run_firstCells_some w (k + 1) _ ad ys.length cA _ hnl (fun j u hj => by
                rw [List.getElem?_take] at hj
                split at hj
                · exact hA j u hj
                · cases hj)
          cases A' with
          | none =>
            have hy : ys.take (b - a) = [] := p1 rfl
            rw [p3 rfl]
            have hm : min ys.length (b - a) = 0 := by rw [← hlt, hy]; rfl
            rw [hm] at hfc ⊢
            have hm' : Nat.min ys.length (b - a) = 0 := hm
            simp [Builtin.copy_, run_underlying hu, Builtin.lenOf, sizeOf, typeInfo, hi', hsz, hm', hfc]
          | some ad =>
            have := p2 ad rfl
            have hm' : Nat.min ys.length (b - a) = min ys.length (b - a) := rfl
            simp [Builtin.copy_, run_underlying hu, Builtin.lenOf, sizeOf, typeInfo, hi', hsz, hm', hfc, this]
end

section
variable {β : Type} {E : Env} {F : Nat → Prop} {κ : Nat → Value} {N : Nat} {w : World}
theorem partK_sound {t : TypeId} {s n o : Nat} {a : Bool} {p : PV} {K : PV → Res β} {v : Value} (h : partK s a n o p K ≠ .stuck) (hs : szP E.P t = some s) (ha : aggP E.P t = some a) (hp : RP F κ N w p v) :
    ∃ q u cs, v = .agg cs ∧ partK s a n o p K = K q ∧ (part t cs o).run E.P w = .ok u w ∧ RP F κ N w q u := by
  unfold partK at h ⊢
  obtain ⟨g1, e1⟩ := cond_inv h
  rw [e1] at h ⊢
  obtain ⟨g2, e2⟩ := chk_inv h
  rw [e2]
  simp only [Bool.and_eq_true, decide_eq_true_eq] at g2
  obtain ⟨⟨g3, g4⟩, g5⟩ := g2
  obtain ⟨u1, u2⟩ := okS_sound hp g3
  have hc := hp.cell_of u1 u2 g5 (guard_of g1)
  cases v with
  | agg cs =>
    refine ⟨_, _, cs, rfl, rfl, ?_, hc⟩
    simp only [Value.cells] at u1
    cases a with
    | true =>
      have hex : cs.extract o (o + s) = ((cs.toList.drop o).take s).toArray := by apply Array.ext'; simp [List.drop_take]
      simp [part, run_isAgg' ha, run_sizeOf' hs, Value.cells, hex]
    | false =>
      have hs1 : s = 1 := by rcases guard_of g1 with ⟨h, _⟩ | ⟨_, h⟩; cases h; exact h
      have hlt : o < cs.size := by omega
      simp [part, run_isAgg' ha, Value.cells, Array.getElem?_eq_getElem hlt]
  | _ => simp [Value.cells] at u1; omega

theorem arrK_sound {t : TypeId} {p i : PV} {K : PV → Res β} {v vi : Value} (h : arrK E t p i K ≠ .stuck) (hp : RP F κ N w p v) (hi : RP F κ N w i vi) :
    ∃ q u, arrK E t p i K = K q ∧ (Instr.index t v vi).run E.P w = .ok u w ∧ RP F κ N w q u := by
  unfold arrK at h ⊢
  cases hu : E.P.underlying t with
  | none => simp [hu] at h
  | some d =>
    cases d with
    | array n e =>
      cases hs : szP E.P e with
      | none => simp [hu, hs] at h
      | some s =>
        cases ha : aggP E.P e with
        | none => simp [hu, hs, ha] at h
        | some a =>
          cases hi with
          | @t iv vi hi =>
            simp only [hu, hs, ha] at h ⊢
            obtain ⟨ki, j, rfl, e1⟩ := anyT_inv h
            rw [e1] at h ⊢
            obtain ⟨g1, e2⟩ := chk_inv h
            rw [e2] at h ⊢
            cases hi
            simp only [Bool.and_eq_true, decide_eq_true_eq] at g1
            obtain ⟨q, u, cs, rfl, p1, p2, p3⟩ := partK_sound h hs ha hp
            refine ⟨q, u, p1, ?_, p3⟩
            simp [Instr.index, asIntOf, run_underlying hu, g1, run_sizeOf' hs, p2]
          | _ => simp [hu, hs, ha] at h
    | string =>
      simp only [hu] at h ⊢
      cases hp with
      | @t pv v hp =>
        cases hi with
        | @t iv vi hi =>
          simp only [] at h ⊢
          obtain ⟨s, rfl, e0⟩ := strT_inv h
          rw [e0] at h ⊢
          obtain ⟨ki, j, rfl, e1⟩ := anyT_inv h
          rw [e1] at h ⊢
          obtain ⟨g1, e2⟩ := chk_inv h
          rw [e2] at h ⊢
          obtain ⟨b, g2, e3⟩ := someK_inv h
          rw [e3] at h ⊢
          cases hi
          cases hp
          simp only [decide_eq_true_eq] at g1
          refine ⟨_, .int .u8 b.toNat, rfl, ?_, .t (.int ?_)⟩
          · simp [Instr.index, asIntOf, run_underlying hu, g1, g2]
          · have h0 := b.toNat_lt
            have h1 : IntKind.u8.min = 0 := rfl
            have h2 : IntKind.u8.max = 255 := rfl
            unfold kindOk
            rw [h1, h2, decide_eq_true (show (0 : Int) ≤ (b.toNat : Int) by omega), decide_eq_true (show (b.toNat : Int) ≤ 255 by omega)]
            rfl
        | _ => simp at h
      | _ => simp at h
    | _ => simp [hu] at h

theorem fldK_sound {t : TypeId} {f : Nat} {p : PV} {K : PV → Res β} {v : Value} (h : fldK E t f p K ≠ .stuck) (hp : RP F κ N w p v) :
    ∃ q u, fldK E t f p K = K q ∧ (Instr.field t v f).run E.P w = .ok u w ∧ RP F κ N w q u := by
  unfold fldK at h ⊢
  cases hf : fieldP E.P t f with
  | none => simp [hf] at h
  | some q =>
    obtain ⟨off, ft⟩ := q
    cases hs : szP E.P ft with
    | none => simp [hf, hs] at h
    | some s =>
      cases ha : aggP E.P ft with
      | none => simp [hf, hs, ha] at h
      | some a =>
        cases hn : szP E.P t with
        | none => simp [hf, hs, ha, hn] at h
        | some n =>
          simp only [hf, hs, ha, hn] at h ⊢
          obtain ⟨q, u, cs, rfl, p1, p2, p3⟩ := partK_sound h hs ha hp
          refine ⟨q, u, p1, ?_, p3⟩
          unfold fieldP at hf
          cases hu : E.P.underlying t with
          | none => simp [hu] at hf
          | some d =>
            cases d with
            | struct fs =>
              simp only [hu, Option.map_eq_some_iff, Prod.mk.injEq] at hf
              obtain ⟨fd, h1, rfl, rfl⟩ := hf
              simp [Instr.field, run_underlying hu, h1, asAgg, p2]
            | _ => simp [hu] at hf
end
end Go.Sim

/- Maps of one's own. -/
namespace Go.Sim
open Go.RowKit
set_option linter.unusedVariables false
set_option linter.unusedSimpArgs false

section
variable {P : Program} {F : Nat → Prop} {κ : Nat → Value} {w : World} {H : List AObj}

theorem someO_inv {α γ : Type} {o : Option α} {K : α → Option γ} {c : γ} (h : someO o K = some c) : ∃ a, o = some a ∧ K a = some c := by
  cases o with
  | none => cases h
  | some a => exact ⟨a, rfl, h⟩
theorem mapP_underlying {t k e : TypeId} (h : mapP P t = some (k, e)) : P.underlying t = some (.map k e) := by
  unfold mapP at h
  split at h
  · rename_i k' e' hu; simp only [Option.some.injEq, Prod.mk.injEq] at h; rw [hu, h.1, h.2]
  · cases h

/-- What is known of a type of keys. -/
inductive KeyOk (P : Program) (t : TypeId) : List Nat → Prop
  | int {k : IntKind} (h : P.underlying t = some (.int k)) : KeyOk P t [0]
  | struct {fs : Array Field} {l : List Nat} (h : P.underlying t = some (.struct fs)) (hf : ∀ f ∈ fs.toList, ∃ k, P.underlying f.type = some (.int k)) (e1 : eqLv P 20 t = some l) (h2 : 2 ≤ l.length) (h0 : ∀ n ∈ l, n = 0) : KeyOk P t l

theorem keyP_ok {t : TypeId} {l : List Nat} (h : keyP P t = some l) : KeyOk P t l := by
  unfold keyP at h
  cases hu : P.underlying t with
  | none => simp [hu] at h
  | some d =>
    cases d with
    | int k => simp only [hu, Option.some.injEq] at h; subst h; exact .int hu
    | struct fs =>
      simp only [hu] at h
      cases hc : (fs.toList.all fun f => (kindP P f.type).isSome) with
      | false => simp [hc] at h
      | true =>
        simp only [hc, cond_true] at h
        obtain ⟨l', hl, h⟩ := someO_inv h
        cases h2 : (decide (2 ≤ l'.length) && l'.all (· == 0)) with
        | false => simp [h2] at h
        | true =>
          simp only [h2, cond_true, Option.some.injEq] at h
          subst h
          simp only [Bool.and_eq_true, decide_eq_true_eq, List.all_eq_true, beq_iff_eq] at h2
          refine .struct hu (fun f hf => ?_) ?_ h2.1 h2.2
          · have := List.all_eq_true.1 hc f hf
            obtain ⟨k, hk⟩ := Option.isSome_iff_exists.1 this
            exact ⟨k, kindP_underlying hk⟩
          · unfold flatP at hl
            cases hg : P.eqGuardType P.depth t with
            | true => simp [hg] at hl
            | false =>
              simp only [hg, cond_false] at hl
              split at hl
              · rename_i l2 a s g1 g2 g3
                cases hq : (l2.length == s && ((a && decide (2 ≤ s)) || (!a && s == 1))) with
                | false => simp [hq] at hl
                | true => simp only [hq, cond_true, Option.some.injEq] at hl; subst hl; exact g1
              · cases hl
    | _ => simp [hu] at h

theorem eqLs_true : ∀ {l : List Nat} {xs ys : List T}, T.eqLs l xs ys = some true → (∀ n ∈ l, n = 0) → xs = ys ∧ ∀ x ∈ xs, ∃ k n, x = .int k n
  | [], xs, ys, h, _ => by
    cases xs <;> cases ys <;> simp [T.eqLs] at h
    exact ⟨rfl, by simp⟩
  | n :: l, xs, ys, h, h0 => by
    obtain rfl := h0 n List.mem_cons_self
    cases xs with
    | nil => simp [T.eqLs] at h
    | cons x xs =>
      cases ys with
      | nil => cases x <;> simp [T.eqLs] at h
      | cons y ys =>
        cases x <;> cases y <;> simp only [T.eqLs] at h <;> try (cases h)
        rename_i k a k' b
        split at h
        · rename_i hk
          simp only [Option.map_eq_some_iff, Bool.and_eq_true, beq_iff_eq] at h
          obtain ⟨c, h1, rfl, rfl⟩ := h
          subst hk
          obtain ⟨e1, e2⟩ := eqLs_true h1 fun n hn => h0 n (List.mem_cons_of_mem _ hn)
          exact ⟨by rw [e1], fun z hz => (List.mem_cons.1 hz).elim (fun e => ⟨_, _, e⟩) (e2 z)⟩
        · cases h

theorem Rd.int_inv {k : IntKind} {n : Int} {v : Value} (h : Rd F w (.int k n) v) : v = .int k n := by cases h; rfl

/-- Keys that are told to be the same are. -/
theorem key_same {l : List Nat} {x y : T} {v u : Value} (h0 : ∀ n ∈ l, n = 0) (hx : keyS l x = true) (hl : (x.flat l).length = l.length) (h : T.eqLs l (x.flat l) (y.flat l) = some true) (r1 : Rd F w x v) (r2 : Rd F w y u) : v = u ∧ x = y ∧ Instr.sameBits 10000 v v = true := by
  obtain ⟨e1, e2⟩ := eqLs_true h h0
  match l, hx, hl with
  | [n], hx, _ =>
    have exy : x = y := by simpa [T.flat] using e1
    subst exy
    obtain ⟨k, m, rfl⟩ := e2 x (by simp [T.flat])
    rw [r1.int_inv, r2.int_inv]
    exact ⟨rfl, rfl, by simp [Instr.sameBits]⟩
  | n :: m :: l, hx, hl =>
    cases x with
    | agg cs =>
      simp only [T.flat, T.cells] at e1 e2 hl
      have hy : y = .agg cs := by
        cases y with
        | agg ds => simp only [T.cells] at e1; rw [e1]
        | _ => simp only [T.cells] at e1; rw [e1] at hl; simp at hl
      subst hy
      cases r1 with
      | @agg _ vs hl1 _ hr1 =>
      cases r2 with
      | @agg _ us hl2 _ hr2 =>
      have hint : ∀ (i : Nat) (v : Value), vs[i]? = some v → ∃ k n, v = .int k n ∧ us[i]? = some v := fun i v hv => by
        have hi : i < cs.length := by rw [← hl1]; exact (List.getElem?_eq_some_iff.1 hv).1
        have hu : us[i]? = some us[i] := List.getElem?_eq_getElem (by omega)
        have hc : cs[i]? = some cs[i] := List.getElem?_eq_getElem hi
        obtain ⟨k, m, hk⟩ := e2 cs[i] (List.getElem_mem _)
        have a1 := hr1 i _ _ hc hv
        have a2 := hr2 i _ _ hc hu
        rw [hk] at a1 a2
        exact ⟨k, m, a1.int_inv, by rw [hu, a1.int_inv, a2.int_inv]⟩
      have hvu : vs = us := List.ext_getElem? fun i => by
        cases hv : vs[i]? with
        | none =>
          have : vs.length ≤ i := List.getElem?_eq_none_iff.1 hv
          exact (List.getElem?_eq_none (by omega)).symm
        | some v => obtain ⟨_, _, _, h⟩ := hint i v hv; exact h.symm
      subst hvu
      refine ⟨rfl, rfl, ?_⟩
      show Instr.sameBits (9999 + 1) (.agg vs.toArray) (.agg vs.toArray) = true
      simp only [Instr.sameBits, beq_self_eq_true, Bool.true_and, List.all_eq_true]
      rintro ⟨p, q⟩ hpq
      obtain ⟨i, hi⟩ := List.getElem?_of_mem hpq
      rw [List.getElem?_zip_eq_some] at hi
      obtain ⟨k, m, rfl, h2⟩ := hint i p hi.1
      have : q = .int k m := by have := hi.2; simp only [] at this; rw [hi.1] at this; injection this with this; exact this.symm
      subst this
      simp [Instr.sameBits]
    | _ => cases hx

theorem keyT_inv {l : List Nat} {k : T} (h : keyT l k = true) : keyS l k = true ∧ (k.flat l).length = l.length ∧ ∀ x ∈ k.flat l, x.isInt = true := by
  simp only [keyT, Bool.and_eq_true, beq_iff_eq, List.all_eq_true] at h
  exact h
theorem run_keyStays {v : Value} (h : Instr.sameBits 10000 v v = true) : (Instr.keyThatStays v v).run P w = .ok v w := by simp [Instr.keyThatStays, h]

theorem ck_int {t : TypeId} {q : IntKind} (hu : P.underlying t = some (.int q)) (em : Bool) (n : Nat) (v : Value) : (Instr.checkKey em (n + 1) t v).run P w = .ok () w := by
  unfold Instr.checkKey
  simp only [Sem.run_bind, run_underlying hu, Result.andThen_ok]
  cases v <;> rfl
theorem forIn_same {α : Type} {l : List α} {b : α → PUnit → Sem (ForInStep PUnit)} (h : ∀ x ∈ l, ∀ u, (b x u).run P w = .ok (.yield u) w) (u : PUnit) : (forIn l u b).run P w = .ok u w := by
  induction l with
  | nil => simp
  | cons x l ih =>
    rw [List.forIn_cons, Sem.run_bind, h x List.mem_cons_self]
    simp only [Result.andThen_ok]
    exact ih fun y hy => h y (List.mem_cons_of_mem _ hy)
theorem eqLvs_place {P : Program} {d : TypeId → Option (List Nat)} : ∀ {fl : List Field} {off : Nat} {l : List Nat}, eqLvs P d fl off = some l → ∀ f ∈ fl, ∃ s a, szP P f.type = some s ∧ aggP P f.type = some a ∧ (a = true ∨ s = 1) ∧ f.offset + s ≤ off + l.length
  | [], _, _, _, f, hf => by cases hf
  | g :: fl, off, l, h, f, hf => by
    unfold eqLvs at h
    cases hg : (g.name == "_" || !(g.offset == off)) with
    | true => simp [hg] at h
    | false =>
      simp only [hg, cond_false] at h
      simp only [Bool.or_eq_false_iff, Bool.not_eq_false', beq_iff_eq, beq_eq_false_iff_ne] at hg
      cases q1 : d g.type with
      | none => simp [q1] at h
      | some l1 =>
        cases q2 : szP P g.type with
        | none => simp [q1, q2] at h
        | some s =>
          cases q3 : aggP P g.type with
          | none => simp [q1, q2, q3] at h
          | some a =>
            simp only [q1, q2, q3] at h
            cases hc : (l1.length == s && (a || s == 1)) with
            | false => simp [hc] at h
            | true =>
              simp only [hc, cond_true, Option.map_eq_some_iff] at h
              obtain ⟨l2, h3, rfl⟩ := h
              simp only [Bool.and_eq_true, Bool.or_eq_true, beq_iff_eq] at hc
              obtain ⟨rfl, hc2⟩ := hc
              rw [List.length_append]
              rcases List.mem_cons.1 hf with rfl | hf
              · exact ⟨_, a, q2, q3, hc2, by omega⟩
              · obtain ⟨s, a, e1, e2, e3, e4⟩ := eqLvs_place h3 f hf
                exact ⟨s, a, e1, e2, e3, by omega⟩

/-- A map's key may be one. -/
theorem run_checkKey_ok {t : TypeId} {l : List Nat} {k : T} {v : Value} (hk : KeyOk P t l) (h : keyS l k = true) (hl : (k.flat l).length = l.length) (r : Rd F w k v) (em : Bool) : (Instr.checkKey em 10000 t v).run P w = .ok () w := by
  cases hk with
  | @int q hu => exact ck_int hu em 9999 v
  | @struct fs l hu hf e1 h2 h0 =>
    match l, h, hl, h2 with
    | n :: m :: l, h, hl, h2 =>
    cases k with
    | agg cs =>
      cases r with
      | @agg _ vs hlv h1 hr =>
      simp only [T.flat, T.cells] at hl
      have e1' := e1
      rw [show (20 : Nat) = 19 + 1 from rfl] at e1'
      unfold eqLv at e1'
      simp only [hu] at e1'
      cases hst : P.stoodInHeld t with
      | true => simp [hst] at e1'
      | false =>
        simp only [hst, cond_false] at e1'
        have gen : ∀ N : Nat, (Instr.checkKey em (N + 1 + 1) t (.agg vs.toArray)).run P w = .ok () w := fun N => by
          unfold Instr.checkKey
          simp only [Sem.run_bind, run_underlying hu, Result.andThen_ok]
          rw [← Array.forIn_toList]
          rw [forIn_same (fun f hfm u => ?_)]
          · rfl
          · obtain ⟨s, a, g1, g2, g3, g4⟩ := eqLvs_place e1' f hfm
            obtain ⟨k, hk⟩ := hf f hfm
            have hp := run_part_of (w := w) g1 g2 g3 vs f.offset (by rw [hlv, hl]; simpa using g4)
            by_cases hn : f.name = "_"
            · simp [hn]
            · simp [hn, hp, ck_int hk]
        exact gen 9998
    | _ => cases h

/-- Entries of a map, as they are told. -/
def Ents (F : Nat → Prop) (w : World) (es : List (T × T × Nat)) (ms : List MapEntry) : Prop := ms.length = es.length ∧ ∀ (i : Nat) (x : T × T × Nat) (m : MapEntry), es[i]? = some x → ms[i]? = some m → Rd F w x.1 m.key ∧ Rd F w x.2.1 m.val ∧ m.born = x.2.2

theorem Ents.tail {x : T × T × Nat} {es : List (T × T × Nat)} {m : MapEntry} {ms : List MapEntry} (h : Ents F w (x :: es) (m :: ms)) : Ents F w es ms :=
  ⟨by simpa using h.1, fun i x m a b => h.2 (i + 1) x m (by simpa using a) (by simpa using b)⟩

/-- What a search comes to. -/
def Found (es : List (T × T × Nat)) (l : List Nat) (k : T) (j : Nat) : Option (Nat × T × Nat) → Prop
  | none => True
  | some (i, v, b) => j ≤ i ∧ ∃ k', es[i - j]? = some (k', v, b) ∧ T.eqLs l (k.flat l) (k'.flat l) = some true

theorem find_run {t : TypeId} {l : List Nat} {k : T} {v : Value} (hk : KeyOk P t l) (rk : Rd F w k v) : ∀ {es : List (T × T × Nat)} {ms : List MapEntry} {j : Nat} {r : Option (Nat × T × Nat)}, Ents F w es ms → findE l k es j = some r →
    ∃ q, ((∀ kd, P.underlying t = some (.int kd) → Instr.findNow (.int kd) v ms j = some q) ∧ (Instr.findAsking t v ms j).run P w = .ok q w) ∧ Found es l k j r ∧
      (match r with | none => q = none | some (i, _, _) => ∃ m, ms[i - j]? = some m ∧ q = some (i, m.val))
  | [], ms, j, r, he, h => by
    simp only [findE, Option.some.injEq] at h
    subst h
    have : ms = [] := List.eq_nil_of_length_eq_zero (by simpa using he.1)
    subst this
    exact ⟨none, ⟨fun _ _ => rfl, rfl⟩, trivial, rfl⟩
  | e :: es, [], j, r, he, h => by have := he.1; simp at this
  | e :: es, m :: ms, j, r, he, h => by
    obtain ⟨r1, r2, r3⟩ := he.2 0 e m rfl rfl
    unfold findE at h
    cases hq : T.eqLs l (k.flat l) (e.1.flat l) with
    | none => simp [hq] at h
    | some b =>
      have hnow : ∀ kd, P.underlying t = some (.int kd) → Instr.sameNow (.int kd) v m.key = some b := fun kd hu => by
        cases hk with
        | int _ =>
          cases k <;> cases e1 : e.1 <;> rw [e1] at hq <;> simp only [T.flat, T.eqLs] at hq <;> try (cases hq)
          rw [e1] at r1
          rw [rk.int_inv, r1.int_inv]
          simp only [Instr.sameNow]
          split at hq
          · rename_i hkk; rw [if_pos hkk]; simpa using hq
          · cases hq
        | struct h => rw [h] at hu; cases hu
      have heq : (Op.equal t v m.key).run P w = .ok b w := by
        cases hk with
        | @int kd hu =>
          have h1 := hnow kd hu
          cases v <;> simp only [Instr.sameNow] at h1 <;> try (cases h1)
          cases hm : m.key <;> rw [hm] at h1 <;> simp only [Instr.sameNow] at h1 <;> try (cases h1)
          split at h1
          · rename_i hkk
            subst hkk
            injection h1 with h1
            subst h1
            unfold Op.equal Op.maxDepth
            exact run_equalIn_int w _ t _ _ _ _ hu
          · cases h1
        | @struct fs l hu hf e1 h2 h0 =>
          obtain ⟨vs, us, _, _, hv1, hu1, hrun⟩ := run_equal_flat (E := { P := P, hint := fun _ _ => ([], []), mode := fun _ => 0, ext := fun _ => none, mcap := fun _ => false, inpl := fun _ => none }) e1 (aggP_struct hu) rfl (.inl ⟨rfl, h2⟩) rk r1 hq
          rw [hv1, hu1]; exact hrun
      simp only [hq] at h
      cases b with
      | true =>
        simp only [Option.some.injEq] at h
        subst h
        refine ⟨some (j, m.val), ⟨fun kd hu => by simp [Instr.findNow, hnow kd hu], by simp [Instr.findAsking, heq]⟩, ⟨Nat.le_refl _, e.1, by simp, hq⟩, m, by simp, rfl⟩
      | false =>
        obtain ⟨q, ⟨g1, g2⟩, g3, g4⟩ := find_run hk rk he.tail h
        refine ⟨q, ⟨fun kd hu => by simp [Instr.findNow, hnow kd hu, g1 kd hu], by simp [Instr.findAsking, heq, g2]⟩, ?_, ?_⟩
        · cases r with
          | none => trivial
          | some x =>
            obtain ⟨a1, k', a2, a3⟩ := g3
            exact ⟨by omega, k', by rw [show x.1 - j = (x.1 - (j + 1)) + 1 by omega]; exact a2, a3⟩
        · cases r with
          | none => exact g4
          | some x =>
            obtain ⟨m', a1, a2⟩ := g4
            have := g3.1
            exact ⟨m', by rw [show x.1 - j = (x.1 - (j + 1)) + 1 by omega]; exact a1, a2⟩

theorem find_key {t : TypeId} {l : List Nat} {k : T} {v : Value} (hk : KeyOk P t l) (rk : Rd F w k v) {es : List (T × T × Nat)} {ms : List MapEntry} {r : Option (Nat × T × Nat)} (he : Ents F w es ms) (h : findE l k es 0 = some r) :
    ∃ q, (Instr.findKey t v ms).run P w = .ok q w ∧ Found es l k 0 r ∧ (match r with | none => q = none | some (i, _, _) => ∃ m, ms[i]? = some m ∧ q = some (i, m.val)) := by
  obtain ⟨q, ⟨g1, g2⟩, g3, g4⟩ := find_run hk rk he h
  refine ⟨q, ?_, g3, by cases r <;> simpa using g4⟩
  cases hk with
  | int hu => exact MapKept.run_findKey hu (g1 _ hu)
  | struct hu _ _ _ _ => rw [run_findKey_eq w (by rw [hu])]; exact g2
end

section
variable {β : Type} {E : Env} {st : St} {F : Nat → Prop} {κ : Nat → Value} {w : World} {N0 : Nat} {tm : Array Value}

theorem entK_inv {l : List Nat} {k : T} {es : List (T × T × Nat)} {Kn : Res β} {K : Nat → T → Nat → Res β} (h : entK l k es Kn K ≠ .stuck) :
    (findE l k es 0 = some none ∧ entK l k es Kn K = Kn) ∨ ∃ i v b, findE l k es 0 = some (some (i, v, b)) ∧ entK l k es Kn K = K i v b := by
  unfold entK at h ⊢
  cases hf : findE l k es 0 with
  | none => simp [hf] at h
  | some r =>
    cases r with
    | none => exact .inl ⟨rfl, rfl⟩
    | some x => exact .inr ⟨x.1, x.2.1, x.2.2, rfl, rfl⟩

/-- What 'mapK' finds. -/
structure MapAt (E : Env) (st : St) (F : Nat → Prop) (κ : Nat → Value) (w : World) (t : TypeId) (p ix : PV) (v u : Value) (l : List Nat) (m : Nat) (es : List (T × T × Nat)) (c : Nat) (k : T) (kt et : TypeId) (b : Nat) (ms : Array MapEntry) : Prop where
  un : E.P.underlying t = some (.map kt et)
  ko : KeyOk E.P kt l
  hp : p = .mp m
  ho : st.heap[m]? = some (.map es c)
  hv : v = .map (some b)
  hk : κ m = .map (some b)
  hb : w.heap[b]? = some (.map ms c)
  en : Ents F w es ms.toList
  kt : keyS l k = true
  kl : (k.flat l).length = l.length
  rk : Rd F w k u

theorem mapK_inv {t : TypeId} {p ix : PV} {v u : Value} {K : List Nat → Nat → List (T × T × Nat) → Nat → T → Res β} (h : mapK E st t p ix K ≠ .stuck) (s : SI F κ w st.heap) (hp : RP F κ st.heap.length w p v) (hi : RP F κ st.heap.length w ix u) :
    ∃ l m es c k kt et b ms, mapK E st t p ix K = K l m es c k ∧ MapAt E st F κ w t p ix v u l m es c k kt et b ms := by
  unfold mapK at h ⊢
  cases hm : mapP E.P t with
  | none => simp [hm] at h
  | some q =>
    obtain ⟨kt, et⟩ := q
    simp only [hm] at h ⊢
    obtain ⟨l, hl, e⟩ := someK_inv h
    rw [e] at h ⊢
    cases hp with
    | @mp m b hN hk =>
      cases hi with
      | @t k _ rk =>
        simp only [] at h ⊢
        cases ho : st.heap[m]? with
        | none => simp [ho] at h
        | some o =>
          have hro := s.ro m o ho
          cases o with
          | map es c =>
            simp only [ho] at h ⊢
            obtain ⟨g1, e⟩ := chk_inv h
            rw [e]
            have g1 := keyT_inv g1
            obtain ⟨b', ms, h1, h2, h3, h4⟩ := hro
            rw [hk] at h1
            injection h1 with h1
            injection h1 with h1
            subst h1
            exact ⟨l, m, es, c, k, kt, et, b, ms, rfl, mapP_underlying hm, keyP_ok hl, rfl, ho, rfl, hk, h2, ⟨by simpa using h3, fun i x y a b => h4 i x y a (by simpa using b)⟩, g1.1, g1.2.1, rk⟩
          | _ => simp [ho] at h
      | _ => exact absurd rfl h
    | _ => exact absurd rfl h

theorem zeroT_run {t : TypeId} {z : T} (h : zeroT E.P t = some z) (s : SI F κ w st.heap) : ∃ v, (zeroValue t).run E.P w = .ok v w ∧ Rd F w z v := by
  unfold zeroT at h
  rw [Option.bind_eq_some_iff] at h
  obtain ⟨p, h1, h2⟩ := h
  obtain ⟨i, v, i1, i2, i3⟩ := zero_of h1
  refine ⟨v, by simp [zeroValue, typeInfo, i1, i2], ?_⟩
  exact frz_sound (F := F) (F' := F) (κ := κ) (w := w) (H := []) ⟨fun l o h => by simp at h, fun l o b h => by simp at h, fun l l' o o' b h => by simp at h, s.fl⟩ (pvConst_sound i3) (fun _ h => h) h2 (fun l _ e k xs b h => by simp at h)
theorem elT_run {t kt et : TypeId} {z : T} (h : elT E.P t = some z) (hu : E.P.underlying t = some (.map kt et)) (s : SI F κ w st.heap) : ∃ v, (zeroValue et).run E.P w = .ok v w ∧ Rd F w z v := by
  have : elT E.P t = zeroT E.P et := by simp [elT, mapP, hu]
  rw [this] at h
  exact zeroT_run h s

theorem lookupK_sound {t : TypeId} {p ix : PV} {ok : Bool} {v u : Value} {K : PV → Res β} (h : lookupK E st t p ix ok K ≠ .stuck) (s : SI F κ w st.heap) (hp : RP F κ st.heap.length w p v) (hi : RP F κ st.heap.length w ix u) :
    ∃ q x, lookupK E st t p ix ok K = K q ∧ (Instr.lookup t v u ok).run E.P w = .ok x w ∧ RP F κ st.heap.length w q x := by
  unfold lookupK at h ⊢
  obtain ⟨z, hz, e⟩ := someK_inv h
  rw [e] at h ⊢
  obtain ⟨l, m, es, c, k, kt, et, b, ms, e, A⟩ := mapK_inv h s hp hi
  rw [e] at h ⊢
  obtain ⟨zv, z1, z2⟩ := elT_run hz A.un s
  have hck := run_checkKey_ok A.ko A.kt A.kl A.rk
  have fin : ∀ {x : T} {y : Value} (f : Bool), Rd F w x y → RP F κ st.heap.length w (lookR ok x f) (if ok = true then .tuple #[y, .bool f] else y) := fun {x y} f hr => by
    cases ok with
    | false => exact .t hr
    | true =>
      refine .t (.tup (vs := [y, .bool f]) rfl fun i q r g1 g2 => ?_)
      match i with
      | 0 => simp at g1 g2; subst g1; subst g2; exact hr
      | 1 => simp at g1 g2; subst g1; subst g2; exact .bool
      | i + 2 => simp at g1
  rcases entK_inv h with ⟨hf, e⟩ | ⟨i, x, b', hf, e⟩
  · rw [e]
    obtain ⟨q, g1, g2, g3⟩ := find_key A.ko A.rk A.en hf
    simp only [] at g3
    subst g3
    refine ⟨_, _, rfl, ?_, fin false z2⟩
    rw [A.hv]
    simp only [Instr.lookup, Sem.run_bind, run_underlying A.un, Result.andThen_ok, MapKept.run_getObj_map A.hb, Sem.run_pure, hck, g1, z1]
  · rw [e]
    obtain ⟨q, g1, g2, g3⟩ := find_key A.ko A.rk A.en hf
    obtain ⟨mm, g3, rfl⟩ := g3
    obtain ⟨_, k', g4, _⟩ := g2
    have hr := (A.en.2 i _ mm (by simpa using g4) g3).2.1
    refine ⟨_, _, rfl, ?_, fin true hr⟩
    rw [A.hv]
    simp only [Instr.lookup, Sem.run_bind, run_underlying A.un, Result.andThen_ok, MapKept.run_getObj_map A.hb, Sem.run_pure, hck, g1]

/-- A map's entries written anew. -/
theorem map_set {m b c c' : Nat} {es es' : List (T × T × Nat)} {ms ms' : Array MapEntry} (h0 : N0 ≤ st.heap.length) (s : SI F κ w st.heap) (ht : TR F κ w st tm) (ho : st.heap[m]? = some (.map es c)) (hk : κ m = .map (some b)) (hb : w.heap[b]? = some (.map ms c))
    (he : Ents F w es' ms'.toList) {p : PV} {u : Value} (hp : RP F κ st.heap.length w p u) :
    ∃ w', (setObj b (.map ms' c')).run E.P w = .ok () w' ∧ Next' N0 F κ w st tm p u F κ w' ⟨st.tmps, st.heap.set m (.map es' c')⟩ := by
  have hlt : b < w.heap.size := (Array.getElem?_eq_some_iff.1 hb).1
  have hm : m < st.heap.length := (List.getElem?_eq_some_iff.1 ho).1
  have hbl : ∀ es c, blk κ m (.map es c) = some b := fun es c => by simp [blk, hk, ptrBlock]
  have hnF := (s.lt m _ b ho (hbl _ _)).2
  have hoth : ∀ d, d ≠ b → (w.heap.setIfInBounds b (.map ms' c'))[d]? = w.heap[d]? := fun d hd => Array.getElem?_setIfInBounds_ne (fun h => hd h.symm)
  have hFb : ∀ d, F d → (w.heap.setIfInBounds b (.map ms' c'))[d]? = w.heap[d]? := fun d hd => hoth d fun e => hnF (e ▸ hd)
  refine ⟨_, MapKept.run_setObj_map (.map ms' c') hb, s.objSet (w' := { w with heap := w.heap.setIfInBounds b (.map ms' c') }) ho (hbl _ _) (hbl _ _) (by simp) hoth ⟨b, ms', hk, ?_, by simpa using he.1, fun i x y a d => ?_⟩,
    Ev.objSet ho (hbl _ _) (hbl _ _) rfl rfl rfl (by simp) hoth h0 (.inr fun e k xs h => by cases h), ?_, rfl, fun i q v g1 g2 => ?_⟩
  · show (w.heap.setIfInBounds b (.map ms' c'))[b]? = _
    rw [Array.getElem?_setIfInBounds_self_of_lt hlt]
  · obtain ⟨r1, r2, r3⟩ := he.2 i x y a (by simpa using d)
    exact ⟨r1.mono (fun _ h => h) hFb, r2.mono (fun _ h => h) hFb, r3⟩
  · rw [List.length_set]
    exact hp.mono (fun _ h => h) hFb fun l hl => ⟨rfl, hp.bound l hl⟩
  · rw [List.length_set]
    exact (ht i q v g1 g2).mono (fun _ h => h) hFb fun l hl => ⟨rfl, (ht i q v g1 g2).bound l hl⟩

theorem Ents.push {es : List (T × T × Nat)} {ms : Array MapEntry} (h : Ents F w es ms.toList) {k x : T} {c : Nat} {kv xv : Value} (hk : Rd F w k kv) (hx : Rd F w x xv) : Ents F w (es ++ [(k, x, c)]) (ms.push { key := kv, val := xv, born := c }).toList := by
  refine ⟨by simpa using h.1, fun i y m a b => ?_⟩
  rw [Array.toList_push] at b
  rcases Nat.lt_or_ge i es.length with g | g
  · rw [List.getElem?_append_left g] at a
    rw [List.getElem?_append_left (by rw [h.1]; exact g)] at b
    exact h.2 i y m a b
  · rw [List.getElem?_append_right g] at a
    rw [List.getElem?_append_right (by rw [h.1]; exact g), h.1] at b
    have : i - es.length = 0 := by have := (List.getElem?_eq_some_iff.1 a).1; simp at this; omega
    rw [this] at a b
    simp at a b
    subst a; subst b
    exact ⟨hk, hx, rfl⟩
theorem Ents.set {es : List (T × T × Nat)} {ms : Array MapEntry} (h : Ents F w es ms.toList) {i b : Nat} {k x : T} {f : MapEntry → MapEntry} (hf : ∀ m, ms[i]? = some m → Rd F w k (f m).key ∧ Rd F w x (f m).val ∧ (f m).born = b) : Ents F w (es.set i (k, x, b)) (ms.modify i f).toList := by
  refine ⟨by simpa using h.1, fun j y m a d => ?_⟩
  rw [Array.getElem?_toList, Array.getElem?_modify] at d
  rw [List.getElem?_set] at a
  by_cases e : i = j
  · subst e
    simp only [if_true] at a d
    split at a
    · injection a with a; subst a
      rw [Option.map_eq_some_iff] at d
      obtain ⟨m0, d, rfl⟩ := d
      exact hf m0 d
    · cases a
  · rw [if_neg e] at a d
    exact h.2 j y m a (by simpa using d)

theorem mapSetK_sound {t : TypeId} {p ix q : PV} {v u x : Value} {K : St → Res β} (h : mapSetK E st t p ix q K ≠ .stuck) (h0 : N0 ≤ st.heap.length) (s : SI F κ w st.heap) (ht : TR F κ w st tm) (hp : RP F κ st.heap.length w p v) (hi : RP F κ st.heap.length w ix u) (hq : RP F κ st.heap.length w q x) :
    ∃ st' w', mapSetK E st t p ix q K = K st' ∧ (Instr.mapUpdate t v u x).run E.P w = .ok () w' ∧ Next' N0 F κ w st tm undefV undef F κ w' st' := by
  unfold mapSetK at h ⊢
  obtain ⟨l, m, es, c, k, kt, et, b, ms, e, A⟩ := mapK_inv h s hp hi
  rw [e] at h ⊢
  obtain ⟨y, hy, e⟩ := someK_inv h
  rw [e] at h ⊢
  obtain ⟨g0, e⟩ := cond_inv' h
  rw [e] at h ⊢
  have hry : Rd F w y x := frz_sound s hq (fun _ h => h) hy (fun l hl => by rw [List.isEmpty_iff.1 g0] at hl; cases hl)
  have hck := run_checkKey_ok A.ko A.kt A.kl A.rk
  rcases entK_inv h with ⟨hf, e⟩ | ⟨i, z, b', hf, e⟩
  · rw [e]
    obtain ⟨r, g1, g2, g3⟩ := find_key A.ko A.rk A.en hf
    simp only [] at g3
    subst g3
    obtain ⟨w', w1, w2⟩ := map_set (E := E) (c' := c + 1) h0 s ht A.ho A.hk A.hb (A.en.push (c := c) A.rk hry) (undef_rp (κ := κ) (N := st.heap.length))
    refine ⟨_, w', rfl, ?_, w2⟩
    rw [A.hv]
    simp only [Instr.mapUpdate, Sem.run_bind, run_underlying A.un, Result.andThen_ok, MapKept.run_getObj_map A.hb, hck, g1]
    exact w1
  · rw [e]
    obtain ⟨r, g1, g2, g3⟩ := find_key A.ko A.rk A.en hf
    obtain ⟨mm, g3, rfl⟩ := g3
    obtain ⟨_, k', g4, g5⟩ := g2
    have g4' : es[i]? = some (k', z, b') := by simpa using g4
    obtain ⟨r1, r2, r3⟩ := A.en.2 i _ mm g4' g3
    have h00 : ∀ n ∈ l, n = 0 := by cases A.ko with | int _ => simp | struct _ _ _ _ h => exact h
    obtain ⟨s1, s2, s3⟩ := key_same h00 A.kt A.kl g5 A.rk r1
    obtain ⟨w', w1, w2⟩ := map_set (E := E) (c' := c) h0 s ht A.ho A.hk A.hb (A.en.set (i := i) (b := b') (k := k) (x := y) (f := fun e => { e with key := u, val := x }) (fun m' hm' => by
      have : m' = mm := by have := hm'; rw [← Array.getElem?_toList, g3] at this; injection this with this; exact this.symm
      subst this
      exact ⟨A.rk, hry, r3⟩)) (undef_rp (κ := κ) (N := st.heap.length))
    refine ⟨_, w', rfl, ?_, w2⟩
    rw [A.hv]
    have hkey : (((ms[i]?).map (·.key)).getD u) = u := by rw [← Array.getElem?_toList, g3]; exact s1.symm
    simp only [Instr.mapUpdate, Sem.run_bind, run_underlying A.un, Result.andThen_ok, MapKept.run_getObj_map A.hb, hck, g1, hkey, run_keyStays s3]
    exact w1

theorem mapEntryK_sound {t : TypeId} {p ix : PV} {v u : Value} {K : PV → St → Res β} (h : mapEntryK E st t p ix K ≠ .stuck) (h0 : N0 ≤ st.heap.length) (s : SI F κ w st.heap) (ht : TR F κ w st tm) (hp : RP F κ st.heap.length w p v) (hi : RP F κ st.heap.length w ix u) :
    ∃ q x st' w', mapEntryK E st t p ix K = K q st' ∧ (Instr.mapEntry t v u).run E.P w = .ok x w' ∧ Next' N0 F κ w st tm q x F κ w' st' := by
  unfold mapEntryK at h ⊢
  obtain ⟨z, hz, e⟩ := someK_inv h
  rw [e] at h ⊢
  obtain ⟨l, m, es, c, k, kt, et, b, ms, e, A⟩ := mapK_inv h s hp hi
  rw [e] at h ⊢
  obtain ⟨zv, z1, z2⟩ := elT_run hz A.un s
  have hck := run_checkKey_ok A.ko A.kt A.kl A.rk
  have tup : ∀ {x : T} {y : Value} {n : Nat}, n ≤ big → Rd F w x y → RP F κ st.heap.length w (.t (.tup [x, .int .i64 (n : Int)])) (.tuple #[y, goInt n]) := fun {x y n} hn hr => by
    refine .t (.tup (vs := [y, goInt n]) rfl fun i q r g1 g2 => ?_)
    match i with
    | 0 => simp at g1 g2; subst g1; subst g2; exact hr
    | 1 => simp at g1 g2; subst g1; subst g2; exact .int (kindOk_nat hn)
    | i + 2 => simp at g1
  rcases entK_inv h with ⟨hf, e⟩ | ⟨i, x, b', hf, e⟩
  · rw [e] at h ⊢
    obtain ⟨gc, e⟩ := chk_inv h
    rw [e]
    obtain ⟨r, g1, g2, g3⟩ := find_key A.ko A.rk A.en hf
    simp only [] at g3
    subst g3
    obtain ⟨w', w1, w2⟩ := map_set (E := E) (c' := c + 1) h0 s ht A.ho A.hk A.hb (A.en.push (c := c) A.rk z2) (tup (by simpa using gc) z2)
    refine ⟨_, _, _, w', rfl, ?_, w2⟩
    rw [A.hv]
    simp only [Instr.mapEntry, Sem.run_bind, run_underlying A.un, Result.andThen_ok, MapKept.run_getObj_map A.hb, hck, g1, z1, w1, Sem.run_pure]
  · rw [e] at h ⊢
    obtain ⟨gc, e⟩ := chk_inv h
    rw [e]
    obtain ⟨r, g1, g2, g3⟩ := find_key A.ko A.rk A.en hf
    obtain ⟨mm, g3, rfl⟩ := g3
    obtain ⟨_, k', g4, g5⟩ := g2
    have g4' : es[i]? = some (k', x, b') := by simpa using g4
    obtain ⟨r1, r2, r3⟩ := A.en.2 i _ mm g4' g3
    have h00 : ∀ n ∈ l, n = 0 := by cases A.ko with | int _ => simp | struct _ _ _ _ h => exact h
    obtain ⟨s1, s2, s3⟩ := key_same h00 A.kt A.kl g5 A.rk r1
    have g3' : ms[i]? = some mm := by simpa using g3
    have hmod : (ms.modify i fun e => { e with key := u }) = ms := by
      apply Array.ext_getElem?
      intro j
      rw [Array.getElem?_modify]
      by_cases e : i = j
      · subst e; rw [if_pos rfl, g3']; simp [s1]
      · rw [if_neg e]
    have hset : w.heap.setIfInBounds b (.map ms c) = w.heap := by
      apply Array.ext_getElem?
      intro j
      by_cases e : b = j
      · subst e; rw [Array.getElem?_setIfInBounds_self_of_lt (Array.getElem?_eq_some_iff.1 A.hb).1, A.hb]
      · rw [Array.getElem?_setIfInBounds_ne e]
    have hkey : (((ms[i]?).map (·.key)).getD u) = u := by rw [g3']; exact s1.symm
    refine ⟨_, _, _, w, rfl, ?_, Next'.same h0 s ht (tup (by simpa using gc) r2)⟩
    rw [A.hv]
    simp only [Instr.mapEntry, Sem.run_bind, run_underlying A.un, Result.andThen_ok, MapKept.run_getObj_map A.hb, hck, g1, hkey, run_keyStays s3, hmod, MapKept.run_setObj_map _ A.hb, hset, Sem.run_pure]
    rw [g3']
    simp [r3]

theorem stamp_same {F : Nat → Prop} {w : World} {n : Int} : ∀ {es : List (T × T × Nat)} {ms : List MapEntry}, Ents F w es ms → ms.findIdx? (fun e => (e.born : Int) == n) = stampE es n
  | [], ms, h => by
    have : ms = [] := List.eq_nil_of_length_eq_zero (by simpa using h.1)
    subst this; rfl
  | e :: es, [], h => by have := h.1; simp at this
  | e :: es, m :: ms, h => by
    have ih := stamp_same (n := n) h.tail
    have hb := (h.2 0 e m rfl rfl).2.2
    unfold stampE at ih ⊢
    rw [List.findIdx?_cons, List.findIdx?_cons, ih, hb]

theorem entryStoreK_sound {t : TypeId} {p ix q : PV} {v u x : Value} {K : St → Res β} (h : entryStoreK st p ix q K ≠ .stuck) (h0 : N0 ≤ st.heap.length) (s : SI F κ w st.heap) (ht : TR F κ w st tm) (hp : RP F κ st.heap.length w p v) (hi : RP F κ st.heap.length w ix u) (hq : RP F κ st.heap.length w q x) :
    ∃ st' w', entryStoreK st p ix q K = K st' ∧ (Instr.entryStore t v u x).run E.P w = .ok () w' ∧ Next' N0 F κ w st tm undefV undef F κ w' st' := by
  unfold entryStoreK at h ⊢
  cases hp with
  | @mp m b hN hk =>
    cases hi with
    | @t n _ rn =>
      simp only [] at h ⊢
      obtain ⟨n, rfl, e⟩ := iT_inv h
      rw [e] at h ⊢
      cases ho : st.heap[m]? with
      | none => simp [ho] at h
      | some o =>
        have hro := s.ro m o ho
        cases o with
        | map es c =>
          simp only [ho] at h ⊢
          obtain ⟨y, hy, e⟩ := someK_inv h
          rw [e] at h ⊢
          obtain ⟨g0, e⟩ := cond_inv' h
          rw [e] at h ⊢
          obtain ⟨i, hs, e⟩ := someK_inv h
          rw [e] at h ⊢
          have hry : Rd F w y x := frz_sound s hq (fun _ h => h) hy (fun l hl => by rw [List.isEmpty_iff.1 g0] at hl; cases hl)
          obtain ⟨b', ms, h1, h2, h3, h4⟩ := hro
          rw [hk] at h1
          injection h1 with h1
          injection h1 with h1
          subst h1
          have en : Ents F w es ms.toList := ⟨by simpa using h3, fun i x y a b => h4 i x y a (by simpa using b)⟩
          cases hei : es[i]? with
          | none => simp [hei] at h
          | some kvb =>
            obtain ⟨k, z, sb⟩ := kvb
            simp only [hei]
            have hi : i < es.length := (List.getElem?_eq_some_iff.1 hei).1
            have hmi : ms[i]? = some ms[i] := Array.getElem?_eq_getElem (by omega)
            obtain ⟨r1, r2, r3⟩ := en.2 i _ ms[i] hei (by simp)
            obtain ⟨w', w1, w2⟩ := map_set (E := E) (c' := c) h0 s ht ho hk h2 (en.set (i := i) (b := sb) (k := k) (x := y) (f := fun e => { e with val := x }) (fun m' hm' => by
              rw [hmi] at hm'; injection hm' with hm'; subst hm'; exact ⟨r1, hry, r3⟩)) (undef_rp (κ := κ) (N := st.heap.length))
            refine ⟨_, w', rfl, ?_, w2⟩
            have hfi : ms.findIdx? (fun e => (e.born : Int) == n) = some i := by
              rw [← hs, ← stamp_same en, ← List.findIdx?_toArray]
            rw [rn.int_inv]
            simp only [Instr.entryStore, Sem.run_bind, MapKept.run_getObj_map h2, Result.andThen_ok, asInt, asIntOf, Sem.run_pure, hfi]
            exact w1
        | _ => simp [ho] at h
    | _ => exact absurd rfl h
  | _ => exact absurd rfl h

theorem Ents.erase {es : List (T × T × Nat)} {ms : Array MapEntry} (h : Ents F w es ms.toList) (i : Nat) : Ents F w (es.eraseIdx i) (ms.eraseIdxIfInBounds i).toList := by
  have e1 : (ms.eraseIdxIfInBounds i).toList = ms.toList.eraseIdx i := by
    unfold Array.eraseIdxIfInBounds
    split
    · simp
    · rename_i hi; rw [List.eraseIdx_of_length_le (by simpa using hi)]
  rw [e1]
  refine ⟨by rw [List.length_eraseIdx, List.length_eraseIdx, h.1], fun j x m a b => ?_⟩
  rw [List.getElem?_eraseIdx] at a b
  split at a
  · rename_i hj; rw [if_pos hj] at b; exact h.2 j x m a b
  · rename_i hj; rw [if_neg hj] at b; exact h.2 _ x m a b

theorem deleteK_sound {t ty kk : TypeId} {p ix : PV} {v u : Value} {K : St → Res β} (h : deleteK E st t p ix K ≠ .stuck) (h0 : N0 ≤ st.heap.length) (s : SI F κ w st.heap) (ht : TR F κ w st tm) (hp : RP F κ st.heap.length w p v) (hi : RP F κ st.heap.length w ix u) :
    ∃ st' w', deleteK E st t p ix K = K st' ∧ (Builtin.delete_ #[t, kk] ty #[v, u]).run E.P w = .ok undef w' ∧ Next' N0 F κ w st tm undefV undef F κ w' st' := by
  unfold deleteK at h ⊢
  obtain ⟨l, m, es, c, k, kt, et, b, ms, e, A⟩ := mapK_inv h s hp hi
  rw [e] at h ⊢
  have hck := run_checkKey_ok A.ko A.kt A.kl A.rk
  rcases entK_inv h with ⟨hf, e⟩ | ⟨i, x, b', hf, e⟩
  · rw [e]
    obtain ⟨r, g1, g2, g3⟩ := find_key A.ko A.rk A.en hf
    simp only [] at g3
    subst g3
    have hset : w.heap.setIfInBounds b (.map ms c) = w.heap := by
      apply Array.ext_getElem?
      intro j
      by_cases e : b = j
      · subst e; rw [Array.getElem?_setIfInBounds_self_of_lt (Array.getElem?_eq_some_iff.1 A.hb).1, A.hb]
      · rw [Array.getElem?_setIfInBounds_ne e]
    refine ⟨_, w, rfl, ?_, Next'.same h0 s ht undef_rp⟩
    rw [A.hv]
    simp [Builtin.delete_, Sem.run_bind, run_underlying A.un, Result.andThen_ok, MapKept.run_getObj_map A.hb, hck, g1, MapKept.run_setObj_map _ A.hb, hset]
    rfl
  · rw [e]
    obtain ⟨r, g1, g2, g3⟩ := find_key A.ko A.rk A.en hf
    obtain ⟨mm, g3, rfl⟩ := g3
    obtain ⟨w', w1, w2⟩ := map_set (E := E) (c' := c) h0 s ht A.ho A.hk A.hb (A.en.erase i) (undef_rp (κ := κ) (N := st.heap.length))
    refine ⟨_, w', rfl, ?_, w2⟩
    rw [A.hv]
    simp [Builtin.delete_, Sem.run_bind, run_underlying A.un, Result.andThen_ok, MapKept.run_getObj_map A.hb, hck, g1, w1]
    rfl

theorem makeMap_sound {t : TypeId} (h0 : N0 ≤ st.heap.length) (s : SI F κ w st.heap) (ht : TR F κ w st tm) :
    ∃ u κ' w', (Instr.makeMap t none).run E.P w = .ok u w' ∧ Next' N0 F κ w st tm (.mp st.heap.length) u F κ' w' ⟨st.tmps, st.heap ++ [.map [] 0]⟩ := by
  refine ⟨.map (some w.heap.size), upd κ st.heap.length (.map (some w.heap.size)), w.alloc (.map #[] 0), by simp [Instr.makeMap], ?_⟩
  refine Next'.push h0 s ht rfl rfl rfl (by simp) (fun b hb => Below.heap_alloc w _ b hb) (fun _ h => h) (fun _ h => .inl h) (fun b hb => Nat.lt_of_lt_of_le (s.fl b hb) (by simp)) ?_ ?_ ?_
  · exact ⟨w.heap.size, #[], upd_same _ _ _, heap_alloc_new' w _, rfl, fun i x m a b => by simp at a⟩
  · intro b hb
    simp only [blk, upd_same, ptrBlock, Option.some.injEq] at hb
    subst hb
    exact ⟨Nat.le_refl _, by simp, fun hf => by have := s.fl _ hf; omega⟩
  · exact .mp (Nat.lt_succ_self _) (upd_same _ _ _)
end
end Go.Sim

/- One operation. -/
namespace Go.Sim
open Go.RowKit
set_option linter.unusedVariables false
set_option linter.unusedSimpArgs false

section
variable {P : Program} {o : Oper} {a : Act} {w w' : World} {next : Act → World → Prop} {Q : Exit → Act → World → Prop}
theorem wp_value {u : Value} (h : (execOp a.eval o).run P w = .ok (.value u) w') (hn : w.drawn ≤ w'.drawn → next (a.put o.dst u) w') : o.wp P a w next Q := by
  have hd := run_drawn P _ _ h
  unfold Oper.wp; rw [h]; exact hn hd
theorem wp_skip {h : (execOp a.eval o).run P w = .ok .skip w'} (hn : next (a.put o.dst undef) w') : o.wp P a w next Q := by
  unfold Oper.wp; rw [h]; exact hn
end

section
variable {β : Type} {E : Env} {rc : Caller} {st : St} {F : Nat → Prop} {κ : Nat → Value} {w : World} {N0 : Nat} {a : Act}

theorem amap {α γ : Type} {f : α → γ} (xs : Array α) : (xs.toList.map f).toArray = xs.map f := by apply Array.ext'; simp
theorem Rd.ref_inv {x : T} {v : Value} (h : Rd F w (.ref x) v) : ∃ b o, v = .pointer (some ⟨b, o, none⟩) := by
  cases h with
  | ref val => exact ⟨_, _, rfl⟩

theorem foldlM_max (mx : Bool) (P : Program) (k : IntKind) : ∀ (ns : List Int) (m : Int) (vs : List Value), vs = ns.map (Value.int k) →
    ((vs.foldlM (if mx then Builtin.max2 else Builtin.min2) (.int k m)).run P w) = .ok (.int k (minmax mx ns m)) w
  | [], m, vs, h => by subst h; simp [minmax]
  | x :: ns, m, vs, h => by
    subst h
    cases mx with
    | true =>
      have := foldlM_max true P k ns (if x > m then x else m) (ns.map (Value.int k)) rfl
      simp only [if_true] at this
      simp [minmax, Builtin.max2, this]
    | false =>
      have := foldlM_max false P k ns (if x < m then x else m) (ns.map (Value.int k)) rfl
      simp only [Bool.false_eq_true, if_false] at this
      simp [minmax, Builtin.min2, this]

theorem intsK_sound {k : IntKind} {N : Nat} : ∀ {ps : List PV} {vs : List Value} {K : List Int → Res β}, intsK k ps K ≠ .stuck → vs.length = ps.length → (∀ (i : Nat) (p : PV) (v : Value), ps[i]? = some p → vs[i]? = some v → RP F κ N w p v) →
    ∃ ns, intsK k ps K = K ns ∧ vs = ns.map (Value.int k) ∧ ∀ n ∈ ns, kindOk k n = true
  | [], [], K, h, hl, hp => ⟨[], rfl, rfl, by simp⟩
  | [], _ :: _, K, h, hl, hp => by simp at hl
  | p :: ps, [], K, h, hl, hp => by simp at hl
  | p :: ps, v :: vs, K, h, hl, hp => by
    have hv := hp 0 p v rfl rfl
    cases hv with
    | @t x _ hx =>
      simp only [intsK] at h ⊢
      obtain ⟨n, rfl, e⟩ := iT_inv h
      rw [e] at h ⊢
      cases hx with
      | int hok =>
      obtain ⟨ns, e1, e2, e3⟩ := intsK_sound h (by simpa using hl) (fun i q u g1 g2 => hp (i + 1) q u (by simpa using g1) (by simpa using g2))
      exact ⟨n :: ns, e1, by simp [e2], fun m hm => (List.mem_cons.1 hm).elim (fun e => e ▸ hok) (e3 m)⟩
    | _ => exact absurd rfl h

theorem minmax_ok {k : IntKind} (mx : Bool) : ∀ (ns : List Int) (m : Int), kindOk k m = true → (∀ n ∈ ns, kindOk k n = true) → kindOk k (minmax mx ns m) = true
  | [], m, h, _ => h
  | x :: ns, m, h, h2 => by
    simp only [minmax]
    refine minmax_ok mx ns _ ?_ (fun n hn => h2 n (List.mem_cons_of_mem _ hn))
    have hx := h2 x List.mem_cons_self
    cases mx <;> simp only [cond_true, cond_false] <;> split <;> assumption

theorem builtinK_sound {b : Builtin} {ty : TypeId} {consts : Array Bool} {tys : List TypeId} {args : List PV} {vals : List Value} {K : PV → St → Res β} {tm : Array Value} (h : builtinK E b tys args st K ≠ .stuck) (h0 : N0 ≤ st.heap.length) (s : SI F κ w st.heap) (ht : TR F κ w st tm)
    (hl : vals.length = args.length) (ha : ∀ (i : Nat) (p : PV) (v : Value), args[i]? = some p → vals[i]? = some v → RP F κ st.heap.length w p v) :
    ∃ p u st' F' κ' w', builtinK E b tys args st K = K p st' ∧ (builtin b tys.toArray ty consts vals.toArray).run E.P w = .ok (.value u) w' ∧ Next' N0 F κ w st tm p u F' κ' w' st' := by
  unfold builtinK at h ⊢
  revert h
  split
  · rename_i t p
    intro h
    match vals, hl with
    | [v], _ =>
      have hp := ha 0 p v rfl rfl
      simp only [] at h
      have int : ∀ n : Nat, n ≤ big → RP F κ st.heap.length w (.t (.int .i64 n)) (goInt n) := fun n hn => .t (.int (kindOk_nat hn))
      cases hu : E.P.underlying t with
      | none => simp [hu] at h
      | some d =>
        cases d with
        | slice e =>
          simp only [hu] at h ⊢
          have hrun : ∀ (A : Option Addr) (n c : Nat), (builtin .len #[t] ty consts #[.slice A n c]).run E.P w = .ok (.value (goInt n)) w := fun A n c => by simp [builtin, Builtin.len_, run_underlying hu]
          cases hp with
          | nil => exact ⟨_, _, _, F, κ, w, rfl, hrun _ _ _, Next'.same h0 s ht (by simpa using int 0 (by simp))⟩
          | @own l A n c hN hk =>
            simp only [] at h ⊢
            cases ho : st.heap[l]? with
            | none => simp [ho] at h
            | some q =>
              have hro := s.ro l q ho
              cases q with
              | row e k xs =>
                obtain ⟨A', c', h1, h2⟩ := row_len hro
                rw [hk] at h1
                injection h1 with _ h1
                subst h1
                exact ⟨_, _, _, F, κ, w, rfl, hrun _ _ _, Next'.same h0 s ht (int _ h2)⟩
              | frow e k xs =>
                have h1 := hro.1
                rw [hk] at h1
                obtain ⟨h1, h2, h3⟩ := sl_len h1
                subst h1
                exact ⟨_, _, _, F, κ, w, rfl, hrun _ _ _, Next'.same h0 s ht (int _ h3)⟩
              | vec e k n xs =>
                simp only [ho] at h ⊢
                obtain ⟨A', c', h1, h2⟩ := vec_len hro
                rw [hk] at h1
                injection h1 with _ h1
                subst h1
                exact ⟨_, _, _, F, κ, w, rfl, hrun _ _ _, Next'.same h0 s ht (int _ h2)⟩
              | _ => simp [ho] at h
          | @view l k lo hi A n c hN hv =>
            obtain ⟨B, n', c', A', ⟨v1, vb⟩, v2, v3, v4, v5⟩ := hv
            injection v2 with v2 v6 v7
            subst v6
            exact ⟨_, _, _, F, κ, w, rfl, hrun _ _ _, Next'.same h0 s ht (int _ (by omega))⟩
          | @full k xs A hx =>
            have := sl_len hx
            exact ⟨_, _, _, F, κ, w, rfl, hrun _ _ _, Next'.same h0 s ht (int _ this.2.2)⟩
          | @t x _ hx =>
            simp only [] at h ⊢
            obtain ⟨k, xs, rfl, e⟩ := sllT_inv h
            rw [e]
            cases hx with
            | sl b o val hn hb => exact ⟨_, _, _, F, κ, w, rfl, hrun _ _ _, Next'.same h0 s ht (int _ hb)⟩
          | _ => exact absurd rfl h
        | string =>
          simp only [hu] at h ⊢
          cases hp with
          | @t x _ hx =>
            simp only [] at h ⊢
            obtain ⟨sb, rfl, e⟩ := strT_inv h
            rw [e]
            cases hx with
            | str hb => exact ⟨_, _, _, F, κ, w, rfl, by simp [builtin, Builtin.len_, run_underlying hu], Next'.same h0 s ht (int _ hb)⟩
          | _ => exact absurd rfl h
        | map kt et =>
          simp only [hu] at h ⊢
          cases hp with
          | @mp l b hN hk =>
            simp only [] at h ⊢
            cases ho : st.heap[l]? with
            | none => simp [ho] at h
            | some q =>
              have hro := s.ro l q ho
              cases q with
              | map es c =>
                simp only [ho] at h ⊢
                obtain ⟨h4, h5⟩ := chk_inv h
                rw [h5]
                obtain ⟨b', ms, h1, h2, h3, _⟩ := hro
                rw [hk] at h1
                injection h1 with h1
                injection h1 with h1
                subst h1
                exact ⟨_, _, _, F, κ, w, rfl, by simp [builtin, Builtin.len_, run_underlying hu, MapKept.run_getObj_map h2, h3], Next'.same h0 s ht (int _ (by simpa using h4))⟩
              | _ => simp [ho] at h
          | _ => exact absurd rfl h
        | _ => simp [hu] at h
  · rename_i t t' p q
    intro h
    match vals, hl with
    | [v, u], _ =>
      obtain ⟨r, x, st', F', κ', w', e1, e2, e3⟩ := appendK_sound (ty := ty) (tm := tm) (N0 := N0) h h0 s ht (ha 0 p v rfl rfl) (ha 1 q u rfl rfl)
      exact ⟨r, x, st', F', κ', w', e1, by simp [builtin, e2], e3⟩
  · rename_i t t' p q
    intro h
    match vals, hl with
    | [v, u], _ =>
      obtain ⟨st', w', e1, e2, e3⟩ := deleteK_sound (ty := ty) (kk := t') (tm := tm) (N0 := N0) h h0 s ht (ha 0 p v rfl rfl) (ha 1 q u rfl rfl)
      exact ⟨_, _, st', F, κ, w', e1, by simp [builtin, e2], e3⟩
  · rename_i t p
    intro h
    match vals, hl with
    | [v], _ =>
      obtain ⟨st', w', e1, e2, e3⟩ := clearK_sound (ty := ty) (tm := tm) (N0 := N0) h h0 s ht (ha 0 p v rfl rfl)
      exact ⟨_, _, st', F, κ, w', e1, by simp [builtin, e2], e3⟩
  · rename_i t t' p q
    intro h
    match vals, hl with
    | [v, u], _ =>
      obtain ⟨r, x, st', w', e1, e2, e3⟩ := copyK_sound (ty := ty) (tm := tm) (N0 := N0) h h0 s ht (ha 0 p v rfl rfl) (ha 1 q u rfl rfl)
      exact ⟨r, x, st', F, κ, w', e1, by simp [builtin, e2], e3⟩
  · rename_i t ts x r
    intro h
    match vals, hl with
    | v :: vs, hl =>
      obtain ⟨k, hk, e⟩ := someK_inv h
      rw [e] at h ⊢
      obtain ⟨n, rfl, e⟩ := iT_inv h
      rw [e] at h ⊢
      have hv := ha 0 _ v rfl rfl
      cases hv with
      | t hv =>
      cases hv with
      | int hok =>
      obtain ⟨ns, e1, e2, e3⟩ := intsK_sound (κ := κ) (w := w) (F := F) (N := st.heap.length) (vs := vs) h (by simpa using hl) (fun i q u g1 g2 => ha (i + 1) q u (by simpa using g1) (by simpa using g2))
      rw [e1]
      have := foldlM_max (w := w) true E.P k ns n vs e2
      simp only [if_true, Bool.false_eq_true, if_false] at this
      exact ⟨_, _, _, F, κ, w, rfl, by simp [builtin, Builtin.max_, Builtin.min_, this], Next'.same h0 s ht (.t (.int (minmax_ok _ ns n hok e3)))⟩
  · rename_i t ts x r
    intro h
    match vals, hl with
    | v :: vs, hl =>
      obtain ⟨k, hk, e⟩ := someK_inv h
      rw [e] at h ⊢
      obtain ⟨n, rfl, e⟩ := iT_inv h
      rw [e] at h ⊢
      have hv := ha 0 _ v rfl rfl
      cases hv with
      | t hv =>
      cases hv with
      | int hok =>
      obtain ⟨ns, e1, e2, e3⟩ := intsK_sound (κ := κ) (w := w) (F := F) (N := st.heap.length) (vs := vs) h (by simpa using hl) (fun i q u g1 g2 => ha (i + 1) q u (by simpa using g1) (by simpa using g2))
      rw [e1]
      have := foldlM_max (w := w) false E.P k ns n vs e2
      simp only [if_true, Bool.false_eq_true, if_false] at this
      exact ⟨_, _, _, F, κ, w, rfl, by simp [builtin, Builtin.max_, Builtin.min_, this], Next'.same h0 s ht (.t (.int (minmax_ok _ ns n hok e3)))⟩
  · intro h; exact absurd rfl h

theorem apK_sound (hc : CallerOk E rc) {x : T} {v : Value} {ts : List T} {vals : List Value} {K : T → Res β} (h : apK E rc x ts K ≠ .stuck) (s : SI F κ w st.heap) (hx : Rd F w x v)
    (hl : vals.length = ts.length) (ha : ∀ (i : Nat) (x : T) (v : Value), ts[i]? = some x → vals[i]? = some v → Rd F w x v) :
    ∃ g vf vc, v = .func (.func g) vf vc ∧ Invokes E.P g (vf ++ vals.toArray ++ vc) w fun u w' => ∃ r F', apK E rc x ts K = K r ∧ Rd F' w' r u ∧ Grown F w F' w' := by
  unfold apK at h ⊢
  cases hx with
  | @fn g fs cs vf vc hlf hlc hrf hrc =>
    simp only [] at h ⊢
    obtain ⟨hm, e⟩ := cond_inv' h
    rw [e] at h ⊢
    refine ⟨g, _, _, rfl, ?_⟩
    have hall : ∀ (i : Nat) (x : T) (v : Value), (fs ++ ts ++ cs)[i]? = some x → (vf ++ vals ++ vc)[i]? = some v → Rd F w x v := by
      intro i x v g1 g2
      rcases Nat.lt_or_ge i fs.length with h1 | h1
      · rw [List.append_assoc, List.getElem?_append_left h1] at g1
        rw [List.append_assoc, List.getElem?_append_left (by omega)] at g2
        exact hrf i x v g1 g2
      · rw [List.append_assoc, List.getElem?_append_right h1] at g1
        rw [List.append_assoc, List.getElem?_append_right (by omega), hlf] at g2
        rcases Nat.lt_or_ge (i - fs.length) ts.length with h2 | h2
        · rw [List.getElem?_append_left h2] at g1
          rw [List.getElem?_append_left (by omega)] at g2
          exact ha _ x v g1 g2
        · rw [List.getElem?_append_right h2] at g1
          rw [List.getElem?_append_right (by omega), hl] at g2
          exact hrc _ x v g1 g2
    have := hc.pure g (fs ++ ts ++ cs) (bind_inv h) F w (vf ++ vals ++ vc) (by simp; omega) hall s.fl
    rw [show (vf ++ vals ++ vc).toArray = vf.toArray ++ vals.toArray ++ vc.toArray by simp] at this
    refine this.mono fun u w' => ?_
    rintro ⟨r, F', e1, ho, hg⟩
    rw [e1]
    refine ⟨r, F', rfl, ?_, hg⟩
    have hm0 : E.mode g = 0 := by simpa using hm
    cases ho with
    | frozen _ h => exact h
    | row h => omega
    | tup h => omega
  | _ => exact absurd rfl h

theorem opK_sound (hc : CallerOk E rc) {dr : Bool} {o : Oper} {K : PV → St → Res β} (h : opK E rc dr o st K ≠ .stuck) (h0 : N0 ≤ st.heap.length) (rel : Rel F κ st a w) {next : Act → World → Prop} {Q : Exit → Act → World → Prop}
    (hn : ∀ p u st' F' κ' w', opK E rc dr o st K = K p st' → Next' N0 F κ w st a.tmps p u F' κ' w' st' → w.drawn ≤ w'.drawn → next (a.put o.dst u) w') : o.wp E.P a w next Q := by
  have ht : TR F κ w st a.tmps := rel.tr
  have s := rel.si
  have ev : ∀ {t : TypeId} {x : Operand} {p : PV}, evalO E.P st.tmps t x = some p → RP F κ st.heap.length w p (a.eval x) := fun h => evalO_sound rel.tl ht h
  have evs : ∀ {ty : Nat → TypeId} {os : Array Operand} {j : Nat} {ps : List PV}, evalOs E.P st.tmps ty j os.toList = some ps → (os.map a.eval).toList.length = ps.length ∧ ∀ (i : Nat) (p : PV) (v : Value), ps[i]? = some p → (os.map a.eval).toList[i]? = some v → RP F κ st.heap.length w p v := fun h => by
    obtain ⟨a1, a2⟩ := evalOs_sound rel.tl ht h
    rw [Array.toList_map]
    exact ⟨by simp [a1], a2⟩
  have same : ∀ {p : PV} {u : Value}, RP F κ st.heap.length w p u → Next' N0 F κ w st a.tmps p u F κ w st := fun h => Next'.same h0 s ht h
  obtain ⟨dst, op, type, pos, after, guard⟩ := o
  unfold opK at h hn
  cases op
  case move x =>
    simp only [] at h hn
    obtain ⟨p, e1, e2⟩ := someK_inv h
    exact wp_value (by simp [execOp]) (hn _ _ _ _ _ _ e2 (same (ev e1)))
  case assign x =>
    simp only [] at h hn
    obtain ⟨p, e1, e2⟩ := someK_inv h
    exact wp_value (by simp [execOp]) (hn _ _ _ _ _ _ e2 (same (ev e1)))
  case pick c x y =>
    simp only [] at h hn
    obtain ⟨p, e1, e2⟩ := someK_inv h
    rw [e2] at h hn
    have hc := ev e1
    cases p with
    | t z =>
      simp only [] at h hn
      obtain ⟨b, rfl, e3⟩ := bT_inv h
      rw [e3] at h hn
      generalize hv : a.eval c = v at hc
      cases hc with
      | t hc =>
      cases hc with
      | bool =>
      cases b with
      | true =>
        simp only [cond_true] at h hn
        obtain ⟨p, e4, e5⟩ := someK_inv h
        exact wp_value (by simp [execOp, hv, asBool]) (hn _ _ _ _ _ _ e5 (same (ev e4)))
      | false =>
        simp only [cond_false] at h hn
        obtain ⟨p, e4, e5⟩ := someK_inv h
        exact wp_value (by simp [execOp, hv, asBool]) (hn _ _ _ _ _ _ e5 (same (ev e4)))
    | _ => exact absurd rfl h
  case alloc e =>
    simp only [] at h hn
    obtain ⟨n, e1, e2⟩ := someK_inv h
    rw [e2] at h hn
    obtain ⟨z, e3, e4⟩ := someK_inv h
    rw [e4] at h hn
    obtain ⟨g1, e5⟩ := chk_inv h
    simp only [Bool.and_eq_true] at g1
    obtain ⟨i, zv, i1, i2, i3⟩ := zero_of e3
    obtain ⟨w', κ', r1, r2⟩ := newVar_sound (E := E) (e := e) h0 s ht (pvConst_sound i3) g1.2
    exact wp_value (by simp [execOp, Instr.alloc, zeroValue, typeInfo, i1, i2, r1]) (hn _ _ _ _ _ _ e5 r2)
  case box e x =>
    simp only [] at h hn
    obtain ⟨n, e1, e2⟩ := someK_inv h
    rw [e2] at h hn
    obtain ⟨p, e3, e4⟩ := someK_inv h
    rw [e4] at h hn
    obtain ⟨g1, e5⟩ := chk_inv h
    obtain ⟨w', κ', r1, r2⟩ := newVar_sound (E := E) (e := e) h0 s ht (ev e3) g1
    exact wp_value (by simp [execOp, Instr.box, r1]) (hn _ _ _ _ _ _ e5 r2)
  case build t parts =>
    simp only [] at h hn
    obtain ⟨ps, e1, e2⟩ := someK_inv h
    rw [e2] at h hn
    obtain ⟨a1, a2⟩ := partsOf_sound rel.tl ht e1
    obtain ⟨q, u, e3, e4, e5⟩ := buildK_sound (vs := parts.map fun (i, x) => (i, a.eval x)) (F := F) (κ := κ) (N := st.heap.length) (w := w) h (by simp [a1]) (by simpa using a2)
    exact wp_value (by simp only [execOp, Sem.run_bind, e4, Result.andThen_ok, Sem.run_pure]) (hn _ _ _ _ _ _ e3 (same e5))
  case buildSlice t n parts =>
    simp only [] at h hn
    obtain ⟨ps, e1, e2⟩ := someK_inv h
    rw [e2] at h hn
    obtain ⟨a1, a2⟩ := partsOf_sound rel.tl ht e1
    obtain ⟨q, u, st', F', κ', w', e3, e4, e5, _⟩ := buildSliceK_sound (N0 := N0) (tm := a.tmps) (vs := parts.map fun (i, x) => (i, a.eval x)) h h0 s ht (by simp [a1]) (by simpa using a2)
    exact wp_value (by simp only [execOp, Sem.run_bind, e4, Result.andThen_ok, Sem.run_pure]) (hn _ _ _ _ _ _ e3 e5)
  case load t x =>
    simp only [] at h hn
    obtain ⟨p, e1, e2⟩ := someK_inv h
    rw [e2] at h hn
    obtain ⟨q, u, e3, e4, e5⟩ := loadK_sound h s (ev e1)
    exact wp_value (by simp only [execOp, Sem.run_bind, e4, Result.andThen_ok, Sem.run_pure]) (hn _ _ _ _ _ _ e3 (same e5))
  case store t x y =>
    simp only [] at h hn
    obtain ⟨p, e1, e2⟩ := someK_inv h
    rw [e2] at h hn
    obtain ⟨q, e3, e4⟩ := someK_inv h
    rw [e4] at h hn
    obtain ⟨st', F', w', e5, e6, e7⟩ := storeK_sound (N0 := N0) (tm := a.tmps) h h0 s ht (ev e1) (ev e3)
    have hd := run_drawn E.P _ _ e6
    unfold Oper.wp
    simp only [execOp, Sem.run_bind, e6, Result.andThen_ok, Sem.run_pure]
    exact hn _ _ _ _ _ _ e5 e7 hd
  case makeMap t r =>
    simp only [] at h hn
    obtain ⟨g1, e2⟩ := cond_inv' h
    rw [e2] at h hn
    cases r with
    | some _ => cases g1
    | none =>
      obtain ⟨u, κ', w', e6, e7⟩ := makeMap_sound (E := E) (N0 := N0) (tm := a.tmps) (t := t) h0 s ht
      exact wp_value (by simp only [execOp, Option.map_none, Sem.run_bind, e6, Result.andThen_ok, Sem.run_pure]) (hn _ _ _ _ _ _ rfl e7)
  case lookup t x ix ok =>
    simp only [] at h hn
    obtain ⟨p, e1, e2⟩ := someK_inv h
    rw [e2] at h hn
    obtain ⟨q, e3, e4⟩ := someK_inv h
    rw [e4] at h hn
    obtain ⟨r, u, e5, e6, e7⟩ := lookupK_sound h s (ev e1) (ev e3)
    exact wp_value (by simp only [execOp, Sem.run_bind, e6, Result.andThen_ok, Sem.run_pure]) (hn _ _ _ _ _ _ e5 (same e7))
  case mapUpdate t m k x =>
    simp only [] at h hn
    obtain ⟨p, e1, e2⟩ := someK_inv h
    rw [e2] at h hn
    obtain ⟨q, e3, e4⟩ := someK_inv h
    rw [e4] at h hn
    obtain ⟨r, e5, e6⟩ := someK_inv h
    rw [e6] at h hn
    obtain ⟨st', w', e7, e8, e9⟩ := mapSetK_sound (N0 := N0) (tm := a.tmps) h h0 s ht (ev e1) (ev e3) (ev e5)
    have hd := run_drawn E.P _ _ e8
    unfold Oper.wp
    simp only [execOp, Sem.run_bind, e8, Result.andThen_ok, Sem.run_pure]
    exact hn _ _ _ _ _ _ e7 e9 hd
  case insert t m k x =>
    simp only [] at h hn
    obtain ⟨p, e1, e2⟩ := someK_inv h
    rw [e2] at h hn
    obtain ⟨q, e3, e4⟩ := someK_inv h
    rw [e4] at h hn
    obtain ⟨r, e5, e6⟩ := someK_inv h
    rw [e6] at h hn
    obtain ⟨st', w', e7, e8, e9⟩ := mapSetK_sound (N0 := N0) (tm := a.tmps) h h0 s ht (ev e1) (ev e3) (ev e5)
    have hd := run_drawn E.P _ _ e8
    unfold Oper.wp
    simp only [execOp, Sem.run_bind, e8, Result.andThen_ok, Sem.run_pure]
    exact hn _ _ _ _ _ _ e7 e9 hd
  case mapEntry t m k =>
    simp only [] at h hn
    obtain ⟨p, e1, e2⟩ := someK_inv h
    rw [e2] at h hn
    obtain ⟨q, e3, e4⟩ := someK_inv h
    rw [e4] at h hn
    obtain ⟨r, u, st', w', e7, e8, e9⟩ := mapEntryK_sound (N0 := N0) (tm := a.tmps) h h0 s ht (ev e1) (ev e3)
    exact wp_value (by simp only [execOp, Sem.run_bind, e8, Result.andThen_ok, Sem.run_pure]) (hn _ _ _ _ _ _ e7 e9)
  case entryStore t m sp x =>
    simp only [] at h hn
    obtain ⟨p, e1, e2⟩ := someK_inv h
    rw [e2] at h hn
    obtain ⟨q, e3, e4⟩ := someK_inv h
    rw [e4] at h hn
    obtain ⟨r, e5, e6⟩ := someK_inv h
    rw [e6] at h hn
    obtain ⟨st', w', e7, e8, e9⟩ := entryStoreK_sound (t := t) (N0 := N0) (tm := a.tmps) h h0 s ht (ev e1) (ev e3) (ev e5)
    have hx : (execOp a.eval ⟨dst, .entryStore t m sp x, type, pos, after, guard⟩).run E.P w = .ok .skip w' := by
      simp only [execOp, Sem.run_bind]
      rw [e8]; rfl
    have hd := run_drawn E.P _ _ hx
    unfold Oper.wp
    rw [hx]
    exact hn _ _ _ _ _ _ e7 e9 hd
  case nilCheck x =>
    simp only [] at h hn
    obtain ⟨p, e1, e2⟩ := someK_inv h
    rw [e2] at h hn
    have hp := ev e1
    have fin : ∀ (A : Addr), a.eval x = .pointer (some A) → (execOp a.eval ⟨dst, .nilCheck x, type, pos, after, guard⟩).run E.P w = .ok (.value (a.eval x)) w := fun A hA => by simp [execOp, hA]
    cases p with
    | ptr l o => generalize hv : a.eval x = v at hp fin; cases hp; exact wp_value (fin _ rfl) (hn _ _ _ _ _ _ rfl (same (hv ▸ ev e1)))
    | eptr l k i o => generalize hv : a.eval x = v at hp fin; cases hp; exact wp_value (fin _ rfl) (hn _ _ _ _ _ _ rfl (same (hv ▸ ev e1)))
    | rp k y o => generalize hv : a.eval x = v at hp fin; cases hp; exact wp_value (fin _ rfl) (hn _ _ _ _ _ _ rfl (same (hv ▸ ev e1)))
    | t y =>
      simp only [] at h hn
      obtain ⟨z, rfl, e3⟩ := ptrT_inv h
      rw [e3] at hn
      generalize hv : a.eval x = v at hp fin
      cases hp with
      | t hp =>
      obtain ⟨b, o, rfl⟩ := hp.ref_inv
      exact wp_value (fin _ rfl) (hn _ _ _ _ _ _ rfl (same (hv ▸ ev e1)))
    | _ => exact absurd rfl h
  case binOp op t x y t' =>
    simp only [] at h hn
    obtain ⟨p, e1, e2⟩ := someK_inv h
    rw [e2] at h hn
    obtain ⟨q, e3, e4⟩ := someK_inv h
    rw [e4] at h hn
    obtain ⟨r, u, e5, e6, e7⟩ := binK_sound h (ev e1) (ev e3) evalO_is evalO_is
    refine wp_value (u := u) (w' := w) ?_ (hn _ _ _ _ _ _ e5 (same e7))
    show (do pure (Next.value (← (do eqGuard op t x y (a.eval x) (a.eval y); binOp op t (a.eval x) (a.eval y) : Sem Value))) : Sem Next).run E.P w = _
    rw [Sem.run_bind, e6]
    rfl
  case unOp op t x =>
    simp only [] at h hn
    obtain ⟨p, e1, e2⟩ := someK_inv h
    rw [e2] at h hn
    obtain ⟨r, u, e5, e6, e7⟩ := unK_sound h (ev e1)
    exact wp_value (by simp only [execOp, Sem.run_bind, e6, Result.andThen_ok, Sem.run_pure]) (hn _ _ _ _ _ _ e5 (same e7))
  case convert t t' x =>
    simp only [] at h hn
    obtain ⟨p, e1, e2⟩ := someK_inv h
    rw [e2] at h hn
    obtain ⟨r, u, e5, e6, e7⟩ := convK_sound h (ev e1)
    exact wp_value (by simp only [execOp, Sem.run_bind, e6, Result.andThen_ok, Sem.run_pure]) (hn _ _ _ _ _ _ e5 (same e7))
  case makeInterface t x =>
    simp only [] at h hn
    obtain ⟨g1, e0⟩ := cond_inv h
    rw [e0] at h hn
    obtain ⟨p, e1, e2⟩ := someK_inv h
    rw [e2] at h hn
    obtain ⟨y, e3, e4⟩ := someK_inv h
    rw [e4] at h hn
    obtain ⟨F1, f1, f2, f3⟩ := Frz.rows s p.rows
    have hx : Rd F1 w y (a.eval x) := frz_sound s (ev e1) f1.fm e3 f2
    have hrun : (execOp a.eval ⟨dst, .makeInterface t x, type, pos, after, guard⟩).run E.P w = .ok (.value (.iface t (a.eval x))) w := by
      unfold concP at g1
      cases hu : E.P.underlying t with
      | none => simp [hu] at g1
      | some d => cases d <;> simp [hu] at g1 <;> simp [execOp, Instr.makeInterface, run_underlying hu]
    cases hr : p.rows.isEmpty with
    | true =>
      rw [hr] at h hn
      have : p.rows = [] := by simpa using hr
      refine wp_value hrun (hn _ _ _ F κ _ rfl (same (.t (.iface ?_))))
      exact frz_sound s (ev e1) (fun _ h => h) e3 (by rw [this]; simp)
    | false =>
      rw [hr] at h hn
      simp only [cond_false] at h hn
      obtain ⟨g2, e5⟩ := cond_inv h
      rw [e5] at hn
      exact wp_value hrun (hn _ _ _ F1 κ _ rfl (f1.next (β := β) h0 ht (.t (.iface hx))))
  case makeFunc fn first captured =>
    simp only [] at h hn
    obtain ⟨f, e1, e2⟩ := someK_inv h
    rw [e2] at h hn
    obtain ⟨fs, e3, e4⟩ := someK_inv h
    rw [e4] at h hn
    obtain ⟨cs, e5, e6⟩ := someK_inv h
    rw [e6] at h hn
    obtain ⟨a1, a2⟩ := evs e3
    obtain ⟨b1, b2⟩ := evs e5
    have hfn : fn = .func f := by cases fn <;> simp [funcOf] at e1; rw [e1]
    subst hfn
    have hrun : (execOp a.eval ⟨dst, .makeFunc (.func f) first captured, type, pos, after, guard⟩).run E.P w = .ok (.value (.func (.func f) (first.map a.eval).toList.toArray (captured.map a.eval).toList.toArray)) w := by simp only [execOp, Instr.makeFunc, Array.toArray_toList, Sem.run_bind, Sem.run_pure, Result.andThen_ok]
    cases hm : E.mcap f with
    | true =>
      rw [hm] at h hn
      exact wp_value hrun (hn _ _ _ _ _ _ rfl (same (.fn a1 b1 a2 b2)))
    | false =>
      rw [hm] at h hn
      simp only [cond_false] at h hn
      obtain ⟨⟨xs, H1⟩, e7, e8⟩ := someK_inv h
      rw [e8] at h hn
      simp only [] at h hn
      obtain ⟨⟨ys, H2⟩, e9, e10⟩ := someK_inv h
      rw [e10] at h hn
      obtain ⟨Fa, fa, x1, x2⟩ := captures_sound s a1 a2 e7
      obtain ⟨Fb, fb, y1, y2⟩ := captures_sound (vs := (captured.map a.eval).toList) fa.si b1 (fun i p v g1 g2 => by rw [fa.len]; exact (b2 i p v g1 g2).freeze fa.fm) e9
      exact wp_value hrun (hn _ _ _ Fb κ _ rfl ((fa.trans fb).next (β := β) h0 ht (.t (.fn (show _ = xs.length by rw [x1]; exact a1) (show _ = ys.length by rw [y1]; exact b1) (fun i x v g1 g2 => (x2 i x v g1 g2).mono fb.fm (fun _ _ => rfl)) y2))))
  case makeSlice t x y =>
    simp only [] at h hn
    obtain ⟨p, e1, e2⟩ := someK_inv h
    rw [e2] at h hn
    obtain ⟨q, e3, e4⟩ := someK_inv h
    rw [e4] at h hn
    obtain ⟨r, u, st', F', κ', w', e5, e6, e7⟩ := makeSliceK_sound (N0 := N0) (tm := a.tmps) h h0 s ht (ev e1) (ev e3)
    exact wp_value (by simp only [execOp, Sem.run_bind, e6, Result.andThen_ok, Sem.run_pure]) (hn _ _ _ _ _ _ e5 e7)
  case slice t x lo hi mx =>
    simp only [] at h hn
    obtain ⟨p, e1, e2⟩ := someK_inv h
    rw [e2] at h hn
    obtain ⟨q1, e3, e4⟩ := someK_inv h
    rw [e4] at h hn
    obtain ⟨q2, e5, e6⟩ := someK_inv h
    rw [e6] at h hn
    obtain ⟨q3, e7, e8⟩ := someK_inv h
    rw [e8] at h hn
    obtain ⟨r, u, st', F', e10, e11, e12⟩ := sliceK_sound (N0 := N0) (tm := a.tmps) h h0 s ht (ev e1) (optO_sound rel.tl ht e3) (optO_sound rel.tl ht e5) (optO_sound rel.tl ht e7)
    exact wp_value (by simp only [execOp, Sem.run_bind, e11, Result.andThen_ok, Sem.run_pure]) (hn _ _ _ _ _ _ e10 e12)
  case fieldAddr t x f =>
    simp only [] at h hn
    obtain ⟨p, e1, e2⟩ := someK_inv h
    rw [e2] at h hn
    obtain ⟨r, u, e5, e6, e7⟩ := fieldAddrK_sound h (ev e1)
    exact wp_value (by simp only [execOp, Sem.run_bind, e6, Result.andThen_ok, Sem.run_pure]) (hn _ _ _ _ _ _ e5 (same e7))
  case indexAddr t x y =>
    simp only [] at h hn
    obtain ⟨p, e1, e2⟩ := someK_inv h
    rw [e2] at h hn
    obtain ⟨q, e3, e4⟩ := someK_inv h
    rw [e4] at h hn
    obtain ⟨r, u, e5, e6, e7⟩ := indexK_sound h s (ev e1) (ev e3)
    exact wp_value (by simp only [execOp, Sem.run_bind, e6, Result.andThen_ok, Sem.run_pure]) (hn _ _ _ _ _ _ e5 (same e7))
  case index t x y =>
    simp only [] at h hn
    obtain ⟨p, e1, e2⟩ := someK_inv h
    rw [e2] at h hn
    obtain ⟨q, e3, e4⟩ := someK_inv h
    rw [e4] at h hn
    obtain ⟨r, u, e5, e6, e7⟩ := arrK_sound h (ev e1) (ev e3)
    exact wp_value (by simp only [execOp, Sem.run_bind, e6, Result.andThen_ok, Sem.run_pure]) (hn _ _ _ _ _ _ e5 (same e7))
  case field t x f =>
    simp only [] at h hn
    obtain ⟨p, e1, e2⟩ := someK_inv h
    rw [e2] at h hn
    obtain ⟨r, u, e5, e6, e7⟩ := fldK_sound h (ev e1)
    exact wp_value (by simp only [execOp, Sem.run_bind, e6, Result.andThen_ok, Sem.run_pure]) (hn _ _ _ _ _ _ e5 (same e7))
  case extract x i =>
    simp only [] at h hn
    obtain ⟨p, e1, e2⟩ := someK_inv h
    rw [e2] at h hn
    have hp := ev e1
    generalize hv : a.eval x = v at hp
    cases p with
    | tup ps =>
      simp only [] at h hn
      obtain ⟨q, e3, e4⟩ := someK_inv h
      cases hp with
      | @tup _ vs hl hr =>
        have hi : i < vs.length := by have := (List.getElem?_eq_some_iff.1 e3).1; omega
        exact wp_value (by simp [execOp, hv, Instr.extract, hi]) (hn _ _ _ _ _ _ e4 (same (hr i q _ e3 (List.getElem?_eq_getElem hi))))
    | t y =>
      simp only [] at h hn
      obtain ⟨l, z, rfl, e3, e4⟩ := compT_inv h
      cases hp with
      | t hp =>
      cases hp with
      | @tup _ vs hl hr =>
        have hi : i < vs.length := by have := (List.getElem?_eq_some_iff.1 e3).1; omega
        exact wp_value (by simp [execOp, hv, Instr.extract, hi]) (hn _ _ _ _ _ _ e4 (same (.t (hr i z _ e3 (List.getElem?_eq_getElem hi)))))
    | _ => exact absurd rfl h
  case call c =>
    obtain ⟨callee, cargs, argTypes⟩ := c
    simp only [] at h hn
    have direct : ∀ (f : FuncId) (args : List PV) (vals : List Value), callK E rc dr f args st K ≠ .stuck → (∀ p u st' F' κ' w', callK E rc dr f args st K = K p st' → Next' N0 F κ w st a.tmps p u F' κ' w' st' → w.drawn ≤ w'.drawn → next (a.put dst u) w') →
        vals.length = args.length → (∀ (i : Nat) (p : PV) (v : Value), args[i]? = some p → vals[i]? = some v → RP F κ st.heap.length w p v) →
        (execOp a.eval ⟨dst, .call ⟨callee, cargs, argTypes⟩, type, pos, after, guard⟩) = callFunc f vals.toArray → (⟨dst, .call ⟨callee, cargs, argTypes⟩, type, pos, after, guard⟩ : Oper).wp E.P a w next Q := by
      intro f args vals h1 h2 h3 h4 h5
      unfold Oper.wp
      rw [h5]
      exact (callK_sound (N0 := N0) (tm := a.tmps) hc h1 h0 s ht h3 h4).upon fun v w' ⟨p, st', F', κ', g1, g2⟩ hd => h2 p v st' F' κ' w' g1 g2 hd
    cases callee with
    | builtin b =>
      simp only [] at h hn
      obtain ⟨args, e1, e2⟩ := someK_inv h
      rw [e2] at h hn
      obtain ⟨a1, a2⟩ := evs e1
      obtain ⟨p, u, st', F', κ', w', e3, e4, e5⟩ := builtinK_sound (ty := type) (consts := cargs.map fun | .const _ => true | _ => false) (N0 := N0) (tm := a.tmps) h h0 s ht a1 a2
      simp only [Array.toArray_toList] at e4
      refine wp_value (u := u) (w' := w') ?_ (hn _ _ _ _ _ _ e3 e5)
      simp only [execOp, resolve, invoke, Sem.run_bind, Sem.run_pure, Result.andThen_ok]
      exact e4
    | value fo =>
      have val : ∀ (h : (someK (evalO E.P st.tmps 0 fo) fun p => someK (evalOs E.P st.tmps (fun i => argTypes.getD i 0) 0 cargs.toList) fun args => match p with
          | .t x => someK (PV.frzs st.heap args) fun ts => bif (PV.rowss args).isEmpty then apK E rc x ts fun r => K (.t r) st else .stuck
          | .fn f fs cs => callK E rc dr f (fs ++ args ++ cs) st K
          | _ => .stuck) ≠ .stuck) (hn : ∀ p u st' F' κ' w', (someK (evalO E.P st.tmps 0 fo) fun p => someK (evalOs E.P st.tmps (fun i => argTypes.getD i 0) 0 cargs.toList) fun args => match p with
          | .t x => someK (PV.frzs st.heap args) fun ts => bif (PV.rowss args).isEmpty then apK E rc x ts fun r => K (.t r) st else .stuck
          | .fn f fs cs => callK E rc dr f (fs ++ args ++ cs) st K
          | _ => .stuck) = K p st' → Next' N0 F κ w st a.tmps p u F' κ' w' st' → w.drawn ≤ w'.drawn → next (a.put dst u) w'), (⟨dst, .call ⟨.value fo, cargs, argTypes⟩, type, pos, after, guard⟩ : Oper).wp E.P a w next Q := by
        intro h hn
        obtain ⟨p, e1, e2⟩ := someK_inv h
        rw [e2] at h hn
        obtain ⟨args, e3, e4⟩ := someK_inv h
        rw [e4] at h hn
        obtain ⟨a1, a2⟩ := evs e3
        have hp := ev e1
        generalize hv : a.eval fo = v at hp
        cases hp with
        | @t x _ hx =>
          simp only [] at h hn
          obtain ⟨ts, e5, e6⟩ := someK_inv h
          rw [e6] at h hn
          obtain ⟨g1, e7⟩ := cond_inv' h
          rw [e7] at h hn
          have hnr : PV.rowss args = [] := by simpa using g1
          obtain ⟨t1, t2⟩ := frzs_sound s a2 e5 (fun _ h => h) (by rw [hnr]; simp)
          obtain ⟨g, vf, vc, rfl, hi⟩ := apK_sound hc h s hx (vals := (cargs.map a.eval).toList) (by omega) t2
          unfold Oper.wp
          have : execOp a.eval ⟨dst, .call ⟨.value fo, cargs, argTypes⟩, type, pos, after, guard⟩ = callFunc g (vf ++ (cargs.map a.eval) ++ vc) := by simp [execOp, resolve, hv, Deferred.ofValue, invoke]
          rw [this]
          rw [Array.toArray_toList] at hi
          exact hi.upon fun u w' ⟨r, F', g1, g2, g3⟩ hd => hn _ _ _ F' κ w' g1 (g3.next h0 s ht (.t g2)) hd
        | @fn f fs cs vf vc hlf hlc hrf hrc =>
          refine direct f (fs ++ args ++ cs) (vf ++ (cargs.map a.eval).toList ++ vc) h hn (by simp at a1 ⊢; omega) (fun i p v g1 g2 => ?_) ?_
          · rcases Nat.lt_or_ge i fs.length with h1 | h1
            · rw [List.append_assoc, List.getElem?_append_left h1] at g1
              rw [List.append_assoc, List.getElem?_append_left (by omega)] at g2
              exact hrf i p v g1 g2
            · rw [List.append_assoc, List.getElem?_append_right h1] at g1
              rw [List.append_assoc, List.getElem?_append_right (by omega), hlf] at g2
              rcases Nat.lt_or_ge (i - fs.length) args.length with h2 | h2
              · rw [List.getElem?_append_left h2] at g1
                rw [List.getElem?_append_left (by omega)] at g2
                exact a2 _ p v g1 g2
              · rw [List.getElem?_append_right h2] at g1
                rw [List.getElem?_append_right (by omega), a1] at g2
                exact hrc _ p v g1 g2
          · rw [show vf ++ (cargs.map a.eval).toList ++ vc = vf ++ cargs.toList.map a.eval ++ vc by rw [Array.toList_map], show (vf ++ cargs.toList.map a.eval ++ vc).toArray = vf.toArray ++ (cargs.toList.map a.eval).toArray ++ vc.toArray by simp, amap]
            simp [execOp, resolve, hv, Deferred.ofValue, invoke]
        | _ => exact absurd rfl h
      cases fo with
      | func f =>
        simp only [] at h hn
        obtain ⟨args, e1, e2⟩ := someK_inv h
        rw [e2] at h hn
        obtain ⟨a1, a2⟩ := evs e1
        exact direct f args _ h hn a1 a2 (by rw [Array.toArray_toList]; simp [execOp, resolve, Act.eval, Deferred.ofValue, invoke])
      | _ => exact val h hn
    | _ => exact absurd rfl h
  all_goals exact absurd rfl h
end
end Go.Sim

/- Regions: operations in a row, in the text's order or any other. -/
namespace Go.Sim
open Go.RowKit
set_option linter.unusedVariables false
set_option linter.unusedSimpArgs false
set_option linter.unusedSectionVars false

section
variable {β : Type} {E : Env} {rc : Caller} {st : St} {F : Nat → Prop} {κ : Nat → Value} {w : World} {N0 : Nat} {a : Act} {ops : Array Oper}

theorem setT_len (tm : List PV) (d : Option Tmp) (p : PV) : (setT tm d p).length = tm.length := by cases d <;> simp [setT]
theorem put_size (a : Act) (d : Option Tmp) (v : Value) : (a.put d v).tmps.size = a.tmps.size := by cases d <;> simp [Act.put]
theorem put_defers (a : Act) (d : Option Tmp) (v : Value) : (a.put d v).defers = a.defers := by cases d <;> rfl

theorem setT_tr {F : Nat → Prop} {κ : Nat → Value} {N : Nat} {w : World} {tm : List PV} {a : Act} (hl : a.tmps.size = tm.length) (ht : ∀ (i : Nat) (q : PV) (v : Value), tm[i]? = some q → a.tmps[i]? = some v → RP F κ N w q v) {p : PV} {u : Value} (hp : RP F κ N w p u) (d : Option Tmp) :
    ∀ (i : Nat) (q : PV) (v : Value), (setT tm d p)[i]? = some q → (a.put d u).tmps[i]? = some v → RP F κ N w q v := by
  cases d with
  | none => exact ht
  | some d =>
    intro i q v h1 h2
    simp only [setT] at h1
    simp only [Act.put] at h2
    by_cases e : i = d
    · subst e
      have hi : i < tm.length := by have := (List.getElem?_eq_some_iff.1 h1).1; simpa using this
      rw [List.getElem?_set_self hi] at h1
      rw [Array.getElem?_setIfInBounds_self_of_lt (by rw [hl]; exact hi)] at h2
      injection h1 with h1
      injection h2 with h2
      subst h1
      subst h2
      exact hp
    · rw [List.getElem?_set_ne (fun h => e h.symm)] at h1
      rw [Array.getElem?_setIfInBounds_ne (fun h => e h.symm)] at h2
      exact ht i q v h1 h2

theorem Next'.rel {F' : Nat → Prop} {κ' : Nat → Value} {w' : World} {st' : St} {p : PV} {u : Value} (rel : Rel F κ st a w) (h : Next' N0 F κ w st a.tmps p u F' κ' w' st') (d : Option Tmp) : Rel F' κ' ⟨setT st'.tmps d p, st'.heap⟩ (a.put d u) w' :=
  ⟨by rw [put_size, setT_len, rel.tl, h.tl], setT_tr (by rw [h.tl]; exact rel.tl) h.tr h.rp d, by rw [put_defers]; exact rel.dn, h.si⟩
theorem Rel.skip (rel : Rel F κ st a w) (d : Option Tmp) : Rel F κ ⟨setT st.tmps d undefV, st.heap⟩ (a.put d undef) w :=
  ⟨by rw [put_size, setT_len, rel.tl], setT_tr rel.tl rel.tr undef_rp d, by rw [put_defers]; exact rel.dn, rel.si⟩

theorem set_same {tm : List PV} {d : Nat} {p : PV} (h : tm.getD d .junk = p) (hp : p ≠ .junk) : tm.set d p = tm ∧ tm[d]? = some p := by
  rw [List.getD_eq_getElem?_getD] at h
  cases hd : tm[d]? with
  | none => rw [hd] at h; exact absurd h.symm hp
  | some q =>
    rw [hd] at h
    simp only [Option.getD_some] at h
    subst h
    refine ⟨?_, rfl⟩
    apply List.ext_getElem?
    intro i
    by_cases e : i = d
    · subst e; rw [List.getElem?_set_self (List.getElem?_eq_some_iff.1 hd).1, hd]
    · rw [List.getElem?_set_ne (fun h => e h.symm)]

/-- What a guard says: 'none': it stands aside. -/
def guardOf (ops : Array Oper) (tm : List PV) (o : Oper) : Option Bool := match o.guard with
  | none => some true
  | some (j, want) => match (ops[j]?).bind (·.dst) with
    | none => some false
    | some d => match tm.getD d .junk with
      | .tup [] => some false
      | .t (.bool b) => some (b == want)
      | _ => none

/-- One operation, as its guard says. -/
theorem opsK_one (o : Oper) (dr : Bool) (r : List (Oper × Bool)) (K : St → Res β) : opsK E rc ops ((o, dr) :: r) st K = match guardOf ops st.tmps o with
    | some true => opK E rc dr o st fun p st' => opsK E rc ops r ⟨setT st'.tmps o.dst p, st'.heap⟩ K
    | some false => opsK E rc ops r ⟨setT st.tmps o.dst undefV, st.heap⟩ K
    | none => .stuck := by
  simp only [opsK, guardOf]
  cases hg : o.guard with
  | none => rfl
  | some jw =>
    obtain ⟨j, want⟩ := jw
    simp only []
    cases hd : (ops[j]?).bind (·.dst) with
    | none => rfl
    | some d =>
      simp only []
      cases hp : st.tmps.getD d .junk with
      | tup l => cases l <;> rfl
      | t x =>
        cases x with
        | bool b =>
          have := (set_same hp (by simp)).1
          cases b <;> cases want <;> simp only [bT, cond_true, cond_false, this] <;> rfl
        | _ => rfl
      | _ => rfl

theorem guard_wanted (rel : Rel F κ st a w) {o : Oper} {b : Bool} (h : guardOf ops st.tmps o = some b) : Region.wanted o (yielded ops a.tmps) = b := by
  unfold guardOf at h
  unfold Region.wanted
  cases hg : o.guard with
  | none => rw [hg] at h; injection h
  | some jw =>
    obtain ⟨j, want⟩ := jw
    rw [hg] at h
    simp only [] at h ⊢
    unfold yielded
    cases hd : (ops[j]?).bind (·.dst) with
    | none => rw [hd] at h; simp only [Option.some.injEq] at h; subst h; rfl
    | some d =>
      rw [hd] at h
      simp only [Option.bind_some] at h ⊢
      have key : ∀ (p : PV), st.tmps.getD d .junk = p → p ≠ .junk → ∃ v, a.tmps[d]? = some v ∧ RP F κ st.heap.length w p v := by
        intro p hp hne
        have h1 := (set_same hp hne).2
        have h2 : d < a.tmps.size := by rw [rel.tl]; exact (List.getElem?_eq_some_iff.1 h1).1
        exact ⟨a.tmps[d], Array.getElem?_eq_getElem h2, rel.tr d p _ h1 (Array.getElem?_eq_getElem h2)⟩
      cases hp : st.tmps.getD d .junk with
      | tup l =>
        cases l with
        | nil =>
          rw [hp] at h
          obtain ⟨v, h1, h2⟩ := key _ hp (by simp)
          simp only [Option.some.injEq] at h
          subst h
          rw [h1]
          cases h2 with
          | tup hl hr => rfl
        | cons => rw [hp] at h; cases h
      | t x =>
        cases x with
        | bool b' =>
          rw [hp] at h
          obtain ⟨v, h1, h2⟩ := key _ hp (by simp)
          simp only [Option.some.injEq] at h
          rw [h1]
          cases h2 with
          | t h2 =>
          cases h2 with
          | bool =>
          subst h
          cases b' <;> cases want <;> rfl
        | _ => rw [hp] at h; cases h
      | _ => rw [hp] at h; cases h

theorem opsK_sound (hc : CallerOk E rc) {Q : Exit → Act → World → Prop} {K : St → Res β} : ∀ {l : List (Oper × Bool)} {st : St} {F : Nat → Prop} {κ : Nat → Value} {a : Act} {w : World}, opsK E rc ops l st K ≠ .stuck → N0 ≤ st.heap.length → Rel F κ st a w →
    (∀ st' F' κ' a' w', opsK E rc ops l st K = K st' → Rel F' κ' st' a' w' → EvD N0 F κ w st.heap F' κ' w' st'.heap → Q .normal a' w') → wpList E.P ops Q (l.map (·.1)) a w
  | [], st, F, κ, a, w, h, h0, rel, hq => hq st F κ a w rfl rel (EvD.refl h0)
  | (o, dr) :: r, st, F, κ, a, w, h, h0, rel, hq => by
    rw [opsK_one] at h hq
    simp only [List.map_cons, wpList]
    cases hg : guardOf ops st.tmps o with
    | none => rw [hg] at h; exact absurd rfl h
    | some b =>
      rw [hg] at h hq
      rw [guard_wanted rel hg]
      cases b with
      | true =>
        simp only [if_true] at h hq ⊢
        refine .inl (opK_sound (N0 := N0) hc h h0 rel fun p u st' F' κ' w' e hn hd => ?_)
        rw [e] at h hq
        refine opsK_sound hc h hn.ev.hl (hn.rel rel o.dst) fun st2 F2 κ2 a2 w2 e2 r2 ev2 => hq st2 F2 κ2 a2 w2 e2 r2 (EvD.trans ⟨hn.ev, hd⟩ ev2)
      | false =>
        simp only [Bool.false_eq_true, if_false] at h hq ⊢
        exact opsK_sound hc h h0 (rel.skip o.dst) hq

/-- A region in the text's order. -/
theorem region_sound (hc : CallerOk E rc) {id : Nat} {Q : Exit → Act → World → Prop} {K : St → Res β} {l : List (Oper × Bool)} (hl : l.map (·.1) = ops.toList) (h : opsK E rc ops l st K ≠ .stuck) (h0 : N0 ≤ st.heap.length) (rel : Rel F κ st a w)
    (hq : ∀ st' F' κ' a' w', opsK E rc ops l st K = K st' → Rel F' κ' st' a' w' → EvD N0 F κ w st.heap F' κ' w' st'.heap → Q .normal a' w') : (Code.region id ops false).wp E.P Q a w :=
  wp_region_list (by rw [← hl]; exact opsK_sound hc h h0 rel hq)
end
end Go.Sim
