/- Stores; new variables; made rows. -/
import Derived.Test.YtmidmdabmalhgaaD12
namespace Go.Sim
open Go.RowKit
set_option linter.unusedVariables false
set_option linter.unusedSimpArgs false

section
variable {P : Program}
theorem run_storeVar_at {w : World} {b o : Nat} {t e : TypeId} {s : Nat} {cur : Array Value} {v : Value} (hs : szP P t = some s) (hg : w.heap[b]? = some (.cells cur e (0, 0))) (hv : v.cells.size = s) (ho : o + s ≤ cur.size) (h1 : ∀ c ∈ v.cells, c.oneCell' = true) :
    (Instr.storeAt t (.pointer (some ⟨b, o, none⟩)) v).run P w = .ok () (w.setRow b (cur.toList.take o ++ v.cells.toList ++ cur.toList.drop (o + s)).toArray) := by
  have := run_storeCells_at P b o e v.cells.toList 0 cur w hg (by simpa [hv] using ho) (by simpa using h1)
  simp only [Nat.add_zero, Array.length_toList, hv] at this
  simp [Instr.storeAt, Instr.sureAddr, storeVar, run_sizeOf' hs, hv, this]
end

section
variable {β : Type} {E : Env} {st : St} {F : Nat → Prop} {κ : Nat → Value} {w : World} {N0 : Nat} {tm : Array Value}

theorem undef_rp {F : Nat → Prop} {κ : Nat → Value} {N : Nat} {w : World} : RP F κ N w undefV undef := .tup (cs := []) (vs := []) rfl (fun i p v h => by simp at h)

theorem storeK_sound {t : TypeId} {p q : PV} {K : St → Res β} {v u : Value} (h : storeK E st t p q K ≠ .stuck) (h0 : N0 ≤ st.heap.length) (s : SI F κ w st.heap) (ht : TR F κ w st tm) (hp : RP F κ st.heap.length w p v) (hq : RP F κ st.heap.length w q u) :
    ∃ st' F' w', storeK E st t p q K = K st' ∧ (Instr.storeAt t v u).run E.P w = .ok () w' ∧ Next' N0 F κ w st tm undefV undef F' κ w' st' := by
  unfold storeK at h ⊢
  cases hs : szP E.P t with
  | none => simp [hs] at h
  | some sz =>
    cases ha : aggP E.P t with
    | none => simp [hs, ha] at h
    | some a =>
      simp only [hs, ha] at h ⊢
      obtain ⟨hg, he⟩ := cond_inv h
      rw [he] at h ⊢
      clear he
      obtain ⟨hok, he⟩ := chk_inv h
      rw [he] at h ⊢
      clear he
      obtain ⟨u1, u2⟩ := okS_sound hq hok
      obtain ⟨u3, u4⟩ := hq.cells u1 u2
      cases hp with
      | @ptr l o b hN hl =>
        cases ho : st.heap[l]? with
        | none => simp [ho] at h
        | some obj =>
          have hro := s.ro l obj ho
          cases obj with
          | box e n p0 =>
            simp only [ho] at h ⊢
            obtain ⟨b', vs, vv, r1, r2, r3, r4, r5, r6⟩ := hro
            rw [hl] at r1
            injection r1 with r1; injection r1 with r1; injection r1 with r1
            subst r1
            subst r3
            have hblk : ∀ p' : PV, blk κ l (.box e n p') = some b := fun p' => by simp [blk, hl, ptrBlock]
            have fin : ∀ (p' : PV) (vv' : Value) (cs : Array Value), cs = vv'.cells → cs.size = n → (∀ c ∈ cs, c.oneCell' = true) → RP F κ st.heap.length w p' vv' →
                Next' N0 F κ w st tm undefV undef F κ (w.setRow b cs) ⟨st.tmps, st.heap.set l (.box e n p')⟩ := by
              intro p' vv' cs h1 h2 h3 h4
              have hoth : ∀ c, c ≠ b → (w.setRow b cs).heap[c]? = w.heap[c]? := fun c hc => setRow_other w b c cs hc
              have hFb : ∀ c, F c → (w.setRow b cs).heap[c]? = w.heap[c]? := fun c hc => hoth c fun e => (s.lt l _ b ho (hblk p0)).2 (e ▸ hc)
              have mono : ∀ {p : PV} {v : Value}, RP F κ st.heap.length w p v → RP F κ st.heap.length (w.setRow b cs) p v := fun h => h.mono (fun _ h => h) hFb fun l hl => ⟨rfl, h.bound l hl⟩
              refine ⟨s.objSet ho (hblk p0) (hblk p') (by simp) hoth ⟨b, cs, vv', hl, setRow_heap w b _ _ _ _ r2, h1, h2, h3, mono h4⟩,
                Ev.objSet ho (hblk p0) (hblk p') rfl rfl rfl (by simp) hoth h0 (.inr (by simp)), undef_rp, rfl, fun i q v g1 g2 => ?_⟩
              simpa using mono (ht i q v g1 g2)
            cases hw : (o == 0 && sz == n) with
            | true =>
              simp only [Bool.and_eq_true, beq_iff_eq] at hw
              obtain ⟨rfl, rfl⟩ := hw
              refine ⟨_, F, _, rfl, run_storeVar_at hs r2 u1 (by omega) u2, fin q u _ ?_ (by simp [u1, r4]) (fun c hc => u2 c ?_) hq⟩
              · apply Array.ext'; simp [← r4]
              · have : ((List.take 0 vv.cells.toList ++ u.cells.toList ++ List.drop (0 + sz) vv.cells.toList).toArray) = u.cells := by apply Array.ext'; simp [← r4]
                rwa [this] at hc
            | false =>
              rw [hw] at h
              simp only [cond_false] at h ⊢
              obtain ⟨h5, h6⟩ := cond_inv' h
              rw [h6]
              have h5 : o + sz ≤ n := by simpa using h5
              obtain ⟨c1, c2⟩ := r6.cells r4 r5
              refine ⟨_, F, _, rfl, run_storeVar_at hs r2 u1 (by omega) u2, fin _ (.agg (vv.cells.toList.take o ++ u.cells.toList ++ vv.cells.toList.drop (o + sz)).toArray) _ rfl (by simp; omega) (fun c hc => ?_) (mkAgg_rp (by simp; omega) (fun c hc => ?_) fun i p' c hp' hc => ?_)⟩
              · simp only [List.mem_toArray, List.mem_append] at hc
                rcases hc with (hc | hc) | hc
                · exact r5 c (by simpa using List.mem_of_mem_take hc)
                · exact u2 c (by simpa using hc)
                · exact r5 c (by simpa using List.mem_of_mem_drop hc)
              · simp only [List.mem_append] at hc
                rcases hc with (hc | hc) | hc
                · exact r5 c (by simpa using List.mem_of_mem_take hc)
                · exact u2 c (by simpa using hc)
                · exact r5 c (by simpa using List.mem_of_mem_drop hc)
              · rw [splice_get _ _ u3 (by omega)] at hp'
                rw [splice_get _ _ (by simpa using u1) (by simp; omega)] at hc
                split at hp'
                · rename_i g; rw [if_pos g] at hc; exact c2 i p' c hp' (by simpa using hc)
                · rename_i g
                  rw [if_neg g] at hc
                  split at hp'
                  · rename_i g2; rw [if_pos g2] at hc; exact u4 _ p' c hp' (by simpa using hc)
                  · rename_i g2; rw [if_neg g2] at hc; exact c2 i p' c hp' (by simpa using hc)
          | _ => simp [ho] at h
      | @eptr l k i o b n c hN hl hi =>
        cases ho : st.heap[l]? with
        | none => simp [ho] at h
        | some obj =>
          have hro := s.ro l obj ho
          cases obj with
          | row e k' xs =>
            simp only [ho] at h ⊢
            obtain ⟨hk, e1⟩ := cond_inv h
            rw [e1] at h ⊢
            clear e1
            have hk' : k' = k := by simpa using hk
            subst hk'
            obtain ⟨y, hy, e1⟩ := someK_inv h
            rw [e1] at h ⊢
            clear e1
            obtain ⟨hnr, e1⟩ := cond_inv h
            rw [e1] at h ⊢
            clear e1
            obtain ⟨F', s', a1, a2, a3, a4, a5, a6⟩ := freeze_sound q.rows s
            have hrd := frz_sound s hq a1 hy a4
            have hev : Ev N0 F κ w st.heap F' κ w (freezeRows q.rows st.heap) := Ev.freeze q.rows h0 a1 a2 a3 a5
            have ho' : (freezeRows q.rows st.heap)[l]? = some (.row e k' xs) := by
              rw [freezeRows_other]; · exact ho
              · intro hm; simp [List.contains_iff_mem] at hnr; exact hnr hm
            obtain ⟨cs, o1, o2, o3, o4, o5⟩ := s'.ro l _ ho'
            have hown := o1
            rw [hl] at hown
            rcases hown.2 with ⟨hnil, _⟩ | ⟨g, cap, cur, q1, q2, q3, q4, q5, q6, q7⟩
            · cases hnil
            simp only [Value.slice.injEq, Option.some.injEq, Addr.mk.injEq, and_true, true_and] at q1
            obtain ⟨rfl, hn, rfl⟩ := q1
            subst hn
            have hcs : cs.length = xs.length * k' := o1.1
            have hblk : ∀ xs' : List T, blk κ l (.row e k' xs') = some b := fun xs' => by simp [blk, hl, Value.ownBlock]
            -- what the store leaves
            have hin : o + sz ≤ k' → i * k' + o + sz ≤ xs.length * k' := fun hle => by
              calc i * k' + o + sz ≤ i * k' + k' := by omega
                _ = (i + 1) * k' := by rw [Nat.succ_mul]
                _ ≤ xs.length * k' := Nat.mul_le_mul_right _ hi
            have fin : o + sz ≤ k' → ∀ (y' : T), y'.cells.length = k' → (k' = 1 → y'.isAgg = false) →
                (∀ (j : Nat) (z : T) (c : Value), y'.cells[j]? = some z → (if j < o then cs[i * k' + j]? else if j < o + sz then u.cells[j - o]? else cs[i * k' + j]?) = some c → Rd F' w z c) →
                ∃ w', (Instr.storeAt t (.pointer (some ⟨b, i * k' + o, none⟩)) u).run E.P w = .ok () w' ∧ Next' N0 F κ w st tm undefV undef F' κ w' ⟨st.tmps, (freezeRows q.rows st.heap).set l (.row e k' (xs.set i y'))⟩ := by
              intro hle y' g1 g2 g3
              have hcur : xs.length * k' ≤ cur.size := by rw [q6]; exact Nat.mul_le_mul_right _ q4
              have hfit : (i * k' + o) + sz ≤ cur.size := Nat.le_trans (hin hle) hcur
              refine ⟨_, run_storeVar_at hs q3 u1 hfit u2, ?_⟩
              generalize hcur' : (cur.toList.take (i * k' + o) ++ u.cells.toList ++ cur.toList.drop (i * k' + o + sz)).toArray = cur'
              have hoth : ∀ c, c ≠ b → (w.setRow b cur').heap[c]? = w.heap[c]? := fun c hc => setRow_other w b c cur' hc
              have hFb : ∀ c, F' c → (w.setRow b cur').heap[c]? = w.heap[c]? := fun c hc => hoth c fun e => (s'.lt l _ b ho' (hblk xs)).2 (e ▸ hc)
              have mono : ∀ {p : PV} {v : Value}, RP F κ st.heap.length w p v → RP F' κ st.heap.length (w.setRow b cur') p v := fun h => (h.freeze a1).mono (fun _ h => h) hFb fun l hl => ⟨rfl, h.bound l hl⟩
              have htake : cur'.toList.take (xs.length * k') = cs.take (i * k' + o) ++ u.cells.toList ++ cs.drop (i * k' + o + sz) := by
                rw [← hcur', ← q7]
                apply List.ext_getElem?
                intro j
                rw [splice_get _ _ (by simpa using u1) (by simp; have := hin hle; omega)]
                simp only [List.getElem?_take]
                by_cases hj : j < xs.length * k'
                · simp only [if_pos hj]
                  rw [splice_get _ _ (by simpa using u1) (by simpa using hfit)]
                · simp only [if_neg hj]
                  rw [if_neg (by have := hin hle; omega), if_neg (by have := hin hle; omega)]
              have hlen' : (cs.take (i * k' + o) ++ u.cells.toList ++ cs.drop (i * k' + o + sz)).length = xs.length * k' := by rw [splice_len _ _ (by simpa using u1) (by have := hin hle; omega)]; exact hcs
              have hro' : RO F' κ (freezeRows q.rows st.heap).length (w.setRow b cur') l (.row e k' (xs.set i y')) := by
                refine ⟨cs.take (i * k' + o) ++ u.cells.toList ++ cs.drop (i * k' + o + sz), ?_, by simpa using o2, fun x hx => ?_, fun c hc => ?_, fun i' x j z c hx hz hc => ?_⟩
                · rw [hl, List.length_set]
                  exact ⟨hlen', .inr ⟨b, _, cur', rfl, q2, setRow_heap w b _ _ _ _ q3, q4, q5, by rw [← hcur']; simp; omega, htake⟩⟩
                · rcases List.mem_or_eq_of_mem_set hx with hx | rfl
                  · exact o3 x hx
                  · exact ⟨g1, g2⟩
                · simp only [List.mem_append] at hc
                  rcases hc with (hc | hc) | hc
                  · exact o4 c (List.mem_of_mem_take hc)
                  · exact u2 c (by simpa using hc)
                  · exact o4 c (List.mem_of_mem_drop hc)
                · refine Rd.mono (fun _ h => h) hFb ?_
                  rw [splice_get _ _ (by simpa using u1) (by have := hin hle; omega)] at hc
                  by_cases e0 : i' = i
                  · subst e0
                    rw [List.getElem?_set_self hi] at hx
                    injection hx with hx
                    subst hx
                    refine g3 j z c hz ?_
                    simp only [Nat.add_assoc, Nat.add_lt_add_iff_left, Nat.add_sub_add_left] at hc
                    simpa using hc
                  · rw [List.getElem?_set_ne (fun h => e0 h.symm)] at hx
                    have hj : j < k' := by rw [← (o3 x (List.mem_of_getElem? hx)).1]; exact (List.getElem?_eq_some_iff.1 hz).1
                    have hout : i' * k' + j < i * k' + o ∨ i * k' + o + sz ≤ i' * k' + j := by
                      rcases Nat.lt_or_gt_of_ne e0 with h1 | h1
                      · left
                        calc i' * k' + j < i' * k' + k' := by omega
                          _ = (i' + 1) * k' := by rw [Nat.succ_mul]
                          _ ≤ i * k' := Nat.mul_le_mul_right _ h1
                          _ ≤ i * k' + o := by omega
                      · right
                        calc i * k' + o + sz ≤ i * k' + k' := by omega
                          _ = (i + 1) * k' := by rw [Nat.succ_mul]
                          _ ≤ i' * k' := Nat.mul_le_mul_right _ h1
                          _ ≤ i' * k' + j := by omega
                    refine o5 i' x j z c hx hz ?_
                    rcases hout with h1 | h1
                    · rw [if_pos h1] at hc; exact hc
                    · rw [if_neg (by omega), if_neg (by omega)] at hc; exact hc
              refine ⟨s'.objSet ho' (hblk _) (hblk _) (by simp) hoth hro', hev.trans (Ev.objSet ho' (hblk _) (hblk _) rfl rfl rfl (by simp) hoth (by rw [freezeRows_length]; exact h0) (.inl ⟨_, _, _, rfl⟩)), undef_rp, rfl, fun i q v g1 g2 => ?_⟩
              simpa [freezeRows_length] using mono (ht i q v g1 g2)
            -- the cells of what is stored
            have hyc : ∀ (j : Nat) (z : T) (c : Value), y.cells[j]? = some z → u.cells[j]? = some c → Rd F' w z c := fun j z c hz hc => by
              obtain ⟨b1, b2⟩ := RP.cells (κ := κ) (N := 0) (.t hrd) u1 u2
              have hj : j < sz := by have := (Array.getElem?_eq_some_iff.1 hc).1; omega
              have := b2 j (.t z) c (by simp [PV.cells, List.getElem?_range hj, T.cell, List.getD_eq_getElem?_getD, hz]) hc
              cases this with
              | t h => exact h
            have hys : y.cells.length = sz := by
              by_cases hv : u.oneCell' = true
              · rw [eq_zero_cells (hrd.notAgg hv)]
                rw [cells_one hv] at u1; simpa using u1
              · cases hrd with
                | agg hl' _ _ => simp [Value.cells] at u1; simp [T.cells]; omega
                | @tup _ vs _ _ => exact absurd (u2 (.tuple vs.toArray) (by simp [Value.cells])) (by simp [Value.oneCell'])
                | _ => exact absurd rfl hv
            cases hw : (o == 0 && sz == k') with
            | true =>
              rw [hw] at h
              simp only [Bool.and_eq_true, beq_iff_eq] at hw
              obtain ⟨rfl, rfl⟩ := hw
              simp only [cond_true] at h ⊢
              obtain ⟨h5, h6⟩ := chk_inv h
              rw [h6]
              obtain ⟨w', f1, f2⟩ := fin (by omega) y hys (fun h => by simpa [h] using h5) (fun j z c hz hc => by
                rw [if_neg (by omega)] at hc
                have hj : j < sz := by rw [← hys]; exact (List.getElem?_eq_some_iff.1 hz).1
                rw [if_pos (by omega)] at hc
                exact hyc j z c hz (by simpa using hc))
              exact ⟨_, F', w', rfl, f1, f2⟩
            | false =>
              rw [hw] at h
              simp only [cond_false] at h ⊢
              obtain ⟨h5, h6⟩ := cond_inv' h
              rw [h6]
              have h5 : o + sz ≤ k' := by simpa using h5
              have hx : xs.getD i .nilp ∈ xs := by rw [List.getD_eq_getElem?_getD, List.getElem?_eq_getElem hi]; exact List.getElem_mem _
              have hxi : xs[i]? = some (xs.getD i .nilp) := by rw [List.getD_eq_getElem?_getD, List.getElem?_eq_getElem hi]; rfl
              have hxl := (o3 _ hx).1
              by_cases hk1 : k' = 1
              · -- sz = 1, o = 0: the whole
                exfalso
                have : sz = 1 ∧ o = 0 := by
                  rcases guard_of hg with ⟨_, h2⟩ | ⟨_, h2⟩ <;> omega
                obtain ⟨rfl, rfl⟩ := this
                simp [hk1] at hw
              · have hpl : ((xs.getD i .nilp).cells.take o ++ y.cells ++ (xs.getD i .nilp).cells.drop (o + y.cells.length)).length = k' := by
                  rw [splice_len _ _ rfl (by omega)]; exact hxl
                obtain ⟨w', f1, f2⟩ := fin h5 ((xs.getD i .nilp).putD o y.cells) (by simpa [T.putD, T.cells] using hpl) (fun h => absurd h hk1) (fun j z c hz hc => by
                  change ((xs.getD i .nilp).cells.take o ++ y.cells ++ (xs.getD i .nilp).cells.drop (o + y.cells.length))[j]? = some z at hz
                  rw [splice_get _ _ rfl (by rw [hys]; omega), hys] at hz
                  split at hz
                  · rename_i g; rw [if_pos g] at hc; exact o5 i _ j z c hxi hz hc
                  · rename_i g
                    rw [if_neg g] at hc
                    split at hz
                    · rename_i g2; rw [if_pos g2] at hc; exact hyc _ z c hz hc
                    · rename_i g2; rw [if_neg g2] at hc; exact o5 i _ j z c hxi hz hc)
                exact ⟨_, F', w', rfl, f1, f2⟩
          | _ => simp [ho] at h
      | _ => exact absurd rfl h
end
end Go.Sim
