/- append: its soundness. -/
import Derived.Test.YtmidmdabmalhgaaD10b
namespace Go.Sim
open Go.RowKit
set_option linter.unusedVariables false
set_option linter.unusedSimpArgs false

theorem big_max : big + big ≤ maxLen := by decide

section
variable {P : Program}
theorem run_append_empty (w : World) (base : Nat) (t ty e : TypeId) (i : TypeInfo) (size : Nat) (ht : P.underlying t = some (.slice e)) (hi : P.info? e = some i)
    (v : Value) (n : Nat) (xs : List Value) (hown : w.ownsRow base e size v n xs) (c : Nat) :
    (Builtin.append_ #[t, t] ty #[v, .slice none 0 c]).run P w = .ok v w := by
  rcases hown.2 with ⟨rfl, rfl⟩ | ⟨g, cap, cur, rfl, _, _, hnc, _⟩
  · simp [Builtin.append_, run_underlying ht, sizeOf, typeInfo, hi, Builtin.lenOf, Builtin.firstCells]
  · simp [Builtin.append_, run_underlying ht, sizeOf, typeInfo, hi, Builtin.lenOf, Builtin.firstCells, hnc, storeCells]

/-- append onto a row of one's own, of what is read off a slice. -/
theorem run_append_any (w : World) (t ty e : TypeId) {k b : Nat} (ht : P.underlying t = some (.slice e)) (hs : szP P e = some (k + 1)) (hby : byP P e = some (b + 1)) (hz : zeroOk P e (k + 1) = true)
    (v : Value) (n : Nat) (xs : List Value) (hown : w.ownsRow 0 e (k + 1) v n xs) (A : Option Addr) (m c : Nat) (news : List Value) (hl : news.length = m * (k + 1))
    (hA : (A = none ∧ m = 0) ∨ ∃ ad : Addr, A = some ad ∧ ∀ (j : Nat) (u : Value), news[j]? = some u → w.cell? (ad.add j) = some u) (h1 : ∀ u ∈ news, u.oneCell' = true)
    (hb : (n + m) * (b + 1) ≤ big) :
    ∃ v' w', (Builtin.append_ #[t, t] ty #[v, .slice A m c]).run P w = .ok v' w' ∧ w'.ownsRow 0 e (k + 1) v' (n + m) (xs ++ news) ∧ w.grownBy w' v.ownBlock ∧
      (v'.ownBlock = v.ownBlock ∨ v'.ownBlock = some w.heap.size) := by
  obtain ⟨i, hi, hsz⟩ := info_of_sz hs
  have hby' : i.bytes = b + 1 := by simpa [byP, hi] using hby
  have hle : n + m ≤ big := Nat.le_trans (Nat.le_mul_of_pos_right _ (by omega)) hb
  have hmax := big_max
  rcases hA with ⟨rfl, rfl⟩ | ⟨ad, rfl, hA⟩
  · have : news = [] := List.eq_nil_of_length_eq_zero (by simpa using hl)
    subst this
    exact ⟨v, w, run_append_empty w 0 t ty e i (k + 1) ht hi v n xs hown c, by simpa using hown, ⟨rfl, rfl, rfl, Nat.le_refl _, fun _ _ _ => rfl⟩, .inl rfl⟩
  · unfold zeroOk at hz
    cases hz' : (P.info? e).bind (·.zero) with
    | none => simp [hz'] at hz
    | some z =>
      simp only [hz', beq_iff_eq] at hz
      have hz2 : i.zero = some z := by simpa [hi] using hz'
      obtain ⟨v', w', a1, a2, a3, _, a5⟩ := run_append_own_at (P := P) w 0 t ty e i z (k + 1) (b + 1) ht hi hz2 hsz hby' hz (by omega) v n xs hown ad m c news hl hA h1 (by omega) hb (by omega)
      exact ⟨v', w', a1, a2, a3, a5⟩

/-- append onto a slice that has no room: always a new row. -/
theorem run_append_full (w : World) (t ty e : TypeId) {k b : Nat} (ht : P.underlying t = some (.slice e)) (hs : szP P e = some (k + 1)) (hby : byP P e = some (b + 1)) (hz : zeroOk P e (k + 1) = true)
    (S : Option Addr) (n : Nat) (olds : List Value) (hlo : olds.length = n * (k + 1)) (hS : (S = none ∧ n = 0) ∨ ∃ ad : Addr, S = some ad ∧ ∀ (j : Nat) (u : Value), olds[j]? = some u → w.cell? (ad.add j) = some u)
    (A : Option Addr) (m c : Nat) (news : List Value) (hl : news.length = m * (k + 1)) (hm : 0 < m)
    (hA : (A = none ∧ m = 0) ∨ ∃ ad : Addr, A = some ad ∧ ∀ (j : Nat) (u : Value), news[j]? = some u → w.cell? (ad.add j) = some u) (hb : (n + m) * (b + 1) ≤ big) :
    ∃ v' w', (Builtin.append_ #[t, t] ty #[.slice S n n, .slice A m c]).run P w = .ok v' w' ∧ w'.ownsRow 0 e (k + 1) v' (n + m) (olds ++ news) ∧ w.grownBy w' none ∧ v'.ownBlock = some w.heap.size := by
  obtain ⟨i, hi, hsz⟩ := info_of_sz hs
  have hby' : i.bytes = b + 1 := by simpa [byP, hi] using hby
  have hle : n + m ≤ big := Nat.le_trans (Nat.le_mul_of_pos_right _ (by omega)) hb
  have hmax := big_max
  have h63 : n + m ≤ maxLen := by omega
  have hbm : big + big ≤ 9223372036854775807 := by decide
  rcases hA with ⟨rfl, rfl⟩ | ⟨ad, rfl, hA⟩
  · omega
  unfold zeroOk at hz
  cases hz' : (P.info? e).bind (·.zero) with
  | none => simp [hz'] at hz
  | some z =>
    simp only [hz', beq_iff_eq] at hz
    have hz2 : i.zero = some z := by simpa [hi] using hz'
    have hlen : (olds ++ news).length = (n + m) * (k + 1) := by rw [List.length_append, hlo, hl, Nat.add_mul]
    have grown : (w.drew.alloc (.cells (olds.toArray ++ news.toArray ++ Builtin.zeroCells z.cells (grownCap w (n + m) n e - (n + m))) e)).ownsRow 0 e (k + 1)
        (.slice (some ⟨w.heap.size, 0, none⟩) (n + m) (grownCap w (n + m) n e)) (n + m) (olds ++ news) := by
      have hge := grownCap_ge w (n + m) n e
      have hcm := grownCap_le_maxLen w (n + m) n e h63
      refine ⟨hlen, .inr ⟨w.heap.size, _, _, rfl, by omega, heap_alloc_new w.drew _, hge, hcm, ?_, ?_⟩⟩
      · simp only [Array.size_append, List.size_toArray, size_zeroCells, hz, hlo, hl, ← Nat.add_mul]
        congr 1
        omega
      · simp only [Array.toList_append, List.append_assoc]
        rw [← List.append_assoc, ← hlen]
        exact List.take_left
    have hgb : w.grownBy (w.drew.alloc (.cells (olds.toArray ++ news.toArray ++ Builtin.zeroCells z.cells (grownCap w (n + m) n e - (n + m))) e)) none :=
      ⟨rfl, rfl, rfl, by simp, fun k hk _ => heap_alloc_old w.drew _ k hk⟩
    rcases hS with ⟨rfl, rfl⟩ | ⟨sd, rfl, hS⟩
    · have : olds = [] := List.eq_nil_of_length_eq_zero (by simpa using hlo)
      subst this
      have hr := run_append_nil (P := P) w t ty e i z ht hi hz2 ad m c news (by rw [hsz]; exact hl) hA hm (by omega) (by rw [hby']; simp at hb; exact Nat.le_trans hb (by decide))
      simp only [Nat.zero_add, List.nil_append, Array.empty_append, List.toArray] at grown hgb
      exact ⟨_, _, hr, by simpa using grown, by simpa using hgb, rfl⟩
    · have hr := run_append_grow (P := P) w t ty e i z ht hi hz2 sd n n olds (by rw [hsz]; exact hlo) hS ad m c news (by rw [hsz]; exact hl) hA (by omega) (by omega) (by rw [hby']; exact growslice_fits (by omega) hb)
      exact ⟨_, _, hr, grown, hgb, rfl⟩
theorem run_append_same (w : World) (t ty e : TypeId) {k : Nat} (ht : P.underlying t = some (.slice e)) (hs : szP P e = some (k + 1)) (S : Option Addr) (n : Nat) (A : Option Addr) (c : Nat) :
    (Builtin.append_ #[t, t] ty #[.slice S n n, .slice A 0 c]).run P w = .ok (.slice S n n) w := by
  obtain ⟨i, hi, hsz⟩ := info_of_sz hs
  cases S <;> cases A <;> simp [Builtin.append_, run_underlying ht, sizeOf, typeInfo, hi, Builtin.lenOf, Builtin.firstCells, storeCells, loadCells, loadCellsFrom]
end

theorem ownsRow_lt {w : World} {e k n : Nat} {v : Value} {xs : List Value} (h : w.ownsRow 0 e k v n xs) : ∀ b, v.ownBlock = some b → b < w.heap.size := fun b hb => (h.lt b hb).2

section
variable {F : Nat → Prop} {κ : Nat → Value} {w w' : World} {H : List AObj}

/-- What a longer row holds. -/
theorem row_more {l' : Nat} {e k : Nat} {xs ys : List T} {cs news : List Value} {v v' : Value} {κ' : Nat → Value} {N' : Nat} (hv : κ' l' = v')
    (hfr : ∀ b, F b → w'.heap[b]? = w.heap[b]?)
    (h1 : w'.ownsRow 0 e (k + 1) v' (xs.length + ys.length) (cs ++ news)) (hb : xs.length + ys.length ≤ big) (hcs : cs.length = xs.length * (k + 1))
    (a1 : ∀ x ∈ xs, x.cells.length = k + 1 ∧ (k + 1 = 1 → x.isAgg = false)) (a2 : ∀ c ∈ cs, c.oneCell' = true)
    (a3 : ∀ (i : Nat) (x : T) (j : Nat) (y : T) (v : Value), xs[i]? = some x → x.cells[j]? = some y → cs[i * (k + 1) + j]? = some v → Rd F w y v)
    (b1 : ∀ x ∈ ys, x.cells.length = k + 1 ∧ (k + 1 = 1 → x.isAgg = false)) (b2 : ∀ c ∈ news, c.oneCell' = true)
    (b3 : ∀ (i : Nat) (x : T) (j : Nat) (y : T) (v : Value), ys[i]? = some x → x.cells[j]? = some y → news[i * (k + 1) + j]? = some v → Rd F w y v) :
    RO F κ' N' w' l' (.row e (k + 1) (xs ++ ys)) := by
  refine ⟨cs ++ news, by rw [hv, List.length_append]; exact h1, by rw [List.length_append]; exact hb, fun x hx => ?_, fun c hc => ?_, fun i x j y v hx hy hv => ?_⟩
  · rcases List.mem_append.1 hx with h | h
    · exact a1 x h
    · exact b1 x h
  · rcases List.mem_append.1 hc with h | h
    · exact a2 c h
    · exact b2 c h
  · have hj : ∀ x : T, x.cells.length = k + 1 → x.cells[j]? = some y → j < k + 1 := fun x h1 h2 => by rw [← h1]; exact (List.getElem?_eq_some_iff.1 h2).1
    rcases Nat.lt_or_ge i xs.length with hi | hi
    · rw [List.getElem?_append_left hi] at hx
      have hj := hj x (a1 x (List.mem_of_getElem? hx)).1 hy
      have : i * (k + 1) + j < cs.length := by
        rw [hcs]
        calc i * (k + 1) + j < i * (k + 1) + (k + 1) := by omega
          _ = (i + 1) * (k + 1) := by rw [Nat.succ_mul]
          _ ≤ xs.length * (k + 1) := Nat.mul_le_mul_right _ hi
      rw [List.getElem?_append_left this] at hv
      exact (a3 i x j y v hx hy hv).mono (fun _ h => h) hfr
    · rw [List.getElem?_append_right hi] at hx
      obtain ⟨d, rfl⟩ := Nat.exists_eq_add_of_le hi
      have e1 : (xs.length + d) * (k + 1) + j = cs.length + (d * (k + 1) + j) := by rw [hcs, Nat.add_mul]; omega
      rw [e1, List.getElem?_append_right (by omega)] at hv
      simp only [Nat.add_sub_cancel_left] at hx hv
      exact (b3 d x j y v hx hy hv).mono (fun _ h => h) hfr
end

section
variable {β : Type} {E : Env} {st : St} {F : Nat → Prop} {κ : Nat → Value} {w : World} {N0 : Nat} {tm : Array Value}

/-- A new object, and its value. -/
theorem Next'.push (h0 : N0 ≤ st.heap.length) (s : SI F κ w st.heap) (ht : TR F κ w st tm) {o : AObj} {u : Value} {w' : World} {F' : Nat → Prop} {p : PV} (hos : w'.os = w.os) (htp : w'.tape = w.tape) (hou : w'.output = w.output)
    (hsz : w.heap.size ≤ w'.heap.size) (hold : ∀ b, b < w.heap.size → w'.heap[b]? = w.heap[b]?) (hF : ∀ b, F b → F' b) (hF1 : ∀ b, F' b → F b ∨ w.heap.size ≤ b) (hfl : ∀ b, F' b → b < w'.heap.size)
    (ho : RO F' (upd κ st.heap.length u) (st.heap.length + 1) w' st.heap.length o)
    (hb : ∀ b, blk (upd κ st.heap.length u) st.heap.length o = some b → w.heap.size ≤ b ∧ b < w'.heap.size ∧ ¬ F' b)
    (hp : RP F' (upd κ st.heap.length u) (st.heap.length + 1) w' p u) : Next' N0 F κ w st tm p u F' (upd κ st.heap.length u) w' ⟨st.tmps, st.heap ++ [o]⟩ := by
  have hs := s.push o u hsz hold hF hF1 hfl ho hb
  refine ⟨hs, ⟨hos, htp, hou, hsz, fun b hb' _ => hold b hb', hF, fun b hb' => (hF1 b hb').elim .inl (fun h => .inr (.inr h)), fun b hb' => ?_, by simp; omega, fun l o' hl h1 h2 => ?_⟩, by simpa using hp, rfl, fun i q v h1 h2 => ?_⟩
  · rcases hb'.push with h | h
    · exact .inl h
    · exact .inr (hb b h).1
  · refine ⟨upd_other κ u (by omega), o', ?_, h2⟩
    rw [List.getElem?_append_left (by omega)]; exact h1
  · simpa using (ht i q v h1 h2).push s u hold hF

/-- Fresh blocks, frozen at once. -/
theorem SI.fresh {H : List AObj} {w' : World} {F' : Nat → Prop} (s : SI F κ w H) (hsz : w.heap.size ≤ w'.heap.size) (hold : ∀ b, b < w.heap.size → w'.heap[b]? = w.heap[b]?) (hF : ∀ b, F b → F' b) (hF1 : ∀ b, F' b → F b ∨ w.heap.size ≤ b) (hfl : ∀ b, F' b → b < w'.heap.size) : SI F' κ w' H :=
  ⟨fun l o h => (s.ro l o h).mono hF (fun b hb => hold b (s.fl b hb)) (fun b hb => hold b (s.lt l o b h hb).1) rfl fun l' hl' => ⟨rfl, (s.ro l o h).bound l' hl'⟩,
    fun l o b h hb => ⟨Nat.lt_of_lt_of_le (s.lt l o b h hb).1 hsz, fun hf => (hF1 b hf).elim (s.lt l o b h hb).2 (fun h2 => by have := (s.lt l o b h hb).1; omega)⟩, s.ne, hfl⟩
theorem Next'.fresh (h0 : N0 ≤ st.heap.length) (s : SI F κ w st.heap) (ht : TR F κ w st tm) {u : Value} {w' : World} {F' : Nat → Prop} {p : PV} (hos : w'.os = w.os) (htp : w'.tape = w.tape) (hou : w'.output = w.output)
    (hsz : w.heap.size ≤ w'.heap.size) (hold : ∀ b, b < w.heap.size → w'.heap[b]? = w.heap[b]?) (hF : ∀ b, F b → F' b) (hF1 : ∀ b, F' b → F b ∨ w.heap.size ≤ b) (hfl : ∀ b, F' b → b < w'.heap.size)
    (hp : RP F' κ st.heap.length w' p u) : Next' N0 F κ w st tm p u F' κ w' st :=
  ⟨s.fresh hsz hold hF hF1 hfl, ⟨hos, htp, hou, hsz, fun b hb' _ => hold b hb', hF, fun b hb' => (hF1 b hb').elim .inl (fun h => .inr (.inr h)), fun b hb => .inl hb, h0, fun l o' hl h1 h2 => ⟨rfl, o', h1, h2⟩⟩, hp, rfl,
    fun i q v h1 h2 => (ht i q v h1 h2).mono hF (fun b hb => hold b (s.fl b hb)) fun l hl => ⟨rfl, (ht i q v h1 h2).bound l hl⟩⟩

theorem appendK_sound {t t' ty : TypeId} {s x : PV} {K : PV → St → Res β} {vs vx : Value} (h : appendK E st t t' s x K ≠ .stuck) (h0 : N0 ≤ st.heap.length) (hsi : SI F κ w st.heap) (ht : TR F κ w st tm)
    (hs : RP F κ st.heap.length w s vs) (hx : RP F κ st.heap.length w x vx) :
    ∃ q u st' F' κ' w', appendK E st t t' s x K = K q st' ∧ (Builtin.append_ #[t, t'] ty #[vs, vx]).run E.P w = .ok u w' ∧ Next' N0 F κ w st tm q u F' κ' w' st' := by
  unfold appendK at h ⊢
  cases he : elP E.P t with
  | none => simp [he] at h
  | some e =>
    cases hz : szP E.P e with
    | none => simp [he, hz] at h
    | some k =>
      cases k with
      | zero => simp [he, hz] at h
      | succ k =>
        cases hb : byP E.P e with
        | none => simp [he, hz, hb] at h
        | some b =>
          cases b with
          | zero => simp [he, hz, hb] at h
          | succ b =>
            simp only [he, hz, hb] at h ⊢
            obtain ⟨hg, e1⟩ := cond_inv' h
            rw [e1] at h ⊢
            simp only [Bool.and_eq_true, beq_iff_eq] at hg
            obtain ⟨rfl, hzero⟩ := hg
            have hun := elP_underlying he
            obtain ⟨ys, e2, hv⟩ := elemsK_sound h hsi hx
            rw [e2] at h ⊢
            obtain ⟨A, c, news, rfl, n1, n2, n3, n4, n5, n6⟩ := hv.news
            have hA : (A = none ∧ ys.length = 0) ∨ ∃ ad : Addr, A = some ad ∧ ∀ (j : Nat) (u : Value), news[j]? = some u → w.cell? (ad.add j) = some u := n5.imp (fun h => ⟨h.1, by rw [h.2]; rfl⟩) id
            cases hs with
            | nil =>
              simp only [] at h ⊢
              obtain ⟨c1, c2⟩ := chk_inv h
              rw [c2]
              have c3 : (0 + ys.length) * (b + 1) ≤ big := by simpa using c1
              obtain ⟨v', w', r1, r2, r3, r4⟩ := run_append_any w t ty e hun hz hb hzero (.slice none 0 0) 0 [] (World.ownsRow_nil w 0 e (k + 1)) A ys.length c news n1 hA n2 c3
              have hnew : ∀ b, v'.ownBlock = some b → b = w.heap.size := fun b hb => by
                rcases r4 with r4 | r4
                · rw [hb] at r4; cases r4
                · rw [hb] at r4; injection r4
              have hold : ∀ b, b < w.heap.size → w'.heap[b]? = w.heap[b]? := fun b hb => r3.block b hb (by simp [Value.ownBlock])
              have hro := row_more (F := F) (w := w) (l' := st.heap.length) (xs := []) (ys := ys) (cs := []) (v := v') (κ' := upd κ st.heap.length v') (N' := st.heap.length + 1) (upd_same κ _ v') (fun b hb => hold b (hsi.fl b hb))
                (by simpa using r2) (by simpa using n4) (by simp) (by simp) (by simp) (by simp) n3 n2 n6
              refine ⟨_, v', _, F, upd κ st.heap.length v', w', rfl, r1, Next'.push h0 hsi ht r3.os r3.tape r3.output r3.size hold (fun _ h => h) (fun _ h => .inl h) (fun b hb => Nat.lt_of_lt_of_le (hsi.fl b hb) r3.size) (by simpa using hro) (fun b hb => ?_) ?_⟩
              · simp only [blk, upd_same] at hb
                have h2 := ownsRow_lt r2 b hb
                have := hnew b hb
                exact ⟨by omega, h2, fun hf => by have := hsi.fl b hf; omega⟩
              · obtain ⟨A', c', h4, _⟩ := row_len hro
                rw [upd_same] at h4
                rw [h4]
                exact .own (by omega) (by rw [upd_same])
            | @own l A' n' c' hl hk =>
              simp only [] at h ⊢
              cases ho : st.heap[l]? with
              | none => simp [ho] at h
              | some obj =>
                cases obj with
                | row e0 k0 xs =>
                  simp only [ho] at h ⊢
                  obtain ⟨hg, e3⟩ := cond_inv' h
                  rw [e3] at h ⊢
                  simp only [Bool.and_eq_true, beq_iff_eq] at hg
                  obtain ⟨rfl, rfl⟩ := hg
                  obtain ⟨c1, c2⟩ := chk_inv h
                  rw [c2]
                  obtain ⟨cs, o1, o2, o3, o4, o5⟩ := hsi.ro l _ ho
                  have c3 : (xs.length + ys.length) * (b + 1) ≤ big := by simpa using c1
                  have c4 : xs.length + ys.length ≤ big := Nat.le_trans (Nat.le_mul_of_pos_right _ (by omega)) c3
                  obtain ⟨v', w', r1, r2, r3, r4⟩ := run_append_any w t ty e0 hun hz hb hzero (κ l) xs.length cs o1 A ys.length c news n1 hA n2 c3
                  have hFb : ∀ b, F b → w'.heap[b]? = w.heap[b]? := fun b hb => r3.block b (hsi.fl b hb) fun e => (hsi.lt l _ b ho (by simpa [blk] using e.symm)).2 hb
                  have hro := row_more (F := F) (w := w) (l' := l) (xs := xs) (ys := ys) (cs := cs) (v := v') (κ' := upd κ l v') (N' := st.heap.length) (upd_same κ _ v') hFb
                    r2 c4 o1.1 o3 o4 o5 n3 n2 n6
                  obtain ⟨t1, t2, t3, t4⟩ := hsi.rowTurn ho v' r3 (r4.imp id fun h => ⟨_, h, Nat.le_refl _⟩) (ownsRow_lt r2) hro N0 h0
                  rw [hk] at r1
                  refine ⟨_, v', _, F, upd κ l v', w', rfl, r1, t1, t2, ?_, by simp [kills_length], fun i q v g1 g2 => ?_⟩
                  · obtain ⟨A', c', h4, _⟩ := row_len hro
                    rw [upd_same] at h4
                    rw [h4]
                    exact .own (by simpa using hl) (by rw [upd_same])
                  · rw [kills_get, Option.map_eq_some_iff] at g1
                    obtain ⟨q, g1, rfl⟩ := g1
                    exact (ht i q v g1 g2).kill _ (fun _ h => h) t3 (by simp) t4
                | _ => simp [ho] at h
            | @view l k0 lo hi A0 n0 c0 hN hl =>
              simp only [] at h ⊢
              cases ho : st.heap[l]? with
              | none => simp [ho] at h
              | some obj =>
                have hro := hsi.ro l obj ho
                cases obj with
                | row e0 k1 xs =>
                  simp only [ho] at h ⊢
                  obtain ⟨hg, e3⟩ := cond_inv' h
                  rw [e3] at h ⊢
                  simp only [Bool.and_eq_true, beq_iff_eq] at hg
                  obtain ⟨⟨rfl, rfl⟩, rfl⟩ := hg
                  obtain ⟨c1, c2⟩ := chk_inv h
                  rw [c2]
                  simp only [Bool.and_eq_true, decide_eq_true_eq] at c1
                  obtain ⟨B, n, cc, A', ⟨v1, vb⟩, v2, v3, v4, v5⟩ := hl
                  injection v2 with v2 v7 v8
                  subst v2; subst v7; subst v8
                  obtain ⟨cs, o1, _⟩ := hro
                  obtain ⟨hx1, hx2⟩ : n = xs.length ∧ n ≤ cc := by
                    rcases o1.2 with ⟨q1, q2⟩ | ⟨g, cap, cur, q1, _, _, q2, _⟩
                    · rw [v1] at q1; injection q1 with q1 q3 q4; omega
                    · rw [v1] at q1; injection q1 with q1 q3 q4; omega
                  subst hx1
                  obtain ⟨i, hi', hsz⟩ := info_of_sz hz
                  have fin : ∀ (w' : World) (st' : St), SI F κ w' st'.heap → Ev N0 F κ w st.heap F κ w' st'.heap → st'.heap.length = st.heap.length → st'.tmps = st.tmps → (∀ (p : PV) (v : Value), RP F κ st.heap.length w p v → RP F κ st.heap.length w' p v) →
                      Next' N0 F κ w st tm (.view l (k + 1) lo (hi + ys.length)) (.slice A0 (hi - lo + ys.length) (cc - lo)) F κ w' st' := by
                    intro w' st' a1 a2 a3 a4 a5
                    refine ⟨a1, a2, .view (by rw [a3]; exact hN) ⟨B, xs.length, cc, A0, ⟨v1, vb⟩, by congr 1; omega, by omega, by omega, v5⟩, by rw [a4], fun i q v g1 g2 => ?_⟩
                    rw [a3]
                    exact a5 q v (ht i q v (by rw [← a4]; exact g1) g2)
                  have hroom : hi - lo + ys.length ≤ cc - lo := by omega
                  have hst : ∀ (ad : Addr), A = some ad → (Builtin.firstCells i.size ys.length (.slice A ys.length c)).run E.P w = .ok news.toArray w := fun ad had => by
                    subst had
                    refine run_firstCells_some w i.size ys.length ad ys.length c news (by rw [hsz]; exact n1) ?_
                    rcases n5 with ⟨h, _⟩ | ⟨ad', h, h'⟩
                    · cases h
                    · injection h with h; subst h; exact h'
                  rcases v5 with ⟨rfl, rfl⟩ | ⟨g, o, rfl, rfl, v6⟩
                  · -- a nil row: nothing is laid down
                    have hys : ys = [] := by
                      rcases o1.2 with ⟨q1, q2⟩ | ⟨g, cap, cur, q1, _⟩
                      · exact List.eq_nil_of_length_eq_zero (by omega)
                      · rw [v1] at q1; cases q1
                    subst hys
                    have hnews : news = [] := List.eq_nil_of_length_eq_zero (by simpa using n1)
                    have hset : st.heap.set l (.row e0 (k + 1) (spliceT xs hi [])) = st.heap := by
                      rw [spliceT_nil]; exact set_self ho
                    refine ⟨_, _, _, F, κ, w, rfl, ?_, fin w _ ?_ ?_ ?_ rfl (fun _ _ h => h)⟩
                    · cases A <;> simp [Builtin.append_, run_underlying hun, sizeOf, typeInfo, hi', Builtin.lenOf, Builtin.firstCells, hroom, loadCells, loadCellsFrom] <;> omega
                    · simp only [hset]; exact hsi
                    · simp only [hset]; exact Ev.refl h0
                    · simp
                  · rcases Nat.eq_zero_or_pos ys.length with ey | ey
                    · have hys : ys = [] := List.eq_nil_of_length_eq_zero ey
                      subst hys
                      have hset : st.heap.set l (.row e0 (k + 1) (spliceT xs hi [])) = st.heap := by
                        rw [spliceT_nil]; exact set_self ho
                      refine ⟨_, _, _, F, κ, w, rfl, ?_, fin w _ ?_ ?_ ?_ rfl (fun _ _ h => h)⟩
                      · cases A <;> simp [Builtin.append_, run_underlying hun, sizeOf, typeInfo, hi', Builtin.lenOf, Builtin.firstCells, hroom, loadCells, loadCellsFrom, storeCells] <;> omega
                      · simp only [hset]; exact hsi
                      · simp only [hset]; exact Ev.refl h0
                      · simp
                    · obtain ⟨w', g1, g2, g3, g4⟩ := row_splice (P := E.P) (N0 := N0) (a := hi) hsi h0 ho v1 c1.2 n1 n2 n3 n6
                      have hA' : ∃ ad, A = some ad := by
                        rcases n5 with ⟨_, h⟩ | ⟨ad, h, _⟩
                        · subst h; simp at ey
                        · exact ⟨ad, h⟩
                      obtain ⟨ad, rfl⟩ := hA'
                      have hg1 : (storeCells ⟨g, hi * (k + 1), none⟩ news).run E.P w = .ok () w' := g1
                      have hoff : o + (hi - lo) * (k + 1) = hi * (k + 1) := by rw [v6 (by omega), ← Nat.add_mul]; congr 1; omega
                      refine ⟨_, _, _, F, κ, w', rfl, ?_, fin w' _ g2 g3 (by simp) rfl g4⟩
                      have hst' := hst ad rfl
                      rw [hsz] at hst'
                      simp [Builtin.append_, run_underlying hun, sizeOf, typeInfo, hi', Builtin.lenOf, hroom, hst', add_mid, hsz, hoff, g1]
                | _ => simp [ho] at h
            | @full k0 xs S hr =>
              simp only [] at h ⊢
              obtain ⟨hg, e3⟩ := cond_inv' h
              rw [e3] at h ⊢
              simp only [beq_iff_eq] at hg
              subst hg
              obtain ⟨c1, c2⟩ := chk_inv h
              rw [c2]
              have c3 : (xs.length + ys.length) * (b + 1) ≤ big := by simpa using c1
              have c4 : xs.length + ys.length ≤ big := Nat.le_trans (Nat.le_mul_of_pos_right _ (by omega)) c3
              rcases Nat.eq_zero_or_pos ys.length with e0 | e0
              · have : ys = [] := List.eq_nil_of_length_eq_zero e0
                subst this
                refine ⟨_, _, _, F, κ, w, rfl, run_append_same w t ty e hun hz S xs.length A c, Next'.same h0 hsi ht ?_⟩
                rw [List.append_nil]
                exact .t hr
              · obtain ⟨A', c', olds, q1, o1, o2, o3, o4, o5, o6⟩ := (SlV.of_sl (κ := κ) (H := st.heap) (p := .junk) hr).news
                injection q1 with q1 q2 q3
                subst q1
                have hS : (S = none ∧ xs.length = 0) ∨ ∃ ad : Addr, S = some ad ∧ ∀ (j : Nat) (u : Value), olds[j]? = some u → w.cell? (ad.add j) = some u := o5.imp (fun h => ⟨h.1, by rw [h.2]; rfl⟩) id
                obtain ⟨v', w', r1, r2, r3, r4⟩ := run_append_full w t ty e hun hz hb hzero S xs.length olds o1 hS A ys.length c news n1 e0 hA c3
                have hold : ∀ b, b < w.heap.size → w'.heap[b]? = w.heap[b]? := fun b hb => r3.block b hb (by simp)
                have hro := row_more (F := F) (w := w) (l' := 0) (xs := xs) (ys := ys) (cs := olds) (v := v') (κ' := fun _ => v') (N' := 0) rfl (fun b hb => hold b (hsi.fl b hb)) r2 c4 o1 o3 o2 o6 n3 n2 n6
                have hsl := SlV.of_row (κ := fun _ => v') (H := [.row e (k + 1) (xs ++ ys)]) hro rfl
                have hlt := ownsRow_lt r2 _ r4
                have hrd := hsl.frozen (F' := fun b => F b ∨ b = w.heap.size) (fun _ h => .inl h) (fun l hl e' k' xs' b g1 g2 => by change v'.ownBlock = some b at g2; rw [r4] at g2; injection g2 with g2; exact .inr g2.symm)
                refine ⟨_, v', _, fun b => F b ∨ b = w.heap.size, κ, w', rfl, r1, Next'.fresh h0 hsi ht r3.os r3.tape r3.output r3.size hold (fun _ h => .inl h) (fun b h => h.imp id (by omega)) (fun b h => ?_) (.t hrd)⟩
                rcases h with h | rfl
                · exact Nat.lt_of_lt_of_le (hsi.fl b h) r3.size
                · exact hlt
            | _ => exact absurd rfl h
end
end Go.Sim
