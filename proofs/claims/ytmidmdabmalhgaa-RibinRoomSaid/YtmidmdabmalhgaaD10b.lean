/- Rows of one's own, of which a part is written anew. -/
import Derived.Test.YtmidmdabmalhgaaD10
namespace Go.Sim
open Go.RowKit
set_option linter.unusedVariables false
set_option linter.unusedSimpArgs false

/-- A splice of cells. -/
theorem splice_get {α : Type} (a b : List α) {o s : Nat} (hs : b.length = s) (ho : o + s ≤ a.length) (i : Nat) :
    (a.take o ++ b ++ a.drop (o + s))[i]? = if i < o then a[i]? else if i < o + s then b[i - o]? else a[i]? := by
  have hlo : (a.take o).length = o := by simp; omega
  rcases Nat.lt_or_ge i o with h1 | h1
  · rw [if_pos h1, List.append_assoc, List.getElem?_append_left (by omega), List.getElem?_take, if_pos h1]
  · rw [if_neg (by omega)]
    rcases Nat.lt_or_ge i (o + s) with h2 | h2
    · rw [if_pos h2, List.append_assoc, List.getElem?_append_right (by omega), hlo, List.getElem?_append_left (by omega)]
    · rw [if_neg (by omega), List.getElem?_append_right (by simp; omega), List.getElem?_drop]
      congr 1
      simp; omega
theorem splice_len {α : Type} (a b : List α) {o s : Nat} (hs : b.length = s) (ho : o + s ≤ a.length) : (a.take o ++ b ++ a.drop (o + s)).length = a.length := by simp; omega

section
variable {F F' : Nat → Prop} {κ : Nat → Value} {w w' : World} {H : List AObj}

/-- An object written anew where it lies. -/
theorem SI.objSet (s : SI F κ w H) {l b : Nat} {o o' : AObj} (h : H[l]? = some o) (hb : blk κ l o = some b) (hb' : blk κ l o' = some b) (hsz : w'.heap.size = w.heap.size) (hoth : ∀ c, c ≠ b → w'.heap[c]? = w.heap[c]?)
    (hro : RO F κ H.length w' l o') : SI F κ w' (H.set l o') := by
  have hl : l < H.length := (List.getElem?_eq_some_iff.1 h).1
  have hnF := (s.lt l o b h hb).2
  have hFb : ∀ c, F c → w'.heap[c]? = w.heap[c]? := fun c hc => hoth c fun e => hnF (e ▸ hc)
  refine ⟨fun i q hi => ?_, fun i q c hi hc => ?_, fun i j q q' c hi hj hc hc' => ?_, fun c hc => by rw [hsz]; exact s.fl c hc⟩
  · rw [List.length_set]
    rcases set_get hl hi with ⟨rfl, rfl⟩ | ⟨hne, hq⟩
    · exact hro
    · exact (s.ro i q hq).mono (fun _ h => h) hFb (fun c hc => hoth c fun e => hne (s.ne i l q o b hq h (e ▸ hc) hb)) rfl fun l' hl' => ⟨rfl, (s.ro i q hq).bound l' hl'⟩
  · rw [hsz]
    rcases set_get hl hi with ⟨rfl, rfl⟩ | ⟨hne, hq⟩
    · rw [hb'] at hc; injection hc with hc; subst hc; exact s.lt i o b h hb
    · exact s.lt i q c hq hc
  · rcases set_get hl hi with ⟨rfl, rfl⟩ | ⟨hne, hq⟩ <;> rcases set_get hl hj with ⟨rfl, rfl⟩ | ⟨hne', hq'⟩
    · rfl
    · rw [hb'] at hc; injection hc with hc; subst hc; exact absurd (s.ne j i q' o b hq' h hc' hb) hne'
    · rw [hb'] at hc'; injection hc' with hc'; subst hc'; exact absurd (s.ne i j q o b hq h hc hb) hne
    · exact s.ne i j q q' c hq hq' hc hc'

theorem Ev.objSet {N0 l b : Nat} {o o' : AObj} (h : H[l]? = some o) (hb : blk κ l o = some b) (hb' : blk κ l o' = some b) (hos : w'.os = w.os) (htp : w'.tape = w.tape) (hou : w'.output = w.output)
    (hsz : w'.heap.size = w.heap.size) (hoth : ∀ c, c ≠ b → w'.heap[c]? = w.heap[c]?) (h0 : N0 ≤ H.length) (hk : (∃ e k xs, o = .row e k xs) ∨ ∀ e k xs, o' ≠ .row e k xs) : Ev N0 F κ w H F κ w' (H.set l o') := by
  have hl : l < H.length := (List.getElem?_eq_some_iff.1 h).1
  refine ⟨hos, htp, hou, by omega, fun c _ hn => hoth c fun e => hn ⟨l, o, h, e ▸ hb⟩, fun _ h => h, fun _ h => .inl h, fun c hc => ?_, by simpa using h0, fun i q _ hi hq => ⟨rfl, ?_⟩⟩
  · obtain ⟨i, q, hi, hq⟩ := hc
    rcases set_get hl hi with ⟨rfl, rfl⟩ | ⟨hne, h2⟩
    · exact .inl ⟨i, o, h, by rw [hb]; rw [hb'] at hq; exact hq⟩
    · exact .inl ⟨i, q, h2, hq⟩
  · by_cases e : i = l
    · subst e
      rw [h] at hi
      injection hi with hi
      subst hi
      refine ⟨o', List.getElem?_set_self hl, ?_⟩
      rcases hk with ⟨e, k, xs, hk⟩ | hk
      · exact absurd hk (hq e k xs)
      · exact hk
    · exact ⟨q, by rw [List.getElem?_set_ne (fun h => e h.symm)]; exact hi, hq⟩

theorem set_self {α : Type} {H : List α} {l : Nat} {o : α} (ho : H[l]? = some o) : H.set l o = H := by
  obtain ⟨h1, h2⟩ := List.getElem?_eq_some_iff.1 ho
  subst h2
  exact List.set_getElem_self h1
theorem spliceT_nil (xs : List T) (a : Nat) : spliceT xs a [] = xs := by simp [spliceT]
theorem mul_in {i n k j : Nat} (h : i < n) (hj : j < k) : i * k + j < n * k := by
  calc i * k + j < i * k + k := by omega
    _ = (i + 1) * k := by rw [Nat.succ_mul]
    _ ≤ n * k := Nat.mul_le_mul_right _ h

theorem row_splice {P : Program} {N0 : Nat} (s : SI F κ w H) (h0 : N0 ≤ H.length) {l e k a : Nat} {xs ys : List T} (ho : H[l]? = some (.row e k xs)) {g n c : Nat} (hl : κ l = .slice (some ⟨g, 0, none⟩) n c) {news : List Value}
    (ha : a + ys.length ≤ xs.length) (n1 : news.length = ys.length * k) (n2 : ∀ u ∈ news, u.oneCell' = true) (n3 : ∀ x ∈ ys, x.cells.length = k ∧ (k = 1 → x.isAgg = false))
    (n6 : ∀ (i : Nat) (x : T) (j : Nat) (y : T) (u : Value), ys[i]? = some x → x.cells[j]? = some y → news[i * k + j]? = some u → Rd F w y u) :
    ∃ w', (storeCells ⟨g, a * k, none⟩ news).run P w = .ok () w' ∧ SI F κ w' (H.set l (.row e k (spliceT xs a ys))) ∧ Ev N0 F κ w H F κ w' (H.set l (.row e k (spliceT xs a ys))) ∧
      ∀ (p : PV) (v : Value), RP F κ H.length w p v → RP F κ H.length w' p v := by
  obtain ⟨cs, o1, o2, o3, o4, o5⟩ := s.ro l _ ho
  have hown := o1
  rw [hl] at hown
  rcases hown.2 with ⟨hnil, _⟩ | ⟨g', cap, cur, q1, q2, q3, q4, q5, q6, q7⟩
  · cases hnil
  simp only [Value.slice.injEq, Option.some.injEq, Addr.mk.injEq, and_true, true_and] at q1
  obtain ⟨rfl, hn, rfl⟩ := q1
  subst hn
  have hcs : cs.length = xs.length * k := o1.1
  have hblk : ∀ xs' : List T, blk κ l (.row e k xs') = some g := fun xs' => by simp [blk, hl, Value.ownBlock]
  have hle : a * k + news.length ≤ xs.length * k := by rw [n1, ← Nat.add_mul]; exact Nat.mul_le_mul_right _ ha
  have hcur : xs.length * k ≤ cur.size := by rw [q6]; exact Nat.mul_le_mul_right _ q4
  have hrun := run_storeCells_at P g (a * k) e news 0 cur w q3 (by omega) n2
  simp only [Nat.add_zero] at hrun
  refine ⟨_, hrun, ?_⟩
  generalize hcur' : (cur.toList.take (a * k) ++ news ++ cur.toList.drop (a * k + news.length)).toArray = cur'
  have hoth : ∀ c, c ≠ g → (w.setRow g cur').heap[c]? = w.heap[c]? := fun c hc => setRow_other w g c cur' hc
  have hFb : ∀ c, F c → (w.setRow g cur').heap[c]? = w.heap[c]? := fun c hc => hoth c fun e => (s.lt l _ g ho (hblk xs)).2 (e ▸ hc)
  have htake : cur'.toList.take (xs.length * k) = cs.take (a * k) ++ news ++ cs.drop (a * k + news.length) := by
    rw [← hcur', ← q7]
    apply List.ext_getElem?
    intro j
    rw [splice_get _ _ rfl (by simp; omega)]
    simp only [List.getElem?_take]
    by_cases hj : j < xs.length * k
    · simp only [if_pos hj]
      rw [splice_get _ _ rfl (by simp; omega)]
    · simp only [if_neg hj]
      rw [if_neg (by omega), if_neg (by omega)]
  have hlen' : (cs.take (a * k) ++ news ++ cs.drop (a * k + news.length)).length = xs.length * k := by rw [splice_len _ _ rfl (by omega)]; exact hcs
  have hxl : (spliceT xs a ys).length = xs.length := splice_len _ _ rfl ha
  have hro' : RO F κ H.length (w.setRow g cur') l (.row e k (spliceT xs a ys)) := by
    refine ⟨cs.take (a * k) ++ news ++ cs.drop (a * k + news.length), ?_, by rw [hxl]; exact o2, fun x hx => ?_, fun c hc => ?_, fun i x j z c hx hz hc => ?_⟩
    · rw [hl, hxl]
      exact ⟨hlen', .inr ⟨g, _, cur', rfl, q2, setRow_heap w g _ _ _ _ q3, q4, q5, by rw [← hcur']; simp; omega, htake⟩⟩
    · simp only [spliceT, List.mem_append] at hx
      rcases hx with (hx | hx) | hx
      · exact o3 x (List.mem_of_mem_take hx)
      · exact n3 x hx
      · exact o3 x (List.mem_of_mem_drop hx)
    · simp only [List.mem_append] at hc
      rcases hc with (hc | hc) | hc
      · exact o4 c (List.mem_of_mem_take hc)
      · exact n2 c hc
      · exact o4 c (List.mem_of_mem_drop hc)
    · refine Rd.mono (fun _ h => h) hFb ?_
      rw [splice_get _ _ rfl (by omega)] at hc
      unfold spliceT at hx
      rw [splice_get _ _ rfl ha] at hx
      have hjk : j < k := by
        have hxk : x.cells.length = k := by
          split at hx
          · exact (o3 x (List.mem_of_getElem? hx)).1
          · split at hx
            · exact (n3 x (List.mem_of_getElem? hx)).1
            · exact (o3 x (List.mem_of_getElem? hx)).1
        rw [← hxk]; exact (List.getElem?_eq_some_iff.1 hz).1
      rcases Nat.lt_or_ge i a with h1 | h1
      · rw [if_pos h1] at hx
        rw [if_pos (mul_in h1 hjk)] at hc
        exact o5 i x j z c hx hz hc
      · have h2 : a * k ≤ i * k := Nat.mul_le_mul_right _ h1
        rw [if_neg (by omega)] at hx
        rw [if_neg (by omega)] at hc
        rcases Nat.lt_or_ge i (a + ys.length) with h3 | h3
        · rw [if_pos h3] at hx
          have h4 := mul_in h3 hjk
          rw [Nat.add_mul, ← n1] at h4
          rw [if_pos h4] at hc
          refine n6 (i - a) x j z c hx hz ?_
          rw [show (i - a) * k + j = i * k + j - a * k by rw [Nat.sub_mul]; omega]
          exact hc
        · have h4 : (a + ys.length) * k ≤ i * k := Nat.mul_le_mul_right _ h3
          rw [Nat.add_mul, ← n1] at h4
          rw [if_neg (by omega)] at hx
          rw [if_neg (by omega)] at hc
          exact o5 i x j z c hx hz hc
  exact ⟨s.objSet ho (hblk _) (hblk _) (by simp) hoth hro', Ev.objSet ho (hblk _) (hblk _) rfl rfl rfl (by simp) hoth h0 (.inl ⟨_, _, _, rfl⟩), fun p v h => h.mono (fun _ h => h) hFb fun l hl => ⟨rfl, h.bound l hl⟩⟩
end
end Go.Sim
