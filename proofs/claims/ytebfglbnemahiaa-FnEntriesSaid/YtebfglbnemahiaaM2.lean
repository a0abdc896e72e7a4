/- Plain: what the law on entries asks of what the functions compute. -/
import Derived.Test.YtebfglbnemahiaaM1
namespace Go.Ents
theorem faults_mem {xs : List Int} : ∀ {k : Nat}, k < xs.length → ((k : Int) ∈ faults xs ↔ flt (opens (xs.take k)) (xs.getD k default) = true) := by
  have key : ∀ (xs op : List Int) (i : Nat) (y : Int), y ∈ faultsFrom op i xs ↔ ∃ k, k < xs.length ∧ y = ((i + k : Nat) : Int) ∧ flt (opensFrom op (xs.take k)) (xs.getD k default) = true := by
    intro xs
    induction xs with
    | nil => intro op i y; simp [faultsFrom]
    | cons n r ih =>
      intro op i y
      simp only [faultsFrom, List.mem_append, ih]
      constructor
      · rintro (h | ⟨k, hk, rfl, hf⟩)
        · split at h
          · rename_i hf
            simp at h; subst h
            exact ⟨0, by simp, by simp, by simpa [opensFrom] using hf⟩
          · simp at h
        · exact ⟨k + 1, by simpa using hk, by omega, by simpa [opensFrom] using hf⟩
      · rintro ⟨k, hk, rfl, hf⟩
        cases k with
        | zero =>
          have hf' : flt op n = true := by simpa [opensFrom] using hf
          exact .inl (by simp [hf'])
        | succ k => exact .inr ⟨k, by simpa using hk, by omega, by simpa [opensFrom] using hf⟩
  intro k hk
  unfold faults opens
  rw [key]
  constructor
  · rintro ⟨j, _, hj, hf⟩
    have : j = k := by omega
    subst this; exact hf
  · intro hf
    exact ⟨k, hk, by simp, hf⟩
theorem opens_succ {xs : List Int} {k : Nat} (hk : k < xs.length) : opens (xs.take (k + 1)) = stp (opens (xs.take k)) (xs.getD k default) := by
  rw [List.take_succ_eq_append_getElem hk, opens_snoc, getDe hk]
theorem tidy_spec {xs : List Int} (h : tidy xs = true) : opens xs = [] ∧ faults xs = [] := of_decide_eq_true h
theorem tidy_flt {xs : List Int} (h : tidy xs = true) {k : Nat} (hk : k < xs.length) : flt (opens (xs.take k)) (xs.getD k default) = false := by
  cases hf : flt (opens (xs.take k)) (xs.getD k default) with
  | false => rfl
  | true => have := (faults_mem hk).2 hf; rw [(tidy_spec h).2] at this; simp at this
theorem flt_pos {op : List Int} {n : Int} (h : flt op n = false) (hn : n > 0) : n ∉ op := by
  intro hm
  rw [flt_eq (by omega), show max n (-n) = n by omega] at h
  simp [hm, hn] at h
theorem flt_neg {op : List Int} {n : Int} (h : flt op n = false) (hn : n < 0) : -n ∈ op := by
  rw [flt_eq (by omega), show max n (-n) = -n by omega] at h
  by_cases hm : -n ∈ op
  · exact hm
  · simp [hm, show ¬ n > 0 by omega] at h
theorem filter_last {r : List Int} {x : Int} (h : (r ++ [x]).Nodup) : (r ++ [x]).filter (fun y => decide (y ≠ x)) = r := by
  rw [List.filter_append, show [x].filter (fun y => decide (y ≠ x)) = [] by simp, List.append_nil, List.filter_eq_self]
  intro a ha
  have := (List.nodup_append.1 h).2.2 a ha x (by simp)
  simpa using this
theorem stp_negv {op : List Int} {n : Int} (h : n < 0) : stp op n = op.filter fun x => decide (x ≠ -n) := by
  rw [stp_neg (by omega) (by omega), show max n (-n) = -n by omega]
theorem nested_eq {xs : List Int} (ht : tidy xs = true) : nI xs xs.length ↔ nS xs xs.length := by
  constructor
  · intro h i hi hn
    have h0 : 0 < i := by
      rcases Nat.eq_zero_or_pos i with rfl | h0
      · have := flt_neg (tidy_flt ht hi) hn
        simp [opens, opensFrom] at this
      · exact h0
    exact ⟨_, h i hi h0 hn⟩
  · intro h i hi h0 hn
    obtain ⟨r, hr⟩ := h i hi hn
    rw [opens_succ hi, stp_negv hn]
    have hg := (good_opens (xs.take i)).1
    rw [hr] at hg ⊢
    rw [filter_last hg]
/-! ### Mending -/
theorem mem_stp {op op' : List Int} (h : ∀ x, x ∈ op ↔ x ∈ op') (n x : Int) : x ∈ stp op n ↔ x ∈ stp op' n := by
  unfold stp
  split
  · exact h x
  · simp [h x]
theorem flt_congr {op op' : List Int} (h : ∀ x, x ∈ op ↔ x ∈ op') (n : Int) : flt op n = flt op' n := by
  unfold flt
  rw [decide_eq_decide.2 (h (ab n))]
theorem mem_stp_fault {op : List Int} {n : Int} (h : flt op n = true) (x : Int) : x ∈ stp op n ↔ x ∈ op := by
  have h0 : n ≠ 0 := fun e => by subst e; simp [flt] at h
  rw [flt_eq h0] at h
  by_cases hp : n > 0
  · rw [stp_pos2 hp]
    simp only [hp, decide_true, beq_true, decide_eq_true_eq] at h
    rw [show max n (-n) = n by omega] at h ⊢
    simp only [List.mem_append, List.mem_filter, decide_eq_true_eq, List.mem_singleton]
    constructor
    · rintro (h1 | rfl)
      · exact h1.1
      · exact h
    · intro h1
      by_cases e : x = n
      · exact .inr e
      · exact .inl ⟨h1, e⟩
  · rw [stp_neg h0 hp]
    simp only [hp, decide_false, beq_false, Bool.not_eq_true', decide_eq_false_iff_not] at h
    rw [filter_self h]
theorem kp_inv {xs : List Int} : ∀ {k : Nat}, k ≤ xs.length → (∀ x, x ∈ opens (kp xs k) ↔ x ∈ opens (xs.take k)) ∧ faults (kp xs k) = []
  | 0, _ => by simp [kp, faults, faultsFrom]
  | k + 1, hk => by
    obtain ⟨h1, h2⟩ := kp_inv (xs := xs) (k := k) (by omega)
    have hm := faults_mem (xs := xs) (k := k) (by omega)
    simp only [kp]
    rw [opens_succ (xs := xs) (k := k) (by omega)]
    by_cases hf : (k : Int) ∈ faults xs
    · rw [if_pos hf, List.append_nil]
      exact ⟨fun x => (h1 x).trans (mem_stp_fault (hm.1 hf) x).symm, h2⟩
    · rw [if_neg hf, opens_snoc, faults_snoc, h2]
      have hff : flt (opens (xs.take k)) (xs.getD k default) = false := by
        cases h : flt (opens (xs.take k)) (xs.getD k default) with
        | false => rfl
        | true => exact absurd (hm.2 h) hf
      refine ⟨fun x => mem_stp h1 _ x, ?_⟩
      rw [flt_congr h1, hff]; rfl
theorem close_all : ∀ (op : List Int), Good op → ∀ (i : Nat), opensFrom op (op.reverse.map fun n => -n) = [] ∧ faultsFrom op i (op.reverse.map fun n => -n) = [] := by
  intro op
  generalize hl : op.length = m
  induction m generalizing op with
  | zero => intro _ i; rw [List.eq_nil_of_length_eq_zero hl]; simp [opensFrom, faultsFrom]
  | succ m ih =>
    intro hg i
    have hne : op ≠ [] := fun e => by rw [e] at hl; simp at hl
    obtain ⟨r, x, rfl⟩ : ∃ r x, op = r ++ [x] := ⟨op.dropLast, op.getLast hne, (List.dropLast_concat_getLast hne).symm⟩
    have hx : 0 < x := hg.2 x (by simp)
    have hr : Good r := ⟨(List.nodup_append.1 hg.1).1, fun y hy => hg.2 y (by simp [hy])⟩
    have hs : stp (r ++ [x]) (-x) = r := by
      rw [stp_negv (by omega), Int.neg_neg, filter_last hg.1]
    have hf : flt (r ++ [x]) (-x) = false := by
      rw [flt_eq (by omega), show max (-x) (- -x) = x by omega]
      simp; omega
    have := ih r (by simpa using hl) hr (i + 1)
    simp only [List.reverse_append, List.reverse_cons, List.reverse_nil, List.nil_append, List.singleton_append, List.map_cons, opensFrom, List.foldl_cons, faultsFrom, hs, hf]
    exact ⟨this.1, by simpa using this.2⟩
theorem tidy_mend (xs : List Int) : tidy (mend xs) = true := by
  unfold tidy mend
  have h1 := (kp_inv (xs := xs) (Nat.le_refl _)).2
  have h2 := close_all _ (good_opens (kp xs xs.length)) (0 + (kp xs xs.length).length)
  refine decide_eq_true ⟨?_, ?_⟩
  · unfold opens at *; rw [opensFrom_append]; exact h2.1
  · unfold faults at *; rw [faultsFrom_append, h1]; exact h2.2
theorem kp_all {xs : List Int} (h : faults xs = []) : ∀ {k : Nat}, k ≤ xs.length → kp xs k = xs.take k
  | 0, _ => by simp [kp]
  | k + 1, hk => by
    simp only [kp]
    rw [kp_all h (by omega), if_neg (by rw [h]; simp), List.take_succ_eq_append_getElem (by omega), getDe]
theorem mend_tidy {xs : List Int} (h : tidy xs = true) : mend xs = xs := by
  obtain ⟨h1, h2⟩ := tidy_spec h
  unfold mend
  rw [kp_all h2 (Nat.le_refl _), List.take_length, h1]; simp
theorem ok_mend {xs : List Int} (h : ok xs = true) (hl : (mend xs).length ≤ 60) : ok (mend xs) = true := by
  refine decide_eq_true ⟨hl, fun n hn => ?_⟩
  have hs := (ok_spec h).2
  unfold mend at hn
  rcases List.mem_append.1 hn with hn | hn
  · exact hs n (kp_mem (Nat.le_refl _) n hn)
  · obtain ⟨m, hm, rfl⟩ := List.mem_map.1 hn
    have hm' := List.mem_reverse.1 hm
    have := hs m (kp_mem (Nat.le_refl _) m (opens_mem hm'))
    omega
/-! ### How many, and spans -/
theorem stp_len (op : List Int) (n : Int) : (stp op n).length ≤ op.length + (if n > 0 then 1 else 0) := by
  unfold stp
  split
  · omega
  · have := List.length_filter_le (fun x => decide (x ≠ ab n)) op
    simp only [List.length_append]
    split <;> simp only [List.length_cons, List.length_nil] <;> omega
theorem opens_sp {xs : List Int} : ∀ {k : Nat}, k ≤ xs.length → (opens (xs.take k)).length ≤ (sp xs k).length
  | 0, _ => by simp [opens, opensFrom]
  | k + 1, hk => by
    have h1 := opens_sp (xs := xs) (k := k) (by omega)
    have h2 := stp_len (opens (xs.take k)) (xs.getD k default)
    rw [opens_succ (xs := xs) (k := k) (by omega)]
    simp only [sp, List.length_append]
    by_cases h : xs.getD k default > 0
    · rw [if_pos h] at h2 ⊢; simp only [List.length_singleton]; omega
    · rw [if_neg h] at h2 ⊢; simp only [List.length_nil]; omega
theorem mx_sp {xs : List Int} : ∀ {k : Nat}, k ≤ xs.length → mx xs k ≤ (sp xs k).length
  | 0, _ => by simp [mx]
  | k + 1, hk => by
    have h1 := mx_sp (xs := xs) (k := k) (by omega)
    have h2 := opens_sp (xs := xs) (k := k + 1) hk
    have h3 : (sp xs k).length ≤ (sp xs (k + 1)).length := by simp [sp]
    simp only [mx]; omega
theorem opens_mx (xs : List Int) : ((opens xs).length : Int) ≤ mx xs xs.length := by
  cases h : xs.length with
  | zero => rw [List.eq_nil_of_length_eq_zero h]; simp [opens, opensFrom, mx]
  | succ k =>
    simp only [mx]
    rw [List.take_of_length_le (by omega)]; omega
theorem sp_mem {xs : List Int} {s : Int × Int} : ∀ {k : Nat}, s ∈ sp xs k → ∃ i, i < k ∧ s = ((i : Int), nxt xs i (-(xs.getD i default))) ∧ xs.getD i default > 0
  | 0, h => by simp [sp] at h
  | k + 1, h => by
    simp only [sp, List.mem_append] at h
    rcases h with h | h
    · obtain ⟨i, hi, h2, h3⟩ := sp_mem h
      exact ⟨i, by omega, h2, h3⟩
    · split at h
      · simp at h; exact ⟨k, by omega, h, by assumption⟩
      · simp at h
theorem nxt_spec {xs : List Int} {i : Nat} {n : Int} (h : 0 ≤ nxt xs i n) : ∃ j, nxt xs i n = (j : Nat) ∧ i < j ∧ j < xs.length ∧ xs.getD j default = n ∧ ∀ t, i < t → t < j → xs.getD t default ≠ n := by
  unfold nxt at *
  by_cases h0 : 0 ≤ idx (xs.drop (i + 1)) n
  · rw [if_pos h0] at h ⊢
    have hm := idx_lt.1 h0
    have hlt := List.idxOf_lt_length_of_mem hm
    have he : (xs.drop (i + 1))[(xs.drop (i + 1)).idxOf n] = n := List.getElem_idxOf hlt
    have hlt2 := hlt
    rw [List.length_drop] at hlt2
    rw [List.getElem_drop] at he
    refine ⟨i + 1 + (xs.drop (i + 1)).idxOf n, ?_, by omega, by omega, by rw [getDe (by omega)]; exact he, ?_⟩
    · unfold idx; rw [if_pos hm]; omega
    · intro t h1 h2 he2
      have hl3 : t - (i + 1) < (xs.drop (i + 1)).idxOf n := by omega
      have := List.not_of_lt_findIdx (p := fun x => x == n) (xs := xs.drop (i + 1)) hl3
      rw [List.getElem_drop] at this
      rw [getDe (by omega)] at he2
      have e1 : i + 1 + (t - (i + 1)) = t := by omega
      simp only [e1, he2] at this
      simp at this
  · rw [if_neg h0] at h; omega
theorem stp_keep {op : List Int} {n x : Int} (hx : x ∈ op) (hp : 0 < x) (hn : n ≠ -x) : x ∈ stp op n := by
  unfold stp
  split
  · exact hx
  · by_cases e : n = x
    · subst e; simp [hp]
    · refine List.mem_append_left _ (List.mem_filter.2 ⟨hx, ?_⟩)
      unfold ab; simp; omega
theorem opens_keep {xs : List Int} {x : Int} (hp : 0 < x) {i : Nat} (hx : x ∈ opens (xs.take i)) : ∀ {t : Nat}, i ≤ t → t ≤ xs.length → (∀ j, i ≤ j → j < t → xs.getD j default ≠ -x) → x ∈ opens (xs.take t) := by
  intro t
  induction t with
  | zero => intro h _ _; have : i = 0 := by omega
            subst this; exact hx
  | succ t ih =>
    intro h ht hno
    by_cases e : i = t + 1
    · subst e; exact hx
    · rw [opens_succ (by omega)]
      exact stp_keep (ih (by omega) (by omega) fun j h1 h2 => hno j h1 (by omega)) hp (hno t (by omega) (by omega))
theorem opens_new {xs : List Int} {i : Nat} (hi : i < xs.length) (hp : xs.getD i default > 0) : xs.getD i default ∈ opens (xs.take (i + 1)) := by
  rw [opens_succ hi, stp_pos2 hp]; simp
theorem tidy_closed {xs : List Int} (ht : tidy xs = true) {i : Nat} (hi : i < xs.length) (hp : xs.getD i default > 0) : 0 ≤ nxt xs i (-(xs.getD i default)) := by
  refine Decidable.byContradiction fun hneg => ?_
  have hm : -(xs.getD i default) ∉ xs.drop (i + 1) := fun hm => by
    have := idx_lt.2 hm
    unfold nxt at hneg
    rw [if_pos this] at hneg; omega
  have := opens_keep hp (opens_new hi hp) (t := xs.length) (by omega) (Nat.le_refl _) (fun j h1 h2 he => hm (by
    rw [← he, getDe h2]
    rw [List.mem_iff_getElem]
    exact ⟨j - (i + 1), by rw [List.length_drop]; omega, by rw [List.getElem_drop]; congr 1; omega⟩))
  rw [List.take_length, (tidy_spec ht).1] at this
  simp at this
/-- Spans of nested entries don't cross. -/
theorem no_cross {xs : List Int} (ht : tidy xs = true) (hn : nS xs xs.length) {p q c d : Nat} (hp : xs.getD p default > 0) (hq : xs.getD q default > 0) (hpq : p < q) (hqc : q < c) (hc : c < xs.length)
    (hcp : xs.getD c default = -(xs.getD p default)) (hcf : ∀ t, p < t → t < c → xs.getD t default ≠ -(xs.getD p default)) (hdf : ∀ t, q < t → t < d → xs.getD t default ≠ -(xs.getD q default)) : d ≤ c := by
  refine Decidable.byContradiction fun hd => ?_
  generalize hx : xs.getD p default = x at *
  generalize hy : xs.getD q default = y at *
  have hxq : x ∈ opens (xs.take q) := opens_keep hp (by rw [← hx]; exact opens_new (by omega) (by omega)) (i := p + 1) (by omega) (by omega) fun j h1 h2 => hcf j (by omega) (by omega)
  have key : ∀ t, q + 1 ≤ t → t ≤ c → ∃ r1 r2, opens (xs.take t) = r1 ++ x :: r2 ∧ y ∈ r2 := by
    intro t
    induction t with
    | zero => intro h; omega
    | succ t ih =>
      intro h1 h2
      by_cases e : t = q
      · subst e
        rw [opens_succ (by omega), hy]
        have hf := flt_pos (tidy_flt ht (k := t) (by omega)) (by rw [hy]; exact hq)
        rw [hy] at hf
        rw [stp_pos2 hq, show max y (-y) = y by omega, filter_self hf]
        obtain ⟨r1, r2, hr⟩ := List.append_of_mem hxq
        exact ⟨r1, r2 ++ [y], by rw [hr]; simp, by simp⟩
      · obtain ⟨r1, r2, hr, hy2⟩ := ih (by omega) (by omega)
        rw [opens_succ (by omega), hr]
        have hf := tidy_flt ht (k := t) (by omega)
        rw [hr] at hf
        have n1 := hcf t (by omega) (by omega)
        have n2 := hdf t (by omega) (by omega)
        generalize xs.getD t default = n at *
        rcases Int.lt_trichotomy n 0 with hn0 | rfl | hn0
        · rw [stp_negv hn0]
          refine ⟨r1.filter (fun z => decide (z ≠ -n)), r2.filter (fun z => decide (z ≠ -n)), ?_, List.mem_filter.2 ⟨hy2, by simp; omega⟩⟩
          rw [List.filter_append, List.filter_cons_of_pos (by simp; omega)]
        · rw [stp_zero]; exact ⟨r1, r2, rfl, hy2⟩
        · rw [stp_pos2 hn0, show max n (-n) = n by omega, filter_self (flt_pos hf hn0)]
          exact ⟨r1, r2 ++ [n], by simp, by simp [hy2]⟩
  obtain ⟨r1, r2, hr, hy2⟩ := key c (by omega) (Nat.le_refl _)
  obtain ⟨r, hr'⟩ := hn c hc (by omega)
  rw [hcp, Int.neg_neg, hr] at hr'
  have hg := (good_opens (xs.take c)).1
  rw [hr] at hg
  have hne : r2 ≠ [] := fun e => by rw [e] at hy2; simp at hy2
  have hl := congrArg List.getLast? hr'
  rw [List.getLast?_append, List.getLast?_cons, List.getLast?_append] at hl
  have hlast : r2.getLast? = some x := by
    rw [List.getLast?_eq_some_getLast hne] at hl ⊢
    simpa using hl
  have hxr : x ∈ r2 := List.mem_of_getLast? hlast
  have := (List.nodup_append.1 hg).2.1
  simp [hxr] at this
theorem sp_sorted {xs : List Int} : ∀ {K m k : Nat}, m < k → k < (sp xs K).length → ((sp xs K).getD m default).1 < ((sp xs K).getD k default).1
  | 0, _, _, _, h => by simp [sp] at h
  | K + 1, m, k, hmk, h => by
    simp only [sp] at h ⊢
    rw [List.length_append] at h
    by_cases hk : k < (sp xs K).length
    · have := sp_sorted hmk hk
      simp only [List.getD_eq_getElem?_getD, List.getElem?_append_left hk, List.getElem?_append_left (show m < (sp xs K).length by omega)]
      simpa only [List.getD_eq_getElem?_getD] using this
    · by_cases hp : xs.getD K default > 0
      · rw [if_pos hp] at h ⊢
        simp only [List.length_singleton] at h
        have hk2 : k = (sp xs K).length := by omega
        subst hk2
        have hm : (sp xs K)[m]'hmk ∈ sp xs K := List.getElem_mem hmk
        obtain ⟨i, hi, he, _⟩ := sp_mem hm
        simp only [List.getD_eq_getElem?_getD, List.getElem?_append_left hmk, List.getElem?_eq_getElem hmk, List.getElem?_append_right (Nat.le_refl _), Nat.sub_self, he]
        simp; omega
      · rw [if_neg hp] at h; simp at h; omega
end Go.Ents
