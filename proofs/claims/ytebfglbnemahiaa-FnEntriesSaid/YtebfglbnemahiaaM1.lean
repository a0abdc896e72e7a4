/- Plain: entries that open and close resources. -/
namespace Go.Ents
def ab (n : Int) : Int := max n (-n)
/-- What is open behind one more entry. -/
def stp (op : List Int) (n : Int) : List Int := if n = 0 then op else (op.filter fun x => decide (x ≠ ab n)) ++ (if n > 0 then [n] else [])
/-- Is the entry a fault? -/
def flt (op : List Int) (n : Int) : Bool := decide (n ≠ 0) && (decide (ab n ∈ op) == decide (n > 0))
def opensFrom (op : List Int) (xs : List Int) : List Int := xs.foldl stp op
def opens (xs : List Int) : List Int := opensFrom [] xs
def faultsFrom : List Int → Nat → List Int → List Int
  | _, _, [] => []
  | op, i, n :: r => (if flt op n then [(i : Int)] else []) ++ faultsFrom (stp op n) (i + 1) r
def faults (xs : List Int) : List Int := faultsFrom [] 0 xs
def rowsFrom : List Int → List Int → List (List Int)
  | _, [] => []
  | op, n :: r => stp op n :: rowsFrom (stp op n) r
def rows (xs : List Int) : List (List Int) := rowsFrom [] xs
def tidy (xs : List Int) : Bool := decide (opens xs = [] ∧ faults xs = [])
def idx (xs : List Int) (n : Int) : Int := if n ∈ xs then (xs.idxOf n : Int) else -1
theorem opensFrom_append (op xs ys : List Int) : opensFrom op (xs ++ ys) = opensFrom (opensFrom op xs) ys := by simp [opensFrom]
theorem faultsFrom_append : ∀ (xs op : List Int) (i : Nat) (ys : List Int), faultsFrom op i (xs ++ ys) = faultsFrom op i xs ++ faultsFrom (opensFrom op xs) (i + xs.length) ys
  | [], op, i, ys => by simp [faultsFrom, opensFrom]
  | n :: r, op, i, ys => by
    have := faultsFrom_append r (stp op n) (i + 1) ys
    simp only [List.cons_append, faultsFrom, this, List.append_assoc, opensFrom, List.foldl_cons, List.length_cons]
    rw [show i + 1 + r.length = i + (r.length + 1) by omega]
theorem rowsFrom_append : ∀ (xs op ys : List Int), rowsFrom op (xs ++ ys) = rowsFrom op xs ++ rowsFrom (opensFrom op xs) ys
  | [], op, ys => by simp [rowsFrom, opensFrom]
  | n :: r, op, ys => by simp [rowsFrom, rowsFrom_append r (stp op n) ys, opensFrom]
theorem opens_snoc (xs : List Int) (n : Int) : opens (xs ++ [n]) = stp (opens xs) n := by simp [opens, opensFrom]
theorem faults_snoc (xs : List Int) (n : Int) : faults (xs ++ [n]) = faults xs ++ if flt (opens xs) n then [(xs.length : Int)] else [] := by
  unfold faults opens
  rw [faultsFrom_append]
  simp [faultsFrom]
theorem rows_snoc (xs : List Int) (n : Int) : rows (xs ++ [n]) = rows xs ++ [stp (opens xs) n] := by simp [rows, rowsFrom_append, rowsFrom, opens]
theorem rows_length (xs : List Int) : (rows xs).length = xs.length := by
  have : ∀ (xs op : List Int), (rowsFrom op xs).length = xs.length := by
    intro xs; induction xs with
    | nil => intro op; rfl
    | cons n r ih => intro op; simp [rowsFrom, ih]
  exact this xs []
theorem rows_get (xs : List Int) (i : Nat) (h : i < xs.length) : (rows xs).getD i default = opens (xs.take (i + 1)) := by
  have : ∀ (xs op : List Int) (i : Nat), i < xs.length → (rowsFrom op xs)[i]? = some (opensFrom op (xs.take (i + 1))) := by
    intro xs; induction xs with
    | nil => intro op i h; simp at h
    | cons n r ih =>
      intro op i h
      cases i with
      | zero => simp [rowsFrom, opensFrom]
      | succ i => simp only [rowsFrom, List.getElem?_cons_succ, List.take_succ_cons]; rw [ih _ _ (by simpa using h)]; simp [opensFrom]
  have h2 := this xs [] i h
  simp [rows, opens, List.getD_eq_getElem?_getD, h2]
theorem ab_pos {n : Int} (h : n ≠ 0) : 0 < ab n := by unfold ab; omega
/-- What is open: numbers above 0, each once. -/
def Good (op : List Int) : Prop := op.Nodup ∧ ∀ x ∈ op, 0 < x
theorem good_stp {op : List Int} (h : Good op) (n : Int) : Good (stp op n) := by
  unfold stp
  by_cases h0 : n = 0
  · simpa [h0] using h
  · rw [if_neg h0]
    have hf : Good (op.filter fun x => decide (x ≠ ab n)) := ⟨h.1.filter _, fun x hx => h.2 x (List.mem_filter.1 hx).1⟩
    by_cases hp : n > 0
    · rw [if_pos hp]
      refine ⟨List.nodup_append.2 ⟨hf.1, by simp, ?_⟩, ?_⟩
      · intro a ha b hb
        simp at hb; subst hb
        have := (List.mem_filter.1 ha).2
        have hab : ab b = b := by unfold ab; omega
        simp [hab] at this; exact this
      · intro x hx
        rcases List.mem_append.1 hx with hx | hx
        · exact hf.2 x hx
        · simp at hx; omega
    · simpa [hp] using hf
theorem good_from : ∀ (xs : List Int) {op : List Int}, Good op → Good (opensFrom op xs)
  | [], _, h => h
  | n :: r, op, h => good_from r (good_stp h n)
theorem good_opens (xs : List Int) : Good (opens xs) := good_from xs ⟨by simp, by simp⟩
theorem opens_len : ∀ (xs op : List Int), (opensFrom op xs).length ≤ op.length + xs.length
  | [], op => by simp [opensFrom]
  | n :: r, op => by
    have h1 := opens_len r (stp op n)
    have h2 : (stp op n).length ≤ op.length + 1 := by
      unfold stp
      split
      · omega
      · have := List.length_filter_le (fun x => decide (x ≠ ab n)) op
        simp only [List.length_append]
        split <;> simp only [List.length_cons, List.length_nil] <;> omega
    simp only [opensFrom, List.foldl_cons, List.length_cons] at *
    omega
theorem faults_len (xs : List Int) : (faults xs).length ≤ xs.length := by
  have : ∀ (xs op : List Int) (i : Nat), (faultsFrom op i xs).length ≤ xs.length := by
    intro xs; induction xs with
    | nil => intro op i; simp [faultsFrom]
    | cons n r ih =>
      intro op i
      have := ih (stp op n) (i + 1)
      simp only [faultsFrom, List.length_append, List.length_cons]
      split <;> simp <;> omega
  exact this xs [] 0
/-- Are they entries? -/
def ok (xs : List Int) : Bool := decide (xs.length ≤ 60 ∧ ∀ n ∈ xs, -32767 ≤ n ∧ n ≤ 32767)
def idxF (p : Int → Bool) (xs : List Int) : Int := if xs.any p then (xs.findIdx p : Int) else -1
/-- How many are open at most behind one of the first k entries. -/
def mx (xs : List Int) : Nat → Int
  | 0 => 0
  | k + 1 => max (mx xs k) ((opens (xs.take (k + 1))).length : Int)
/-- The place of the next entry behind place i that is n. -/
def nxt (xs : List Int) (i : Nat) (n : Int) : Int := if 0 ≤ idx (xs.drop (i + 1)) n then idx (xs.drop (i + 1)) n + (i + 1 : Nat) else -1
def sp (xs : List Int) : Nat → List (Int × Int)
  | 0 => []
  | k + 1 => sp xs k ++ if xs.getD k default > 0 then [((k : Int), nxt xs k (-(xs.getD k default)))] else []
/-- The entries that are no faults, of the first k. -/
def kp (xs : List Int) : Nat → List Int
  | 0 => []
  | k + 1 => kp xs k ++ if (k : Int) ∈ faults xs then [] else [xs.getD k default]
def mend (xs : List Int) : List Int := kp xs xs.length ++ (opens (kp xs xs.length)).reverse.map fun n => -n
/-- The program's look at entries that close. -/
def nI (xs : List Int) (k : Nat) : Prop := ∀ i, i < k → 0 < i → xs.getD i default < 0 → opens (xs.take i) = opens (xs.take (i + 1)) ++ [-(xs.getD i default)]
/-- The reference's. -/
def nS (xs : List Int) (k : Nat) : Prop := ∀ i, i < k → xs.getD i default < 0 → ∃ r, opens (xs.take i) = r ++ [-(xs.getD i default)]
/-! ### What the program's own books do -/
theorem idxOf_first : ∀ (xs : List Int) (k : Nat) (h : k < xs.length), (∀ x ∈ xs.take k, x ≠ xs[k]) → xs.idxOf xs[k] = k
  | [], k, h, _ => by simp at h
  | y :: r, 0, _, _ => by simp
  | y :: r, k + 1, h, hno => by
    have h1 := idxOf_first r k (by simpa using h) (fun x hx => by have := hno x (by simp [hx]); simpa using this)
    have h2 : y ≠ r[k]'(by simpa using h) := by have := hno y (by simp); simpa using this
    simp only [List.getElem_cons_succ, List.idxOf_cons]
    have : (y == r[k]'(by simpa using h)) = false := by simpa using h2
    rw [this, h1]; rfl
theorem idxF_at {p : Int → Bool} {xs : List Int} {k : Nat} (h : k < xs.length) (hno : ∀ x ∈ xs.take k, p x = false) (hp : p xs[k] = true) : (k : Int) = idxF p xs := by
  unfold idxF
  rw [if_pos (List.any_eq_true.2 ⟨_, List.getElem_mem h, hp⟩)]
  have : xs.findIdx p = k := by
    rw [List.findIdx_eq h]
    exact ⟨hp, fun j hj => hno _ (List.mem_take_iff_getElem.2 ⟨j, by omega, rfl⟩)⟩
  omega
theorem idxF_none {p : Int → Bool} {xs : List Int} (hno : ∀ x ∈ xs, p x = false) : (-1 : Int) = idxF p xs := by
  unfold idxF
  rw [if_neg]
  intro h
  obtain ⟨x, hx, hp⟩ := List.any_eq_true.1 h
  rw [hno x hx] at hp; cases hp
theorem idxF_ge (p : Int → Bool) (xs : List Int) : decide (idxF p xs ≥ 0) = xs.any p := by
  unfold idxF
  cases h : xs.any p <;> simp
theorem idx_lt {xs : List Int} {n : Int} : (0 ≤ idx xs n) ↔ n ∈ xs := by
  unfold idx; split
  · rename_i h; simp [h]
  · rename_i h; simp [h]
theorem idx_bd (xs : List Int) (n : Int) : -1 ≤ idx xs n ∧ idx xs n < xs.length := by
  unfold idx; split
  · rename_i h; have := List.idxOf_lt_length_of_mem h; omega
  · omega
theorem erase_filter {op : List Int} (h : op.Nodup) {m : Int} (hm : m ∈ op) : op.eraseIdx (idx op m).toNat = op.filter fun x => decide (x ≠ m) := by
  have : (idx op m).toNat = op.idxOf m := by simp [idx, hm]
  rw [this, ← List.erase_eq_eraseIdx_of_idxOf rfl]
  rw [h.erase_eq_filter]
  congr 1; funext x; by_cases e : x = m <;> simp [e]
theorem filter_self {op : List Int} {m : Int} (hm : m ∉ op) : (op.filter fun x => decide (x ≠ m)) = op := by
  rw [List.filter_eq_self]; intro a ha; simp; intro h; exact hm (h ▸ ha)
theorem stp_zero (op : List Int) : stp op 0 = op := by simp [stp]
theorem stp_pos {op : List Int} {n : Int} (h : n > 0) : stp op n = (op.filter fun x => decide (x ≠ max n (-n))) ++ [max n (-n)] := by
  have h1 : n ≠ 0 := by omega
  have h2 : max n (-n) = n := by omega
  unfold stp ab
  rw [if_neg h1, if_pos h, h2]
theorem stp_pos2 {op : List Int} {n : Int} (h : n > 0) : stp op n = (op.filter fun x => decide (x ≠ max n (-n))) ++ [n] := by
  have h2 : max n (-n) = n := by omega
  rw [stp_pos h, h2]
theorem stp_neg {op : List Int} {n : Int} (h0 : n ≠ 0) (h : ¬ n > 0) : stp op n = op.filter fun x => decide (x ≠ max n (-n)) := by
  unfold stp ab
  rw [if_neg h0, if_neg h, List.append_nil]
theorem stp_gen {op : List Int} {n : Int} (hg : Good op) (h : ¬ n > 0) : stp op n = op.filter fun x => decide (x ≠ max n (-n)) := by
  by_cases h0 : n = 0
  · subst h0
    rw [stp_zero, filter_self]
    intro hm; have := hg.2 _ hm; omega
  · exact stp_neg h0 h
theorem flt_eq {op : List Int} {n : Int} (h : n ≠ 0) : flt op n = (decide (max n (-n) ∈ op) == decide (n > 0)) := by
  unfold flt ab
  rw [decide_eq_true h, Bool.true_and]
theorem flt_zero (op : List Int) : flt op 0 = false := by simp [flt]
theorem opens_le (xs : List Int) : (opens xs).length ≤ xs.length := by have := opens_len xs []; simpa [opens] using this
theorem ok_t {xs : List Int} (h : (xs.length : Int) ≤ 60) : ok xs = !(xs.any fun n => !decide (-32767 ≤ n ∧ n ≤ 32767)) := by
  unfold ok
  have h1 : xs.length ≤ 60 := by omega
  by_cases hh : ∀ n ∈ xs, -32767 ≤ n ∧ n ≤ 32767
  · rw [decide_eq_true ⟨h1, hh⟩, eq_comm, Bool.not_eq_true', List.any_eq_false]
    intro n hn; simp [hh n hn]
  · rw [decide_eq_false (fun e => hh e.2), eq_comm, Bool.not_eq_false', List.any_eq_true]
    simp only [Classical.not_forall] at hh
    obtain ⟨n, hn, hb⟩ := hh
    exact ⟨n, hn, by rw [decide_eq_false (fun e => hb ⟨e.1, e.2⟩)]; rfl⟩
theorem ok_f {xs : List Int} (h : 60 < (xs.length : Int)) : ok xs = false := decide_eq_false fun e => by have := e.1; omega
theorem ok_all {xs : List Int} (h : ∀ n ∈ xs, -32767 ≤ n ∧ n ≤ 32767) : ok xs = decide ((xs.length : Int) ≤ 60) := by
  unfold ok; apply decide_eq_decide.2; exact ⟨fun e => by have := e.1; omega, fun e => ⟨by omega, h⟩⟩
theorem ok_not {xs : List Int} {n : Int} (hn : n ∈ xs) (h : ¬ (-32767 ≤ n ∧ n ≤ 32767)) : ok xs = false := decide_eq_false fun e => h (e.2 n hn)
theorem ok_spec {xs : List Int} (h : ok xs = true) : xs.length ≤ 60 ∧ ∀ n ∈ xs, -32767 ≤ n ∧ n ≤ 32767 := of_decide_eq_true h
theorem sp_len (xs : List Int) : ∀ k, (sp xs k).length ≤ k
  | 0 => by simp [sp]
  | k + 1 => by
    have := sp_len xs k
    simp only [sp, List.length_append]
    split <;> simp only [List.length_cons, List.length_nil] <;> omega
theorem kp_len (xs : List Int) : ∀ k, (kp xs k).length ≤ k
  | 0 => by simp [kp]
  | k + 1 => by
    have := kp_len xs k
    simp only [kp, List.length_append]
    split <;> simp only [List.length_cons, List.length_nil] <;> omega
theorem getD_mem' {xs : List Int} {k : Nat} (h : k < xs.length) : xs.getD k default ∈ xs := by simp [h]
theorem kp_mem {xs : List Int} : ∀ {k : Nat}, k ≤ xs.length → ∀ x ∈ kp xs k, x ∈ xs
  | 0, _, x, hx => by simp [kp] at hx
  | k + 1, hk, x, hx => by
    simp only [kp, List.mem_append] at hx
    rcases hx with hx | hx
    · exact kp_mem (by omega) x hx
    · split at hx
      · simp at hx
      · simp at hx; subst hx; simpa using getD_mem' (xs := xs) (k := k) (by omega)
theorem idx_cons {x n : Int} {r : List Int} (h : x ≠ n) : idx (x :: r) n = if 0 ≤ idx r n then idx r n + 1 else -1 := by
  have h1 : (x == n) = false := by simpa using h
  unfold idx
  by_cases hm : n ∈ r
  · rw [if_pos (by simp [hm]), if_pos hm, if_pos (by omega), List.idxOf_cons, h1]
    simp
  · have : ¬ (n ∈ x :: r) := by simp [hm, Ne.symm h]
    rw [if_neg this, if_neg hm, if_neg (by decide)]
theorem nxt_eq {xs : List Int} {i : Nat} (hi : i < xs.length) {n : Int} (h : xs.getD i default ≠ n) : (if 0 ≤ idx (xs.drop i) n then idx (xs.drop i) n + (i : Int) else idx (xs.drop i) n) = nxt xs i n := by
  have h1 : xs.getD i default = xs[i] := by simp [hi]
  rw [h1] at h
  unfold nxt
  rw [List.drop_eq_getElem_cons hi, idx_cons h]
  by_cases h3 : 0 ≤ idx (xs.drop (i + 1)) n
  · rw [if_pos h3, if_pos h3, if_pos (by omega)]; omega
  · rw [if_neg h3, if_neg h3, if_neg (by decide)]
theorem getDe {xs : List Int} {i : Nat} (h : i < xs.length) : xs.getD i default = xs[i] := by simp [h]
theorem nxt_found {xs : List Int} {i k : Nat} {n : Int} (h1 : i + 1 ≤ k) (h2 : k < xs.length) (hno : ∀ j, i + 1 ≤ j → j < k → xs.getD j default ≠ n) (hp : xs.getD k default = n) : (k : Int) = nxt xs i n := by
  have hl : k - (i + 1) < (xs.drop (i + 1)).length := by rw [List.length_drop]; omega
  have he : (xs.drop (i + 1))[k - (i + 1)] = n := by
    rw [List.getElem_drop, ← hp, getDe h2]
    congr 1; omega
  have hx := idxOf_first (xs.drop (i + 1)) (k - (i + 1)) hl (fun x hx => by
    obtain ⟨j, hj, rfl⟩ := List.mem_take_iff_getElem.1 hx
    rw [he, List.getElem_drop]
    have := hno (i + 1 + j) (by omega) (by omega)
    rw [getDe (by omega)] at this
    exact this)
  rw [he] at hx
  have hm : n ∈ xs.drop (i + 1) := he ▸ List.getElem_mem hl
  have : idx (xs.drop (i + 1)) n = ((k - (i + 1) : Nat) : Int) := by unfold idx; rw [if_pos hm, hx]
  unfold nxt
  rw [this, if_pos (by omega)]; omega
theorem nxt_none {xs : List Int} {i : Nat} {n : Int} (hno : ∀ j, i + 1 ≤ j → j < xs.length → xs.getD j default ≠ n) : -1 = nxt xs i n := by
  have hm : n ∉ xs.drop (i + 1) := fun h => by
    obtain ⟨j, hj, he⟩ := List.mem_iff_getElem.1 h
    rw [List.getElem_drop] at he
    rw [List.length_drop] at hj
    have := hno (i + 1 + j) (by omega) (by omega)
    rw [getDe (by omega)] at this
    exact this he
  unfold nxt
  rw [if_neg (fun h => hm (idx_lt.1 h))]
theorem mx_bd (xs : List Int) : ∀ k, 0 ≤ mx xs k ∧ mx xs k ≤ xs.length
  | 0 => by simp [mx]
  | k + 1 => by
    have := mx_bd xs k
    have h2 := opens_le (xs.take (k + 1))
    have h3 := List.length_take_le (k + 1) xs
    have h4 : (xs.take (k + 1)).length ≤ xs.length := by rw [List.length_take]; omega
    simp only [mx]; omega
theorem mx_next (xs : List Int) (k : Nat) : max (mx xs (k - 1)) ((opens (xs.take k)).length : Int) = mx xs k := by
  cases k with
  | zero => simp [mx, opens, opensFrom]
  | succ k => rfl
theorem mend_step (ks : List Int) (m : Nat) (h : m < (opens ks).length) : ((opens ks).reverse.map fun n => -n).take (m + 1) = ((opens ks).reverse.map fun n => -n).take m ++ [-((opens ks).getD ((opens ks).length - 1 - m) default)] := by
  rw [List.take_add_one]
  congr 1
  rw [List.getElem?_map, List.getElem?_reverse h, List.getElem?_eq_getElem (by omega), getDe (by omega)]
  rfl
theorem nI_succ {xs : List Int} {k : Nat} (h : nI xs k) (h1 : 0 < k → xs.getD k default < 0 → opens (xs.take k) = opens (xs.take (k + 1)) ++ [-(xs.getD k default)]) : nI xs (k + 1) := fun i hi h0 hn => by
  by_cases e : i = k
  · subst e; exact h1 h0 hn
  · exact h i (by omega) h0 hn
theorem nS_succ {xs : List Int} {k : Nat} (h : nS xs k) (h1 : xs.getD k default < 0 → ∃ r, opens (xs.take k) = r ++ [-(xs.getD k default)]) : nS xs (k + 1) := fun i hi hn => by
  by_cases e : i = k
  · subst e; exact h1 hn
  · exact h i (by omega) hn
theorem last_is {l : List Int} {x : Int} (h : 0 < l.length) (he : l.getD (l.length - 1) default = x) : ∃ r, l = r ++ [x] := by
  have hn : l ≠ [] := fun e => by rw [e] at h; simp at h
  refine ⟨l.dropLast, ?_⟩
  have h1 := List.dropLast_concat_getLast hn
  rw [List.getLast_eq_getElem, ← getDe (by omega), he] at h1
  exact h1.symm
theorem last_not {l : List Int} {x : Int} (h : l.length = 0 ∨ l.getD (l.length - 1) default ≠ x) : ¬ ∃ r, l = r ++ [x] := by
  rintro ⟨r, rfl⟩
  rcases h with h | h
  · simp at h
  · exact h (by simp)
theorem stp_mem {op : List Int} {n x : Int} (h : x ∈ stp op n) : x ∈ op ∨ x = n := by
  unfold stp at h
  split at h
  · exact .inl h
  · rcases List.mem_append.1 h with h | h
    · exact .inl (List.mem_filter.1 h).1
    · split at h
      · exact .inr (by simpa using h)
      · simp at h
theorem opensFrom_mem : ∀ {xs op : List Int} {x : Int}, x ∈ opensFrom op xs → x ∈ op ∨ x ∈ xs
  | [], _, _, h => .inl h
  | n :: r, op, x, h => by
    rcases opensFrom_mem (xs := r) (op := stp op n) h with h | h
    · rcases stp_mem h with h | rfl
      · exact .inl h
      · exact .inr (by simp)
    · exact .inr (by simp [h])
theorem opens_mem {xs : List Int} {x : Int} (h : x ∈ opens xs) : x ∈ xs := by
  rcases opensFrom_mem (xs := xs) (op := []) h with h | h
  · simp at h
  · exact h
end Go.Ents
