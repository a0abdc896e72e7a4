/- The engine, part 5: slices of things that are told by an encoding. -/
import Derived.Test.YtebfglbnemahiaaE4
namespace Go.E
open Go.RowKit
/-- The value v is a slice that reads as xs. -/
def Rd {α : Type} (enc : α → Value) (sz : Nat) (H : Nat → Obj → Prop) (xs : List α) (v : Value) : Prop :=
  ∃ A c, v = .slice A xs.length c ∧ (xs.length ≤ c ∧ c ≤ 9223372036854775807) ∧ RowR H sz (xs.map enc) A
/-- .. and owns the entry e: it may grow. -/
def Mu {α : Type} (enc : α → Value) (E : TypeId) (sz : Nat) (xs : List α) (v : Value) (e : Ent) : Prop := RowM E sz (xs.map enc) v e
theorem Rd.mono {α : Type} {enc : α → Value} {sz : Nat} {H H' : Nat → Obj → Prop} {xs : List α} {v : Value} (h : Rd enc sz H xs v) (hH : ∀ b o, H b o → H' b o) : Rd enc sz H' xs v :=
  let ⟨A, c, h1, h2, h3⟩ := h
  ⟨A, c, h1, h2, h3.mono hH⟩
theorem Mu.form {α : Type} {enc : α → Value} {E sz : Nat} {xs : List α} {v : Value} {e : Ent} (h : Mu enc E sz xs v e) : ∃ A c, v = .slice A xs.length c ∧ (xs.length ≤ c ∧ c ≤ 9223372036854775807) := by
  rcases h.2 with ⟨rfl, h2, rfl⟩ | ⟨g, cap, cur, rfl, _, h2, h3, _⟩
  · exact ⟨none, 0, by simp at h2; simp [h2], by simp at h2; simp [h2]⟩
  · exact ⟨some ⟨g, 0, none⟩, cap, by simp, by simpa using h2, by simpa [maxLen] using h3⟩
theorem Mu.rd {α : Type} {enc : α → Value} {E sz : Nat} {xs : List α} {v : Value} {e : Ent} (h : Mu enc E sz xs v e) : Rd enc sz (inE e) xs v := by
  obtain ⟨A, c, rfl, hc⟩ := h.form
  exact ⟨A, c, rfl, hc, RowM.read h⟩
theorem Mu.rr {α : Type} {enc : α → Value} {E sz : Nat} {xs : List α} {A : Option Addr} {l c : Nat} {e : Ent} (h : Mu enc E sz xs (.slice A l c) e) : RowR (inE e) sz (xs.map enc) A := RowM.read h
theorem Mu.nil {α : Type} (enc : α → Value) (E sz : Nat) : Mu enc E sz [] (.slice none 0 0) [] := RowM.nil E sz
theorem Mu.nil' {α : Type} (enc : α → Value) (E sz b : Nat) : Mu enc E sz [] (.slice (some ⟨b, 0, none⟩) 0 0) [(b, row E [])] := RowM.nil' E sz b
theorem Rd.nil {α : Type} (enc : α → Value) (sz : Nat) (H : Nat → Obj → Prop) (A : Option Addr) {c : Nat} (hc : c ≤ 9223372036854775807) : Rd enc sz H [] (.slice A 0 c) := ⟨A, c, rfl, ⟨Nat.zero_le _, hc⟩, .inl rfl⟩
theorem inE_l {e e' : Ent} : ∀ b o, inE e b o → inE (e ++ e') b o := fun _ _ h => List.mem_append_left _ h
theorem inE_r {e e' : Ent} : ∀ b o, inE e' b o → inE (e ++ e') b o := fun _ _ h => List.mem_append_right _ h
/-- A slice of a slice, as the walk spells it. -/
theorem Rd.cutLo {α : Type} {enc : α → Value} {sz : Nat} {H : Nat → Obj → Prop} {xs : List α} {A : Option Addr} {l c : Nat} (h : Rd enc sz H xs (.slice A l c)) (lo : Nat) (hlo : lo ≤ xs.length) :
    Rd enc sz H (xs.drop lo) (.slice (if c = lo then A else A.map (·.add (lo * sz))) (l - lo) (c - lo)) := by
  obtain ⟨A', c', h1, h2, h3⟩ := h
  injection h1 with e1 e2 e3; subst e1 e2 e3
  refine ⟨_, _, by rw [List.length_drop], by rw [List.length_drop]; omega, ?_⟩
  have := h3.cut' lo xs.length c (by simp) h2.1
  rw [List.take_of_length_le (by simp)] at this
  rwa [List.map_drop]
theorem Rd.cutHi {α : Type} {enc : α → Value} {sz : Nat} {H : Nat → Obj → Prop} {xs : List α} {A : Option Addr} {l c : Nat} (h : Rd enc sz H xs (.slice A l c)) (hi : Nat) (hhi : hi ≤ xs.length) :
    Rd enc sz H (xs.take hi) (.slice A hi c) := by
  obtain ⟨A', c', h1, h2, h3⟩ := h
  injection h1 with e1 e2 e3; subst e1 e2 e3
  refine ⟨_, _, by rw [List.length_take, Nat.min_eq_left hhi], by rw [List.length_take]; omega, ?_⟩
  have := h3.cut 0 hi (by simpa using hhi)
  simp only [Nat.zero_mul, List.drop_zero] at this
  have hA : A.map (·.add 0) = A := by cases A <;> simp [Addr.add]
  rw [hA] at this
  rwa [List.map_take]
def appB (P : Program) (t E sz : Nat) : Bool := (match P.underlying t with
  | some (.slice e) => e == E
  | _ => false) && (match P.info? E with
  | some i => i.size == sz && Nat.ble i.bytes 32768 && (match i.zero with | some z => z.cells.size == sz | none => false)
  | none => false)
theorem appB_spec {P : Program} {t E sz : Nat} (h : appB P t E sz = true) : P.underlying t = some (.slice E) ∧ ∃ i z, P.info? E = some i ∧ i.zero = some z ∧ i.size = sz ∧ i.bytes ≤ 32768 ∧ z.cells.size = sz := by
  unfold appB at h
  simp only [Bool.and_eq_true] at h
  obtain ⟨h1, h2⟩ := h
  split at h1
  · rename_i e he
    simp at h1; subst h1
    split at h2
    · rename_i i hi
      simp only [Bool.and_eq_true] at h2
      obtain ⟨⟨h3, h4⟩, h5⟩ := h2
      split at h5
      · rename_i z hz; exact ⟨he, i, z, hi, hz, by simpa using h3, Nat.le_of_ble_eq_true h4, by simpa using h5⟩
      · simp at h5
    · simp at h2
  · simp at h1
section
variable {P : Program} {a : Act} {n : Nat} {D : List Deferred} {F : Fr} {ty : TypeId} {ops : Array Oper} {Q : Exit → Act → World → Prop} {rest : List Oper} {w w0 : World} {L : List Ent} {pos : String} {aft : Array Edge} {d : Nat} {v : Value}
variable {α : Type} {enc : α → Value} {sz : Nat} {H : Nat → Obj → Prop} {xs : List α} {A : Option Addr}
theorem yl_ix {C : World → Prop} (hs : St n D F a) {x ix : Operand} {l c t e : Nat} {i : Int} (hx : ev F x = some (.slice A l c)) (hi : ev F ix = some (.int .i64 i))
    (ht : sliceB P t e sz = true) {vs : List Value} (hr : RowR H sz vs A) (hl : l ≤ vs.length) (h : 0 ≤ i ∧ i < (l : Int)) : Yl P C a (.indexAddr t x ix) ty (.pointer (some (eA A (i.toNat * sz)))) := by
  rcases hr with rfl | ⟨b, off, cc, T, fr, rfl, _⟩
  · simp at hl; omega
  · exact yl_indexAddr hs hx hi ht h
theorem getD_map {i : Nat} [Inhabited α] (h : i < xs.length) : (xs.map enc)[i]? = some (enc (xs.getD i default)) := by
  simp [h]
theorem yl_ld1 [Inhabited α] (hs : St n D F a) {x : Operand} {t : Nat} {i : Int} (hx : ev F x = some (.pointer (some (eA A (i.toNat * sz))))) (ht : scalarB P t = true)
    (hr : RowR H sz (xs.map enc) A) (hH : Val w0 L H) (hi : 0 ≤ i ∧ i < (xs.length : Int)) (h1 : ∀ x, cells1 (enc x) = [enc x]) : Yl P (fun w => OwnE w0 w L) a (.load t x) ty (enc (xs.getD i.toNat default)) :=
  yl_load_el1 hs hx ht hH hr (getD_map (by omega)) (h1 _)
theorem yl_ldN [Inhabited α] {encL : α → List Value} (hs : St n D F a) {x : Operand} {t m : Nat} {i : Int} (hx : ev F x = some (.pointer (some (eA A (i.toNat * sz))))) (ht : aggB P t m = true)
    (hr : RowR H sz (xs.map fun x => .agg ⟨encL x⟩) A) (hH : Val w0 L H) (hi : 0 ≤ i ∧ i < (xs.length : Int)) (h1 : ∀ x, (encL x).length = m) : Yl P (fun w => OwnE w0 w L) a (.load t x) ty (.agg ⟨encL (xs.getD i.toNat default)⟩) :=
  yl_load_elN hs hx (by rw [h1]; exact ht) hH hr (getD_map (enc := fun x => .agg ⟨encL x⟩) (by omega))
theorem yl_ldF [Inhabited α] (hs : St n D F a) {x : Operand} {t o : Nat} {i : Int} (hx : ev F x = some (.pointer (some ⟨(A.getD ⟨0, 0, none⟩).block, (A.getD ⟨0, 0, none⟩).off + i.toNat * sz + o, none⟩))) (ht : scalarB P t = true)
    (hr : RowR H sz (xs.map enc) A) (hH : Val w0 L H) (hi : 0 ≤ i ∧ i < (xs.length : Int)) {u : Value} (hu : (cells1 (enc (xs.getD i.toNat default)))[o]? = some u) : Yl P (fun w => OwnE w0 w L) a (.load t x) ty u :=
  yl_load_fld hs hx ht hH hr (getD_map (by omega)) hu
/-- One element more. -/
theorem stepApp (hs : St n D F a) (hO : OwnE w0 w L) {x y : Operand} {t E b c' : Nat} {sv : Value} {us : List Value} {u : α} {e : Ent} {L' : Ent → List Ent}
    (hx : ev F x = some sv) (hy : ev F y = some (.slice (some ⟨b, 0, none⟩) 1 c')) (ht : appB P t E sz = true) (hpos : Nat.blt 0 sz = true)
    (hM : Mu enc E sz xs sv e) (hb : [(b, row E us)] ∈ L) (hu : us = cells1 (enc u)) (hl : us.length = sz) (h1 : us.all (·.oneCell') = true)
    (hroom : xs.length ≤ 4294967000) (hrep : ∀ e', Repl L e e' (L' e')) (hd : Nat.blt d n = true)
    (k : ∀ a' v' e' w', St n D ((d, v') :: F) a' → Mu enc E sz (xs ++ [u]) v' e' → OwnE w0 w' (L' e') → wpList P ops Q rest a' w') :
    wpList P ops Q (⟨some d, .call ⟨.builtin .append, #[x, y], #[t, t]⟩, ty, pos, aft, none⟩ :: rest) a w := by
  obtain ⟨h2, i, z, h3, h4, h5, h6, h7⟩ := appB_spec ht
  subst hu
  refine stepAppend (us := [enc u]) (H := inE [(b, row E (cells1 (enc u)))]) hs hO hx hM hy ?_ (Val.ent hb) (by simp) ?_ h2 h3 h4 h5 rfl h7 (by simpa using hpos) (by simp; omega) h6 hrep hd ?_
  · refine .inr ⟨b, 0, ⟨cells1 (enc u)⟩, E, (0, 0), rfl, by simp [inE], ?_⟩
    intro i v hv
    cases i with
    | zero => simp at hv; subst hv; exact ⟨hl, fun j u hu => by simpa using hu⟩
    | succ i => simp at hv
  · intro v hv; simp at hv; subst hv; exact ⟨hl, h1⟩
  · intro a' v' e' w' h hM hO
    exact k a' v' e' w' h (by simpa [Mu] using hM) hO
/-- All elements of another slice more. -/
theorem stepAppS (hs : St n D F a) (hO : OwnE w0 w L) {x y : Operand} {t E : Nat} {sv yv : Value} {ys : List α} {e : Ent} {L' : Ent → List Ent}
    (hx : ev F x = some sv) (hy : ev F y = some yv) (ht : appB P t E sz = true) (hpos : Nat.blt 0 sz = true)
    (hM : Mu enc E sz xs sv e) (hr : Rd enc sz H ys yv) (hH : Val w0 L H) (hne : ys ≠ []) (hl : ∀ u, (cells1 (enc u)).length = sz ∧ (cells1 (enc u)).all (·.oneCell') = true)
    (hroom : xs.length + ys.length ≤ 4294967296) (hrep : ∀ e', Repl L e e' (L' e')) (hd : Nat.blt d n = true)
    (k : ∀ a' v' e' w', St n D ((d, v') :: F) a' → Mu enc E sz (xs ++ ys) v' e' → OwnE w0 w' (L' e') → wpList P ops Q rest a' w') :
    wpList P ops Q (⟨some d, .call ⟨.builtin .append, #[x, y], #[t, t]⟩, ty, pos, aft, none⟩ :: rest) a w := by
  obtain ⟨h2, i, z, h3, h4, h5, h6, h7⟩ := appB_spec ht
  obtain ⟨A, c, rfl, hc, hr⟩ := hr
  refine stepAppend (us := ys.map enc) (A := A) (c' := c) hs hO hx hM (by simpa using hy) hr hH (by simpa using hne) ?_ h2 h3 h4 h5 rfl h7 (by simpa using hpos) (by simpa using hroom) h6 hrep hd ?_
  · intro v hv; obtain ⟨u, _, rfl⟩ := List.mem_map.1 hv; exact hl u
  · intro a' v' e' w' h hM hO
    exact k a' v' e' w' h (by simpa [Mu] using hM) hO
/-- A slice held against nil. -/
theorem yl_nilS {C : World → Prop} (hs : St n D F a) {x : Operand} {l c t e t' : Nat} (hx : ev F x = some (.slice A l c)) (ht : sliceB P t e sz = true) : Yl P C a (.binOp .eql t x (.const (.slice none 0 0)) t') ty (.bool A.isNone) := fun w _ => by
  obtain ⟨h1, _⟩ := sliceB_spec ht
  have h2 : ∀ x : Value, (Op.equal t (.slice A l c) (.slice none 0 0)).run P w = .ok A.isNone w := fun _ => by
    unfold Op.equal Op.maxDepth
    rw [show (10000 : Nat) = 9999 + 1 from rfl, Op.equalIn]
    cases A <;> simp [underlying, program, Sem.run, h1]
  have h3 : a.eval (.const (.slice none 0 0)) = .slice none 0 0 := rfl
  simp [execOp, hs.eval hx, h3, eqGuard, binOp, h2 undef]
end
/-! ### An entry anywhere in the list -/
theorem Repl.move {L : List Ent} {L' : Ent → List Ent} {e e' : Ent} {M pre : List Ent} {w0 w : World} (hM : L.Perm (e :: M)) (hr : ∀ e', Repl L e e' (L' e')) (h : OwnE w0 w (pre ++ e' :: M)) : OwnE w0 w (pre ++ L' e') := by
  obtain ⟨M', h1, h2⟩ := (hr e').perm
  have : M.Perm M' := (hM.symm.trans h1).cons_inv
  exact h.perm (List.Perm.append_left pre ((this.cons e').trans h2.symm))
theorem Repl.keeps {L : List Ent} {L' : Ent → List Ent} {e : Ent} {M : List Ent} (hM : L.Perm (e :: M)) (hr : ∀ e', Repl L e e' (L' e')) : ∀ x, (∀ e', x ∈ L' e') → x ∈ M := fun x hx => by
  obtain ⟨M', h1, h2⟩ := (hr (x ++ [(0, .coro none)])).perm
  have h3 : M.Perm M' := (hM.symm.trans h1).cons_inv
  have h4 := h2.mem_iff.1 (hx (x ++ [(0, .coro none)]))
  rcases List.mem_cons.1 h4 with h5 | h5
  · have := congrArg List.length h5; simp at this
  · exact h3.mem_iff.2 h5
theorem lift0 {P : Program} {f : FuncId} {args : Array Value} {w0 w : World} {L : List Ent} {L' : Ent → List Ent} {e : Ent} {φ : Value → Ent → Prop}
    (h : ∀ M, (∀ x, (∀ e', x ∈ L' e') → x ∈ M) → OwnE w0 w (e :: M) → Calls P f args w (Ret fun v w' => ∃ e', φ v e' ∧ OwnE w0 w' (e' :: M))) (hO : OwnE w0 w L) (hr : ∀ e', Repl L e e' (L' e')) : Calls P f args w (Ret fun v w' => ∃ e', φ v e' ∧ OwnE w0 w' (L' e')) := by
  obtain ⟨M, h1, _⟩ := (hr e).perm
  refine (h M (Repl.keeps h1 hr) (hO.perm h1)).mono fun en w' hh => ?_
  cases en with
  | returned v => obtain ⟨e', h2, h3⟩ := hh; exact ⟨e', h2, Repl.move (pre := []) h1 hr h3⟩
  | panicked c => exact hh
  | outgrown => exact hh
theorem lift1 {P : Program} {f : FuncId} {args : Array Value} {w0 w : World} {L : List Ent} {L' : Ent → List Ent} {e : Ent} {φ : Value → Ent → Ent → Prop}
    (h : ∀ M, (∀ x, (∀ e', x ∈ L' e') → x ∈ M) → OwnE w0 w (e :: M) → Calls P f args w (Ret fun v w' => ∃ e' e2, φ v e' e2 ∧ OwnE w0 w' (e2 :: e' :: M))) (hO : OwnE w0 w L) (hr : ∀ e', Repl L e e' (L' e')) : Calls P f args w (Ret fun v w' => ∃ e' e2, φ v e' e2 ∧ OwnE w0 w' (e2 :: L' e')) := by
  obtain ⟨M, h1, _⟩ := (hr e).perm
  refine (h M (Repl.keeps h1 hr) (hO.perm h1)).mono fun en w' hh => ?_
  cases en with
  | returned v => obtain ⟨e', e2, h2, h3⟩ := hh; exact ⟨e', e2, h2, Repl.move (pre := [e2]) h1 hr h3⟩
  | panicked c => exact hh
  | outgrown => exact hh
/-! ### Numbers -/
abbrev I : Int → Value := .int .i64
theorem cells_I (x : Int) : cells1 (I x) = [I x] := rfl
theorem len_I (u : Int) : (cells1 (I u)).length = 1 ∧ (cells1 (I u)).all (·.oneCell') = true := ⟨rfl, rfl⟩
theorem flat_I : ∀ (xs : List Int), (xs.map I).flatMap cells1 = xs.map I
  | [] => rfl
  | x :: r => by simp only [List.map_cons, List.flatMap_cons, flat_I r]; rfl
theorem getD_eq {α : Type} [Inhabited α] {xs : List α} {k : Nat} (h : k < xs.length) : xs.getD k default = xs[k] := by simp [h]
theorem getD_mem {α : Type} [Inhabited α] {xs : List α} {k : Nat} (h : k < xs.length) : xs.getD k default ∈ xs := by rw [getD_eq h]; exact List.getElem_mem h
theorem getD_take_succ {α : Type} [Inhabited α] {xs : List α} {k : Nat} (h : k < xs.length) : xs.take (k + 1) = xs.take k ++ [xs.getD k default] := by
  rw [List.take_succ_eq_append_getElem h]; simp [h]
end Go.E
