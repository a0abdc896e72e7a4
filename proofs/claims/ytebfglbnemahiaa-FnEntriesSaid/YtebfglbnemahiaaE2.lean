/- The engine, part 2: what an operation yields, and the steps of a region. -/
import Derived.Test.YtebfglbnemahiaaE1
import Derived.IntWalk
namespace Go.E
open Go.RowKit
/-! ### Facts on the program's types, as Bools -/
def scalarB (P : Program) (t : TypeId) : Bool := match P.underlying t with
  | some (.struct _) => false
  | some (.array _ _) => false
  | some _ => true
  | none => false
def sizeB (P : Program) (t : TypeId) (n : Nat) : Bool := match P.info? t with
  | some i => i.size == n
  | none => false
def aggB (P : Program) (t : TypeId) (n : Nat) : Bool := (match P.underlying t with
  | some (.struct _) => true
  | some (.array _ _) => true
  | _ => false) && sizeB P t n
def sliceB (P : Program) (t e sz : Nat) : Bool := (match P.underlying t with
  | some (.slice e') => e' == e
  | _ => false) && sizeB P e sz
def arrayB (P : Program) (t len e sz : Nat) : Bool := (match P.underlying t with
  | some (.array n e') => n == len && e' == e
  | _ => false) && sizeB P e sz
/-- Field j of the struct type t lies off cells from its begin and has the type ft of sz cells, at least one. -/
def fieldB (P : Program) (t j off ft : Nat) : Bool := match P.underlying t with
  | some (.struct fs) => (match fs[j]? with
    | some f => f.offset == off && f.type == ft && (match P.info? ft with | some i => i.size != 0 | none => false)
    | none => false)
  | _ => false
def zeroIs (P : Program) (t : TypeId) (v : Value) : Prop := ∃ i, P.info? t = some i ∧ i.zero = some v
theorem sizeB_spec {P : Program} {t n : Nat} (h : sizeB P t n = true) : ∃ i, P.info? t = some i ∧ i.size = n := by
  unfold sizeB at h; split at h
  · rename_i i hi; exact ⟨i, hi, by simpa using h⟩
  · simp at h
theorem sliceB_spec {P : Program} {t e sz : Nat} (h : sliceB P t e sz = true) : P.underlying t = some (.slice e) ∧ ∃ i, P.info? e = some i ∧ i.size = sz := by
  unfold sliceB at h
  simp only [Bool.and_eq_true] at h
  obtain ⟨h1, h2⟩ := h
  split at h1
  · rename_i e' he; simp at h1; subst h1; exact ⟨he, sizeB_spec h2⟩
  · simp at h1
theorem arrayB_spec {P : Program} {t len e sz : Nat} (h : arrayB P t len e sz = true) : P.underlying t = some (.array len e) ∧ ∃ i, P.info? e = some i ∧ i.size = sz := by
  unfold arrayB at h
  simp only [Bool.and_eq_true] at h
  obtain ⟨h1, h2⟩ := h
  split at h1
  · rename_i n e' he; simp at h1; obtain ⟨rfl, rfl⟩ := h1; exact ⟨he, sizeB_spec h2⟩
  · simp at h1
theorem fieldB_spec {P : Program} {t j off ft : Nat} (h : fieldB P t j off ft = true) :
    ∃ fs f i, P.underlying t = some (.struct fs) ∧ fs[j]? = some f ∧ f.offset = off ∧ f.type = ft ∧ P.info? ft = some i ∧ i.size ≠ 0 := by
  unfold fieldB at h
  split at h
  · rename_i fs hfs
    split at h
    · rename_i f hf
      simp only [Bool.and_eq_true] at h
      obtain ⟨⟨h1, h2⟩, h3⟩ := h
      split at h3
      · rename_i i hi; exact ⟨fs, f, i, hfs, hf, by simpa using h1, by simpa using h2, hi, by simpa using h3⟩
      · simp at h3
    · simp at h
  · simp at h

/-! ### What an operation yields in every world of a class -/
def Yl (P : Program) (C : World → Prop) (a : Act) (op : Op) (ty : TypeId) (v : Value) : Prop :=
  ∀ w, C w → (execOp a.eval ⟨none, op, ty, "", #[], none⟩).run P w = .ok (.value v) w
theorem execOp_oper (ρ : Operand → Value) (d : Option Tmp) (op : Op) (ty : TypeId) (pos : String) (aft : Array Edge) (g : Option (Nat × Bool)) :
    execOp ρ ⟨d, op, ty, pos, aft, g⟩ = execOp ρ ⟨none, op, ty, "", #[], none⟩ := by cases op <;> rfl
section
variable {P : Program} {C : World → Prop} {a : Act} {n : Nat} {D : List Deferred} {F : Fr} {ty : TypeId}
theorem yl_move (hs : St n D F a) {x : Operand} {v : Value} (hx : ev F x = some v) : Yl P C a (.move x) ty v := fun w _ => by
  simp [execOp, hs.eval hx]
theorem yl_assign (hs : St n D F a) {x : Operand} {v : Value} (hx : ev F x = some v) : Yl P C a (.assign x) ty v := fun w _ => by
  simp [execOp, hs.eval hx]
theorem yl_pick_t (hs : St n D F a) {c x y : Operand} {b : Bool} {v : Value} (hc : ev F c = some (.bool b)) (hb : b = true) (hx : ev F x = some v) : Yl P C a (.pick c x y) ty v := fun w _ => by
  subst hb; simp [execOp, hs.eval hx, hs.eval hc, asBool]
theorem yl_pick_f (hs : St n D F a) {c x y : Operand} {b : Bool} {v : Value} (hc : ev F c = some (.bool b)) (hb : b = false) (hy : ev F y = some v) : Yl P C a (.pick c x y) ty v := fun w _ => by
  subst hb; simp [execOp, hs.eval hy, hs.eval hc, asBool]
theorem yl_extract (hs : St n D F a) {x : Operand} {i : Nat} {vs : List Value} {v : Value} (hx : ev F x = some (.tuple ⟨vs⟩)) (hv : vs[i]? = some v) : Yl P C a (.extract x i) ty v := fun w _ => by
  simp [execOp, hs.eval hx, Instr.extract, hv]
theorem yl_nilCheck (hs : St n D F a) {x : Operand} {p : Addr} (hx : ev F x = some (.pointer (some p))) : Yl P C a (.nilCheck x) ty (.pointer (some p)) := fun w _ => by
  simp [execOp, hs.eval hx]
theorem yl_nilCheck_func (hs : St n D F a) {x : Operand} {f : FuncId} {c d : Array Value} (hx : ev F x = some (.func (.func f) c d)) : Yl P C a (.nilCheck x) ty (.func (.func f) c d) := fun w _ => by
  simp [execOp, hs.eval hx]
theorem yl_fieldAddr (hs : St n D F a) {x : Operand} {b off o t j ft : Nat} (hx : ev F x = some (.pointer (some ⟨b, off, none⟩))) (hf : fieldB P t j o ft = true) :
    Yl P C a (.fieldAddr t x j) ty (.pointer (some ⟨b, off + o, none⟩)) := fun w _ => by
  obtain ⟨fs, f, i, h1, h2, h3, h4, h5, h6⟩ := fieldB_spec hf
  subst h3 h4
  by_cases h0 : f.offset = 0 <;>
  simp [execOp, hs.eval hx, Instr.fieldAt, underlying, program, Sem.run, h1, h2, Instr.sureAddr, fieldPlace, sizeOf, typeInfo, h5, h6, Addr.add, h0]
theorem yl_load1 (hs : St n D F a) {x : Operand} {b off t : Nat} {v : Value} (hx : ev F x = some (.pointer (some ⟨b, off, none⟩))) (ht : scalarB P t = true)
    (hc : ∀ w, C w → w.cell? ⟨b, off, none⟩ = some v) : Yl P C a (.load t x) ty v := fun w hw => by
  have h1 : (isAgg t).run P w = .ok false w := by
    unfold scalarB at ht
    split at ht <;> simp_all [isAgg, underlying, program, Sem.run]
  simp [execOp, hs.eval hx, Instr.loadAt, Instr.sureAddr, loadVar, h1, hc w hw]
theorem run_loadCellsFrom {w : World} {b off : Nat} : ∀ (vs : List Value) (i : Nat) (acc : Array Value), (∀ j v, vs[j]? = some v → w.cell? ⟨b, off + (i + j), none⟩ = some v) →
    (loadCellsFrom ⟨b, off, none⟩ i vs.length acc).run P w = .ok (acc ++ ⟨vs⟩) w
  | [], i, acc, _ => by simp [loadCellsFrom]
  | v :: r, i, acc, h => by
    have h0 := h 0 v (by simp)
    have ha : (Addr.add ⟨b, off, none⟩ i) = ⟨b, off + i, none⟩ := by unfold Addr.add; by_cases e : i = 0 <;> simp [e]
    have ih := run_loadCellsFrom r (i + 1) (acc.push v) (fun j u hj => by have := h (j + 1) u (by simpa using hj); rw [show i + 1 + j = i + (j + 1) by omega]; exact this)
    simp only [List.length_cons, loadCellsFrom, Sem.run_bind, ha]
    simp only [Nat.add_zero] at h0
    simp [h0, ih]
theorem yl_loadN (hs : St n D F a) {x : Operand} {b off t : Nat} {vs : List Value} (hx : ev F x = some (.pointer (some ⟨b, off, none⟩))) (ht : aggB P t vs.length = true)
    (hc : ∀ w, C w → ∀ j v, vs[j]? = some v → w.cell? ⟨b, off + j, none⟩ = some v) : Yl P C a (.load t x) ty (.agg ⟨vs⟩) := fun w hw => by
  unfold aggB at ht
  simp only [Bool.and_eq_true] at ht
  obtain ⟨h0, h2⟩ := ht
  obtain ⟨i, hi, hsz⟩ := sizeB_spec h2
  have h1 : (isAgg t).run P w = .ok true w := by
    split at h0 <;> simp_all [isAgg, underlying, program, Sem.run]
  have h3 := run_loadCellsFrom (P := P) (w := w) (b := b) (off := off) vs 0 #[] (fun j v hj => by rw [Nat.zero_add]; exact hc w hw j v hj)
  simp [execOp, hs.eval hx, Instr.loadAt, Instr.sureAddr, loadVar, h1, sizeOf, typeInfo, program, Sem.run, hi, hsz, loadCells, h3]
theorem yl_not (hs : St n D F a) {x : Operand} {b : Bool} (hx : ev F x = some (.bool b)) {t} : Yl P C a (.unOp .not t x) ty (.bool !b) := fun w _ => by
  simp [execOp, hs.eval hx, Op.unary]
theorem yl_neg (hs : St n D F a) {x : Operand} {k : IntKind} {i : Int} (hx : ev F x = some (.int k i)) {t} : Yl P C a (.unOp .neg t x) ty (.int k (k.wrap (0 - i))) := fun w _ => by
  simp [execOp, hs.eval hx, Op.unary, Op.intArith]
theorem yl_neg64 (hs : St n D F a) {x : Operand} {i : Int} (hx : ev F x = some (.int .i64 i)) (h : -9223372036854775807 ≤ i ∧ i ≤ 9223372036854775807) {t} : Yl P C a (.unOp .neg t x) ty (.int .i64 (-i)) := by
  have := yl_neg (P := P) (C := C) (ty := ty) hs hx (t := t)
  rwa [show IntKind.i64.wrap (0 - i) = -i by rw [IntWalk.i64_in _ (by omega)]; omega] at this
section
variable (hs : St n D F a) {x y : Operand} {i j : Int} {t t' : TypeId}
include hs
theorem yl_add (hx : ev F x = some (.int .i64 i)) (hy : ev F y = some (.int .i64 j)) : Yl P C a (.binOp .add t x y t') ty (.int .i64 (IntKind.i64.wrap (i + j))) := fun w _ => by
  simp [execOp, hs.eval hx, hs.eval hy, eqGuard, binOp, Op.intArith]
theorem yl_sub (hx : ev F x = some (.int .i64 i)) (hy : ev F y = some (.int .i64 j)) : Yl P C a (.binOp .sub t x y t') ty (.int .i64 (IntKind.i64.wrap (i - j))) := fun w _ => by
  simp [execOp, hs.eval hx, hs.eval hy, eqGuard, binOp, Op.intArith]
theorem yl_mul (hx : ev F x = some (.int .i64 i)) (hy : ev F y = some (.int .i64 j)) : Yl P C a (.binOp .mul t x y t') ty (.int .i64 (IntKind.i64.wrap (i * j))) := fun w _ => by
  simp [execOp, hs.eval hx, hs.eval hy, eqGuard, binOp, Op.intArith]
omit hs in
theorem w64 {i : Int} (h : -9223372036854775808 ≤ i ∧ i ≤ 9223372036854775807) : IntKind.i64.wrap i = i := by
  exact IntWalk.i64_in _ (by omega)
theorem yl_add64 (hx : ev F x = some (.int .i64 i)) (hy : ev F y = some (.int .i64 j)) (h : -9223372036854775808 ≤ i + j ∧ i + j ≤ 9223372036854775807) : Yl P C a (.binOp .add t x y t') ty (.int .i64 (i + j)) := by
  have := yl_add (P := P) (C := C) (ty := ty) hs hx hy (t := t) (t' := t'); rwa [w64 h] at this
theorem yl_sub64 (hx : ev F x = some (.int .i64 i)) (hy : ev F y = some (.int .i64 j)) (h : -9223372036854775808 ≤ i - j ∧ i - j ≤ 9223372036854775807) : Yl P C a (.binOp .sub t x y t') ty (.int .i64 (i - j)) := by
  have := yl_sub (P := P) (C := C) (ty := ty) hs hx hy (t := t) (t' := t'); rwa [w64 h] at this
theorem yl_mul64 (hx : ev F x = some (.int .i64 i)) (hy : ev F y = some (.int .i64 j)) (h : -9223372036854775808 ≤ i * j ∧ i * j ≤ 9223372036854775807) : Yl P C a (.binOp .mul t x y t') ty (.int .i64 (i * j)) := by
  have := yl_mul (P := P) (C := C) (ty := ty) hs hx hy (t := t) (t' := t'); rwa [w64 h] at this
theorem yl_rem (hx : ev F x = some (.int .i64 i)) (hy : ev F y = some (.int .i64 j)) (h : j ≠ 0) : Yl P C a (.binOp .rem t x y t') ty (.int .i64 (i.tmod j)) := fun w _ => by
  simp [execOp, hs.eval hx, hs.eval hy, eqGuard, binOp, Op.intDiv, h]
theorem yl_quo (hx : ev F x = some (.int .i64 i)) (hy : ev F y = some (.int .i64 j)) (h : j ≠ 0) : Yl P C a (.binOp .quo t x y t') ty (.int .i64 (IntKind.i64.wrap (i.tdiv j))) := fun w _ => by
  simp [execOp, hs.eval hx, hs.eval hy, eqGuard, binOp, Op.intDiv, h]
theorem yl_eq {k : IntKind} (hx : ev F x = some (.int k i)) (hy : ev F y = some (.int k j)) : Yl P C a (.binOp .eql t x y t') ty (.bool (decide (i = j))) := fun w _ => by
  simp [execOp, hs.eval hx, hs.eval hy, eqGuard, binOp, Op.intCmp]; rfl
theorem yl_ne {k : IntKind} (hx : ev F x = some (.int k i)) (hy : ev F y = some (.int k j)) : Yl P C a (.binOp .neq t x y t') ty (.bool (decide (i ≠ j))) := fun w _ => by
  simp [execOp, hs.eval hx, hs.eval hy, eqGuard, binOp, Op.intCmp, bne]; rfl
theorem yl_lt {k : IntKind} (hx : ev F x = some (.int k i)) (hy : ev F y = some (.int k j)) : Yl P C a (.binOp .lss t x y t') ty (.bool (decide (i < j))) := fun w _ => by
  simp [execOp, hs.eval hx, hs.eval hy, eqGuard, binOp, Op.intCmp]
theorem yl_le {k : IntKind} (hx : ev F x = some (.int k i)) (hy : ev F y = some (.int k j)) : Yl P C a (.binOp .leq t x y t') ty (.bool (decide (i ≤ j))) := fun w _ => by
  simp [execOp, hs.eval hx, hs.eval hy, eqGuard, binOp, Op.intCmp]
theorem yl_gt {k : IntKind} (hx : ev F x = some (.int k i)) (hy : ev F y = some (.int k j)) : Yl P C a (.binOp .gtr t x y t') ty (.bool (decide (i > j))) := fun w _ => by
  simp [execOp, hs.eval hx, hs.eval hy, eqGuard, binOp, Op.intCmp]
theorem yl_ge {k : IntKind} (hx : ev F x = some (.int k i)) (hy : ev F y = some (.int k j)) : Yl P C a (.binOp .geq t x y t') ty (.bool (decide (i ≥ j))) := fun w _ => by
  simp [execOp, hs.eval hx, hs.eval hy, eqGuard, binOp, Op.intCmp]
end
theorem yl_len (hs : St n D F a) {x : Operand} {A : Option Addr} {l c t e sz : Nat} (hx : ev F x = some (.slice A l c)) (ht : sliceB P t e sz = true) :
    Yl P C a (.call ⟨.builtin .len, #[x], #[t]⟩) ty (.int .i64 l) := fun w _ => by
  obtain ⟨h1, _⟩ := sliceB_spec ht
  simp [execOp, resolve, invoke, builtin, Builtin.len_, hs.eval hx, underlying, program, Sem.run, h1, goInt]
theorem yl_indexAddr (hs : St n D F a) {x ix : Operand} {b off l c t e sz : Nat} {i : Int} (hx : ev F x = some (.slice (some ⟨b, off, none⟩) l c)) (hi : ev F ix = some (.int .i64 i))
    (ht : sliceB P t e sz = true) (h : 0 ≤ i ∧ i < (l : Int)) : Yl P C a (.indexAddr t x ix) ty (.pointer (some ⟨b, off + i.toNat * sz, none⟩)) := fun w _ => by
  obtain ⟨h1, k, h2, h3⟩ := sliceB_spec ht
  have ha : ∀ m, (Addr.add ⟨b, off, none⟩ m) = ⟨b, off + m, none⟩ := fun m => by unfold Addr.add; by_cases e : m = 0 <;> simp [e]
  simp [execOp, Instr.indexAt, hs.eval hx, hs.eval hi, asIntOf, underlying, program, Sem.run, h1, h.1, h.2, sizeOf, typeInfo, h2, h3, ha]
/-- A constant index at an array's address. -/
theorem yl_indexAddr_arr (hs : St n D F a) {x ix : Operand} {b off len t e sz : Nat} {i : Int} (hx : ev F x = some (.pointer (some ⟨b, off, none⟩))) (hi : ev F ix = some (.int .i64 i))
    (ht : arrayB P t len e sz = true) (h : 0 ≤ i ∧ i < (len : Int)) : Yl P C a (.indexAddr t x ix) ty (.pointer (some ⟨b, off + i.toNat * sz, none⟩)) := fun w _ => by
  obtain ⟨h1, k, h2, h3⟩ := arrayB_spec ht
  have ha : ∀ m, (Addr.add ⟨b, off, none⟩ m) = ⟨b, off + m, none⟩ := fun m => by unfold Addr.add; by_cases e : m = 0 <;> simp [e]
  simp [execOp, Instr.indexAt, hs.eval hx, hs.eval hi, asIntOf, underlying, program, Sem.run, h1, h.1, h.2, sizeOf, typeInfo, h2, h3, ha, Instr.sureAddr]
theorem yl_makeFunc (hs : St n D F a) {f : FuncId} {cs : Array Operand} {vs : Array Value} (hc : cs.map a.eval = vs) : Yl P C a (.makeFunc (.func f) #[] cs) ty (.func (.func f) #[] vs) := fun w _ => by
  simp [execOp, Instr.makeFunc, hc]
/-! ### Steps -/
variable {ops : Array Oper} {Q : Exit → Act → World → Prop} {rest : List Oper} {w : World} {op : Op} {pos : String} {aft : Array Edge} {d : Nat} {v : Value}
theorem stepL (hs : St n D F a) (hy : Yl P C a op ty v) (hC : C w) (hd : Nat.blt d n = true) (k : ∀ a', St n D ((d, v) :: F) a' → wpList P ops Q rest a' w) :
    wpList P ops Q (⟨some d, op, ty, pos, aft, none⟩ :: rest) a w := by
  refine wpList_plain rfl fun K hK => ?_
  unfold Oper.wp
  rw [execOp_oper, hy w hC]
  exact hK _ _ (k _ (hs.put v (by simpa using hd)))
theorem stepQ {Q : Act → Prop} (hs : St n D F a) (hy : Yl P C a op ty v) (hd : Nat.blt d n = true) (k : ∀ a', St n D ((d, v) :: F) a' → wpQuiet P ops C Q rest a') :
    wpQuiet P ops C Q (⟨some d, op, ty, pos, aft, none⟩ :: rest) a := by
  refine wpQuiet_step fun K hK => ?_
  simp only [Region.wanted, if_true]
  refine ⟨v, fun w hw => ?_, hK _ (k _ (hs.put v (by simpa using hd)))⟩
  unfold Oper.quietAt
  rw [execOp_oper, hy w hw]
  exact ⟨rfl, rfl⟩
theorem wanted_of (hs : St n D F a) {j t : Nat} {want b : Bool} (hj : ((ops[j]?).bind (·.dst)) = some t) (hb : look F t = some (.bool b)) (o : Oper) (hg : o.guard = some (j, want)) :
    Region.wanted o (yielded ops a.tmps) = (b == want) := by
  unfold Region.wanted
  rw [hg]
  have : yielded ops a.tmps j = some b := by
    unfold yielded
    rw [hj]
    simp [hs.has _ _ hb]
  simp only [this]
  cases b <;> cases want <;> rfl
/-- A guarded operation that is wanted. -/
theorem stepLg (hs : St n D F a) {j t : Nat} {want b : Bool} (hj : ((ops[j]?).bind (·.dst)) = some t) (hb : look F t = some (.bool b)) (hw : b = want) (hy : Yl P C a op ty v) (hC : C w) (hd : Nat.blt d n = true)
    (k : ∀ a', St n D ((d, v) :: F) a' → wpList P ops Q rest a' w) : wpList P ops Q (⟨some d, op, ty, pos, aft, some (j, want)⟩ :: rest) a w := by
  unfold wpList
  rw [wanted_of hs hj hb _ rfl]
  simp only [hw, beq_self_eq_true, if_true]
  refine .inl ?_
  unfold Oper.wp
  rw [execOp_oper, hy w hC]
  exact k _ (hs.put v (by simpa using hd))
/-- A guarded operation that is not wanted. -/
theorem stepLn (hs : St n D F a) {j t : Nat} {want b : Bool} (hj : ((ops[j]?).bind (·.dst)) = some t) (hb : look F t = some (.bool b)) (hw : b = !want) (hd : Nat.blt d n = true)
    (k : ∀ a', St n D ((d, undef) :: F) a' → wpList P ops Q rest a' w) : wpList P ops Q (⟨some d, op, ty, pos, aft, some (j, want)⟩ :: rest) a w := by
  unfold wpList
  rw [wanted_of hs hj hb _ rfl]
  have : (b == want) = false := by rw [hw]; cases want <;> rfl
  simp only [this, Bool.false_eq_true, if_false]
  exact k _ (hs.put undef (by simpa using hd))
theorem stepQg {Q : Act → Prop} (hs : St n D F a) {j t : Nat} {want b : Bool} (hj : ((ops[j]?).bind (·.dst)) = some t) (hb : look F t = some (.bool b)) (hw : b = want) (hy : Yl P C a op ty v) (hd : Nat.blt d n = true)
    (k : ∀ a', St n D ((d, v) :: F) a' → wpQuiet P ops C Q rest a') : wpQuiet P ops C Q (⟨some d, op, ty, pos, aft, some (j, want)⟩ :: rest) a := by
  unfold wpQuiet
  rw [wanted_of hs hj hb _ rfl]
  simp only [hw, beq_self_eq_true, if_true]
  refine ⟨v, fun w hw => ?_, k _ (hs.put v (by simpa using hd))⟩
  unfold Oper.quietAt
  rw [execOp_oper, hy w hw]
  exact ⟨rfl, rfl⟩
theorem stepQn {Q : Act → Prop} (hs : St n D F a) {j t : Nat} {want b : Bool} (hj : ((ops[j]?).bind (·.dst)) = some t) (hb : look F t = some (.bool b)) (hw : b = !want) (hd : Nat.blt d n = true)
    (k : ∀ a', St n D ((d, undef) :: F) a' → wpQuiet P ops C Q rest a') : wpQuiet P ops C Q (⟨some d, op, ty, pos, aft, some (j, want)⟩ :: rest) a := by
  unfold wpQuiet
  rw [wanted_of hs hj hb _ rfl]
  have : (b == want) = false := by rw [hw]; cases want <;> rfl
  simp only [this, Bool.false_eq_true, if_false]
  exact k _ (hs.put undef (by simpa using hd))
/-- The end of a region that draws: the world is one of the class. -/
theorem endQ {Q : Act → Prop} (h : Q a) : wpQuiet P ops C Q [] a := h
theorem endL (h : Q .normal a w) : wpList P ops Q [] a w := h
theorem regionQ {id : Nat} {l : List Oper} (hm : P.follows .mixedOrders = true) (hB : Region.lexB .any l.toArray = true) (hC : C w.drew)
    (h : wpQuiet P l.toArray C (fun a' => ∀ w', C w' → Q .normal a' w') l a) : (Code.region id l.toArray true).wp P Q a w :=
  wp_region_quiet hm hB hC (by simpa using h)
/-! ### A call -/
theorem stepCall (hs : St n D F a) {x : Operand} {f : FuncId} {caps : Array Value} {args : Array Operand} {at_ : Array TypeId} {vs : Array Value} {R : Ending → World → Prop}
    (hx : ev F x = some (.func (.func f) #[] caps)) (hargs : args.map a.eval ++ caps = vs) (hf : ((P.funcs[f]?).any fun fn => fn.body.isSome && fn.name != "runtime.NumGoroutine") = true)
    (hcall : Calls P f vs w R) (hd : Nat.blt d n = true)
    (k : ∀ v w', R (.returned v) w' → ∀ a', St n D ((d, v) :: F) a' → wpList P ops Q rest a' w')
    (kp : ∀ c w', R (.panicked c) w' → Q (.panic c) a w') (ko : ∀ w', ¬ R .outgrown w') :
    wpList P ops Q (⟨some d, .call ⟨.value x, args, at_⟩, ty, pos, aft, none⟩ :: rest) a w := by
  refine wpList_plain rfl fun K hK => ?_
  unfold Oper.wp
  have hrun : (execOp a.eval ⟨some d, .call ⟨.value x, args, at_⟩, ty, pos, aft, none⟩).run P w = .ok (.enter f vs) w := by
    rw [Option.any_eq_true] at hf
    obtain ⟨fn, hfn, hb⟩ := hf
    simp only [Bool.and_eq_true, bne_iff_ne, ne_eq] at hb
    obtain ⟨c, hc⟩ := Option.isSome_iff_exists.1 hb.1
    simp [execOp, resolve, Deferred.ofValue, hs.eval hx, invoke, callFunc, program, Sem.run, hfn, hb.2, hc, hargs]
  rw [hrun]
  refine Calls.mono hcall fun e w' he => ?_
  cases e with
  | returned v => exact hK _ _ (k v w' he _ (hs.put v (by simpa using hd)))
  | panicked c => exact kp c w' he
  | outgrown => exact absurd he (ko w')
end
end Go.E
