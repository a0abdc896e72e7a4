/- The engine, part 3: operations that make or write memory; slices; the ends of a call; loops. -/
import Derived.Test.YtebfglbnemahiaaE2
import Derived.Laws.AppendOwn
import Derived.Laws.CopyRow
namespace Go.E
open Go.RowKit
/-! ### Entries -/
theorem mem0 {e : Ent} {R : List Ent} : e ∈ e :: R := .head _
theorem memS {e f : Ent} {R : List Ent} (h : e ∈ R) : e ∈ f :: R := .tail _ h
theorem memF {b : Nat} {o : Obj} {L : List Ent} (h : [(b, o)] ∈ L) : (b, o) ∈ L.flatten := List.mem_flatten.2 ⟨_, h, by simp⟩
/-- One entry is replaced. -/
inductive Repl : List Ent → Ent → Ent → List Ent → Prop
  | here {e e' R} : Repl (e :: R) e e' (e' :: R)
  | there {f e e' R R'} : Repl R e e' R' → Repl (f :: R) e e' (f :: R')
theorem Repl.perm {L L' : List Ent} {e e' : Ent} (h : Repl L e e' L') : ∃ M, L.Perm (e :: M) ∧ L'.Perm (e' :: M) := by
  induction h with
  | @here e e' R => exact ⟨R, .refl _, .refl _⟩
  | @there f e e' R R' _ ih => obtain ⟨M, h1, h2⟩ := ih; exact ⟨f :: M, (h1.cons f).trans (.swap _ _ _), (h2.cons f).trans (.swap _ _ _)⟩
theorem Repl.mem {L L' : List Ent} {e e' : Ent} (h : Repl L e e' L') : e ∈ L := by
  induction h with
  | here => exact mem0
  | there _ ih => exact memS ih
/-- An entry is replaced by a new block. -/
theorem OwnE.renew {w0 w : World} {L L' : List Ent} {e : Ent} (h : OwnE w0 w L) (o : Obj) (hr : Repl L e [(w.heap.size, o)] L') : OwnE w0 (w.alloc o) L' := by
  obtain ⟨M, h1, h2⟩ := hr.perm
  exact (((h.perm h1).drop).alloc o).perm h2.symm
theorem OwnE.replUpd {w0 w w' : World} {L L' : List Ent} {b : Nat} {o o' : Obj} (h : OwnE w0 w L) (hr : Repl L [(b, o)] [(b, o')] L')
    (hos : w'.os = w.os) (htape : w'.tape = w.tape) (hout : w'.output = w.output) (hsize : w.heap.size ≤ w'.heap.size)
    (hb : w'.heap[b]? = some o') (hoth : ∀ k, k ≠ b → k < w.heap.size → w'.heap[k]? = w.heap[k]?) : OwnE w0 w' L' := by
  obtain ⟨M, h1, h2⟩ := hr.perm
  exact ((h.perm h1).upd .here hos htape hout hsize hb hoth).perm h2.symm
theorem OwnE.repl {w0 w w' : World} {L L' : List Ent} {e e' : Ent} (h : OwnE w0 w L) (hr : Repl L e e' L') (hf : ∀ M, OwnE w0 w (e :: M) → OwnE w0 w' (e' :: M)) : OwnE w0 w' L' := by
  obtain ⟨M, h1, h2⟩ := hr.perm
  exact (hf M (h.perm h1)).perm h2.symm

/-! ### Lists of cells -/
def cells1 (v : Value) : List Value := v.cells.toList
/-- Some cells from a place on are others. -/
def spl (cs : List Value) (o : Nat) (vs : List Value) : List Value := cs.take o ++ vs ++ cs.drop (o + vs.length)
theorem spl_length {cs : List Value} {o : Nat} {vs : List Value} (h : o + vs.length ≤ cs.length) : (spl cs o vs).length = cs.length := by
  simp [spl]; omega
theorem spl_get {cs : List Value} {o : Nat} {vs : List Value} (h : o + vs.length ≤ cs.length) (i : Nat) : (spl cs o vs)[i]? = if i < o then cs[i]? else if i < o + vs.length then vs[i - o]? else cs[i]? := by
  unfold spl
  simp only [List.append_assoc, List.getElem?_append, List.length_take, List.getElem?_take, List.getElem?_drop]
  have h0 : min o cs.length = o := by omega
  rw [h0]
  by_cases h1 : i < o
  · simp [h1]
  · simp only [h1, if_false]
    by_cases h2 : i < o + vs.length
    · have : i - o < vs.length := by omega
      simp [h2, this]
    · have : ¬ i - o < vs.length := by omega
      simp only [h2, this, if_false]
      congr 1; omega

/-! ### Operands -/
def evL (F : Fr) : List Operand → Option (List Value)
  | [] => some []
  | x :: r => match ev F x, evL F r with
    | some v, some vs => some (v :: vs)
    | _, _ => none
def evP (F : Fr) : List (Nat × Operand) → Option (List (Nat × Value))
  | [] => some []
  | (i, x) :: r => match ev F x, evP F r with
    | some v, some vs => some ((i, v) :: vs)
    | _, _ => none
section
variable {P : Program} {C : World → Prop} {a : Act} {n : Nat} {D : List Deferred} {F : Fr} {ty : TypeId}
theorem St.evalL (hs : St n D F a) : ∀ {xs : List Operand} {vs : List Value}, evL F xs = some vs → xs.map a.eval = vs
  | [], vs, h => by simpa [evL] using h
  | x :: r, vs, h => by
    simp only [evL] at h
    split at h
    · rename_i v us hv hus; simp at h; subst h; simp [hs.eval hv, hs.evalL hus]
    · simp at h
theorem St.evalP (hs : St n D F a) : ∀ {xs : List (Nat × Operand)} {vs : List (Nat × Value)}, evP F xs = some vs → xs.map (fun (i, x) => (i, a.eval x)) = vs
  | [], vs, h => by simpa [evP] using h
  | (i, x) :: r, vs, h => by
    simp only [evP] at h
    split at h
    · rename_i v us hv hus; simp at h; subst h; have := hs.evalP hus; simp [hs.eval hv, this]
    · simp at h
/-! ### build -/
/-- A struct's fields, as places. -/
def placesB (P : Program) (fs : Array Field) : Option (List (Nat × Nat)) := fs.toList.mapM fun f => (P.info? f.type).map fun i => (f.offset, i.size)
def structPl (P : Program) (t : TypeId) : Option (List (Nat × Nat)) := match P.underlying t with
  | some (.struct fs) => placesB P fs
  | _ => none
theorem run_places (w : World) (fs : List Field) : ∀ ps, (fs.mapM fun f => (P.info? f.type).map fun i => (f.offset, i.size)) = some ps →
    (fs.mapM fun f => Prod.mk f.offset <$> sizeOf f.type : Sem (List (Nat × Nat))).run P w = .ok ps w := by
  induction fs with
  | nil => intro ps h; simp at h; subst h; simp
  | cons f fs ih =>
    intro ps h
    simp only [List.mapM_cons, Option.bind_eq_bind, Option.bind_eq_some_iff, Option.map_eq_some_iff] at h
    obtain ⟨p, ⟨i, hi, rfl⟩, qs, hq, h⟩ := h
    simp at h; subst h
    have h0 : (sizeOf f.type).run P w = .ok i.size w := by simp [sizeOf, typeInfo, program, Sem.run, hi]
    simp only [List.mapM_cons, Sem.run_bind, Sem.run_map, h0, Result.andThen_ok, ih qs hq, Sem.run_pure]
/-- What a composite of a struct's or an array's type is. -/
def buildIs (P : Program) (t : TypeId) (parts : List (Nat × Value)) (cs : List Value) : Prop :=
  ∃ z, (P.info? t).bind (·.zero) = some z ∧
    ((∃ ps, structPl P t = some ps ∧ Instr.fill (ps[·]?) z.cells parts = some ⟨cs⟩) ∨
     (∃ l e sz, P.underlying t = some (.array l e) ∧ (∃ i, P.info? e = some i ∧ i.size = sz) ∧ Instr.fill (fun i => some (i * sz, sz)) z.cells parts = some ⟨cs⟩))
theorem run_zeroValue {t : TypeId} {z : Value} {w : World} (h : (P.info? t).bind (·.zero) = some z) : (zeroValue t).run P w = .ok z w := by
  rw [Option.bind_eq_some_iff] at h
  obtain ⟨i, hi, hz⟩ := h
  simp [zeroValue, typeInfo, program, Sem.run, hi, hz]
theorem yl_build (hs : St n D F a) {t : TypeId} {xs : List (Nat × Operand)} {parts : List (Nat × Value)} {cs : List Value} (hx : evP F xs = some parts) (hb : buildIs P t parts cs) :
    Yl P C a (.build t ⟨xs⟩) ty (.agg ⟨cs⟩) := fun w _ => by
  obtain ⟨z, hz, h⟩ := hb
  have hp := hs.evalP hx
  have hp' : (List.map (fun x : Nat × Operand => (x.1, a.eval x.2)) xs) = parts := hp
  rcases h with ⟨ps, h2, h3⟩ | ⟨l, e, sz, h1, ⟨i, h2, h4⟩, h3⟩
  · obtain ⟨fs, h1, h2⟩ : ∃ fs, P.underlying t = some (.struct fs) ∧ placesB P fs = some ps := by
      unfold structPl at h2
      split at h2
      · rename_i fs hfs; exact ⟨fs, hfs, h2⟩
      · simp at h2
    have hm : (fs.mapM fun f => Prod.mk f.offset <$> sizeOf f.type : Sem (Array (Nat × Nat))).run P w = .ok ⟨ps⟩ w := by
      rw [Array.mapM_eq_mapM_toList, Sem.run_map, run_places w fs.toList ps h2]; simp
    simp [execOp, Instr.build, run_zeroValue hz, underlying, program, Sem.run, h1, hm, hp', h3]
  · simp [execOp, Instr.build, run_zeroValue hz, underlying, program, Sem.run, h1, hp', sizeOf, typeInfo, h2, h4, h3]
/-! ### Steps that make memory -/
variable {ops : Array Oper} {Q : Exit → Act → World → Prop} {rest : List Oper} {w w0 : World} {L : List Ent} {op : Op} {pos : String} {aft : Array Edge} {d : Nat} {v : Value}
theorem stepAlloc (hs : St n D F a) (hO : OwnE w0 w L) {e : TypeId} {z : Value} (hz : (P.info? e).bind (·.zero) = some z) (hd : Nat.blt d n = true)
    (k : ∀ a' b w', St n D ((d, .pointer (some ⟨b, 0, none⟩)) :: F) a' → OwnE w0 w' ([(b, row e (cells1 z))] :: L) → wpList P ops Q rest a' w') :
    wpList P ops Q (⟨some d, .alloc e, ty, pos, aft, none⟩ :: rest) a w := by
  refine wpList_plain rfl fun K hK => ?_
  unfold Oper.wp
  have hrun : (execOp a.eval ⟨some d, .alloc e, ty, pos, aft, none⟩).run P w = .ok (.value (.pointer (some ⟨w.heap.size, 0, none⟩))) (w.alloc (row e (cells1 z))) := by
    simp [execOp, Instr.alloc, run_zeroValue hz, newVar, newRow, newObj, Sem.run, cells1, row]
  rw [hrun]
  exact hK _ _ (k _ _ _ (hs.put _ (by simpa using hd)) (hO.alloc _))
theorem stepBox (hs : St n D F a) (hO : OwnE w0 w L) {e : TypeId} {x : Operand} (hx : ev F x = some v) (hd : Nat.blt d n = true)
    (k : ∀ a' b w', St n D ((d, .pointer (some ⟨b, 0, none⟩)) :: F) a' → OwnE w0 w' ([(b, row e (cells1 v))] :: L) → wpList P ops Q rest a' w') :
    wpList P ops Q (⟨some d, .box e x, ty, pos, aft, none⟩ :: rest) a w := by
  refine wpList_plain rfl fun K hK => ?_
  unfold Oper.wp
  have hrun : (execOp a.eval ⟨some d, .box e x, ty, pos, aft, none⟩).run P w = .ok (.value (.pointer (some ⟨w.heap.size, 0, none⟩))) (w.alloc (row e (cells1 v))) := by
    simp [execOp, Instr.box, hs.eval hx, newVar, newRow, newObj, Sem.run, cells1, row]
  rw [hrun]
  exact hK _ _ (k _ _ _ (hs.put _ (by simpa using hd)) (hO.alloc _))
/-- What a slice's composite holds. -/
def sliceIs (P : Program) (t e : TypeId) (len sz : Nat) (parts : List (Nat × Value)) (cs : List Value) : Prop :=
  sliceB P t e sz = true ∧ len * sz ≤ 2 ^ 24 ∧ ∃ z, (P.info? e).bind (·.zero) = some z ∧
    Instr.fill (fun i => some (i * sz, sz)) ((Array.range (len * sz)).map ((if len * sz = 0 then #[] else z.cells)[· % (if len * sz = 0 then #[] else z.cells).size]!)) parts = some ⟨cs⟩
theorem stepBuildSlice (hs : St n D F a) (hO : OwnE w0 w L) {t e : TypeId} {len sz : Nat} {xs : List (Nat × Operand)} {parts : List (Nat × Value)} {cs : List Value} (hx : evP F xs = some parts)
    (hb : sliceIs P t e len sz parts cs) (hd : Nat.blt d n = true)
    (k : ∀ a' b w', St n D ((d, .slice (some ⟨b, 0, none⟩) len len) :: F) a' → OwnE w0 w' ([(b, row e cs)] :: L) → wpList P ops Q rest a' w') :
    wpList P ops Q (⟨some d, .buildSlice t len ⟨xs⟩, ty, pos, aft, none⟩ :: rest) a w := by
  refine wpList_plain rfl fun K hK => ?_
  unfold Oper.wp
  obtain ⟨h1, h2, z, hz, hf⟩ := hb
  obtain ⟨h3, i, h4, h5⟩ := sliceB_spec h1
  have hp : (List.map (fun x : Nat × Operand => (x.1, a.eval x.2)) xs) = parts := hs.evalP hx
  have hrun : (execOp a.eval ⟨some d, .buildSlice t len ⟨xs⟩, ty, pos, aft, none⟩).run P w = .ok (.value (.slice (some ⟨w.heap.size, 0, none⟩) len len)) (w.alloc (row e cs)) := by
    have h2' : ¬ (2 ^ 24 < len * sz) := by omega
    by_cases h0 : len * sz = 0
    · simp only [h0, if_true] at hf
      simp [execOp, Instr.buildSlice, underlying, program, Sem.run, h3, sizeOf, typeInfo, h4, h5, h0, hp, newRow, newObj, row]
      simp at hf
      simp [hf, Sem.run]
    · simp only [h0, if_false] at hf
      simp [execOp, Instr.buildSlice, underlying, program, Sem.run, h3, sizeOf, typeInfo, h4, h5, h2', h0, hp, newRow, newObj, row, run_zeroValue hz, hf]
  rw [hrun]
  exact hK _ _ (k _ _ _ (hs.put _ (by simpa using hd)) (hO.alloc _))
theorem foldl_set : ∀ (src : List Value) (k off : Nat) (cs : List Value), off + k + src.length ≤ cs.length →
    (src.zipIdx k).foldl (fun (cs : Array Value) (x : Value × Nat) => cs.setIfInBounds (off + x.2) x.1) ⟨cs⟩ = ⟨spl cs (off + k) src⟩
  | [], k, off, cs, _ => by simp [spl]
  | v :: r, k, off, cs, h => by
    simp only [List.length_cons] at h
    simp only [List.zipIdx_cons, List.foldl_cons]
    have hs : (⟨cs⟩ : Array Value).setIfInBounds (off + k) v = ⟨cs.set (off + k) v⟩ := by simp
    rw [hs, foldl_set r (k + 1) off _ (by simp; omega)]
    congr 1
    apply List.ext_getElem?
    intro i
    rw [spl_get (by simp; omega), spl_get (by simp; omega)]
    simp only [List.length_cons]
    by_cases h1 : i < off + k
    · rw [if_pos (by omega), if_pos h1, List.getElem?_set_ne (by omega)]
    · by_cases h2 : i = off + k
      · subst h2
        rw [if_pos (by omega), if_neg (by omega), if_pos (by omega), List.getElem?_set_self (by omega)]
        simp
      · rw [if_neg (by omega), if_neg h1]
        by_cases h3 : i < off + (k + 1) + r.length
        · rw [if_pos h3, if_pos (by omega), show i - (off + k) = (i - (off + (k + 1))) + 1 by omega]; simp
        · rw [if_neg h3, if_neg (by omega), List.getElem?_set_ne (by omega)]
def enumF : Nat → List Value → List (Nat × Value)
  | _, [] => []
  | i, u :: r => (i, u) :: enumF (i + 1) r
theorem fill_enum {sz : Nat} : ∀ (us : List Value) (i : Nat) (cs : List Value), (us.all fun u => (cells1 u).length == sz) = true → cs.length = (i + us.length) * sz →
    Instr.fill (fun i => some (i * sz, sz)) ⟨cs⟩ (enumF i us) = some ⟨cs.take (i * sz) ++ us.flatMap cells1⟩
  | [], i, cs, _, hl => by
    simp only [enumF, Instr.fill, List.flatMap_nil, List.append_nil]
    rw [List.take_of_length_le (by simp at hl; omega)]
  | u :: r, i, cs, hu, hl => by
    simp only [List.all_cons, Bool.and_eq_true, beq_iff_eq] at hu
    simp only [List.length_cons] at hl
    have hl2 : i * sz + (cells1 u).length ≤ cs.length := by
      rw [hu.1, hl, ← Nat.succ_mul]; exact Nat.mul_le_mul_right _ (by omega)
    have h1 : ¬ (u.cells.size ≠ sz) := by have := hu.1; simp [cells1] at this; simp [this]
    have h2 : ¬ (i * sz + u.cells.size > cs.length) := by have := hl2; simp [cells1] at this; omega
    have hfold := foldl_set (cells1 u) 0 (i * sz) cs (by omega)
    have hz : u.cells.zipIdx.foldl (fun (cs : Array Value) (x : Value × Nat) => cs.setIfInBounds (i * sz + x.2) x.1) ⟨cs⟩ = ⟨spl cs (i * sz) (cells1 u)⟩ := by
      rw [← Array.foldl_toList, Array.toList_zipIdx]; exact hfold
    have ih := fill_enum r (i + 1) (spl cs (i * sz) (cells1 u)) (by simpa using hu.2) (by rw [spl_length hl2, hl]; congr 1; omega)
    simp only [enumF, Instr.fill]
    have h2' : ¬ (i * sz + u.cells.size > (⟨cs⟩ : Array Value).size) := h2
    simp only [h1, h2', decide_false, Bool.or_self, Bool.false_eq_true, if_false]
    rw [show (u.cells.zipIdx.foldl (fun cs x => cs.setIfInBounds (i * sz + x.2) x.1) (⟨cs⟩ : Array Value)) = ⟨spl cs (i * sz) (cells1 u)⟩ from hz, ih]
    congr 2
    have h3 : (spl cs (i * sz) (cells1 u)).take ((i + 1) * sz) = cs.take (i * sz) ++ cells1 u := by
      unfold spl
      have h4 : (cs.take (i * sz) ++ cells1 u).length = (i + 1) * sz := by
        rw [List.length_append, List.length_take, hu.1, Nat.min_eq_left (by omega), Nat.add_mul]; omega
      rw [← h4]; exact List.take_left
    rw [h3]; simp
/-- A slice's composite, all elements told. -/
theorem stepBuildAll (hs : St n D F a) (hO : OwnE w0 w L) {t e : TypeId} {len sz : Nat} {xs : List (Nat × Operand)} {parts : List (Nat × Value)} {us : List Value} (hx : evP F xs = some parts)
    (ht : sliceB P t e sz = true) (hpos : Nat.blt 0 sz = true) {z : Value} (hz : (P.info? e).bind (·.zero) = some z) (hzs : Nat.ble (len * sz) 16777216 = true) (hp : parts = enumF 0 us) (hl : us.length = len)
    (hu : (us.all fun u => (cells1 u).length == sz) = true) (hd : Nat.blt d n = true)
    (k : ∀ a' b w', St n D ((d, .slice (some ⟨b, 0, none⟩) len len) :: F) a' → OwnE w0 w' ([(b, row e (us.flatMap cells1))] :: L) → wpList P ops Q rest a' w') :
    wpList P ops Q (⟨some d, .buildSlice t len ⟨xs⟩, ty, pos, aft, none⟩ :: rest) a w := by
  refine stepBuildSlice hs hO hx ⟨ht, by simpa using hzs, z, hz, ?_⟩ hd k
  rw [hp]
  have hcs : ((Array.range (len * sz)).map ((if len * sz = 0 then #[] else z.cells)[· % (if len * sz = 0 then #[] else z.cells).size]!)).size = len * sz := by simp
  generalize (Array.range (len * sz)).map ((if len * sz = 0 then #[] else z.cells)[· % (if len * sz = 0 then #[] else z.cells).size]!) = cs0 at hcs ⊢
  have h3 := fill_enum us 0 cs0.toList hu (by rw [Array.length_toList, hcs, hl, Nat.zero_add])
  simp only [Nat.zero_mul, List.take_zero, List.nil_append] at h3
  exact h3
/-! ### A store -/
theorem stepStore (hs : St n D F a) (hO : OwnE w0 w L) {t T : TypeId} {x y : Operand} {b off : Nat} {cs : List Value} {L' : List Ent} (hx : ev F x = some (.pointer (some ⟨b, off, none⟩))) (hy : ev F y = some v)
    (hsz : sizeB P t (cells1 v).length = true) (h1 : (cells1 v).all (·.oneCell') = true)
    (hu : Repl L [(b, row T cs)] [(b, row T (spl cs off (cells1 v)))] L') (hin : off + (cells1 v).length ≤ cs.length)
    (k : ∀ a' w', St n D F a' → OwnE w0 w' L' → wpList P ops Q rest a' w') :
    wpList P ops Q (⟨none, .store t x y, ty, pos, aft, none⟩ :: rest) a w := by
  refine wpList_plain rfl fun K hK => ?_
  unfold Oper.wp
  obtain ⟨i, hi, hsz'⟩ := sizeB_spec hsz
  have hm : (b, row T cs) ∈ L.flatten := List.mem_flatten.2 ⟨_, hu.mem, by simp⟩
  have hg := hO.has _ hm
  simp only at hg
  have hst := run_storeCells_at P b off T (cells1 v) 0 ⟨cs⟩ w hg (by simpa using hin) (by simpa using h1)
  have hsz2 : (cells1 v).length = v.cells.size := by simp [cells1]
  have hrun : (execOp a.eval ⟨none, .store t x y, ty, pos, aft, none⟩).run P w = .ok .skip (w.setRow b ⟨spl cs off (cells1 v)⟩) := by
    have he : (cs.take off ++ cells1 v ++ cs.drop (off + (cells1 v).length)) = spl cs off (cells1 v) := rfl
    simp [execOp, Instr.storeAt, Instr.sureAddr, hs.eval hx, hs.eval hy, storeVar, sizeOf, typeInfo, program, Sem.run, hi, hsz', hsz2]
    simp only [Nat.add_zero] at hst
    rw [he] at hst
    rw [show v.cells.toList = cells1 v from rfl, hst]
    simp
  rw [hrun]
  exact hK _ _ (k a _ hs (hO.replUpd hu rfl rfl rfl (by simp) (setRow_heap w b _ _ T _ hg) (fun k hk _ => setRow_other w b k _ hk)))
/-! ### Slices that are read -/
/-- The slice that begins at A reads as the values vs, sz cells each. -/
def RowR (H : Nat → Obj → Prop) (sz : Nat) (vs : List Value) (A : Option Addr) : Prop :=
  vs = [] ∨ ∃ b off c T fr, A = some ⟨b, off, none⟩ ∧ H b (.cells c T fr) ∧ ∀ i v, vs[i]? = some v → (cells1 v).length = sz ∧ ∀ j u, (cells1 v)[j]? = some u → c[off + i * sz + j]? = some u
/-- The address k cells behind A. -/
abbrev eA (A : Option Addr) (k : Nat) : Addr := ⟨(A.getD ⟨0, 0, none⟩).block, (A.getD ⟨0, 0, none⟩).off + k, none⟩
theorem RowR.mono {H H' : Nat → Obj → Prop} {sz : Nat} {vs : List Value} {A : Option Addr} (h : RowR H sz vs A) (hH : ∀ b o, H b o → H' b o) : RowR H' sz vs A := by
  rcases h with h | ⟨b, off, c, T, fr, h1, h2, h3⟩
  · exact .inl h
  · exact .inr ⟨b, off, c, T, fr, h1, hH _ _ h2, h3⟩
theorem RowR.cell {H : Nat → Obj → Prop} {sz : Nat} {vs : List Value} {A : Option Addr} (h : RowR H sz vs A) (hH : Val w0 L H) {i j : Nat} {v u : Value} (hv : vs[i]? = some v) (hu : (cells1 v)[j]? = some u) :
    ∀ w, OwnE w0 w L → w.cell? ⟨(A.getD ⟨0, 0, none⟩).block, (A.getD ⟨0, 0, none⟩).off + i * sz + j, none⟩ = some u := fun w hO => by
  rcases h with rfl | ⟨b, off, c, T, fr, rfl, h2, h3⟩
  · simp at hv
  · have := hH w hO b _ h2
    simp only [Option.getD_some, World.cell?, this]
    simpa using (h3 i v hv).2 j u hu
theorem yl_elem (hs : St n D F a) {x ix : Operand} {A : Option Addr} {vs : List Value} {c t e sz : Nat} {i : Int} {H : Nat → Obj → Prop} (hr : RowR H sz vs A) (hx : ev F x = some (.slice A vs.length c)) (hi : ev F ix = some (.int .i64 i))
    (ht : sliceB P t e sz = true) (h : 0 ≤ i ∧ i < (vs.length : Int)) : Yl P C a (.indexAddr t x ix) ty (.pointer (some (eA A (i.toNat * sz)))) := by
  rcases hr with rfl | ⟨b, off, c, T, fr, rfl, _⟩
  · simp at h; omega
  · exact yl_indexAddr hs hx hi ht h
theorem yl_load_el1 (hs : St n D F a) {x : Operand} {A : Option Addr} {vs : List Value} {t sz k : Nat} {H : Nat → Obj → Prop} (hx : ev F x = some (.pointer (some (eA A (k * sz))))) (ht : scalarB P t = true)
    (hH : Val w0 L H) (hr : RowR H sz vs A) {u : Value} (hk : vs[k]? = some u) (h1 : cells1 u = [u]) : Yl P (fun w => OwnE w0 w L) a (.load t x) ty u :=
  yl_load1 hs hx ht (hr.cell hH (j := 0) hk (by simp [h1]))
theorem yl_load_elN (hs : St n D F a) {x : Operand} {A : Option Addr} {vs : List Value} {t sz k : Nat} {H : Nat → Obj → Prop} (hx : ev F x = some (.pointer (some (eA A (k * sz))))) {cs : List Value} (ht : aggB P t cs.length = true)
    (hH : Val w0 L H) (hr : RowR H sz vs A) (hk : vs[k]? = some (.agg ⟨cs⟩)) : Yl P (fun w => OwnE w0 w L) a (.load t x) ty (.agg ⟨cs⟩) :=
  yl_loadN hs hx ht fun w hw j u hj => hr.cell hH hk (by simpa [cells1, Value.cells] using hj) w hw
theorem yl_load_fld (hs : St n D F a) {x : Operand} {A : Option Addr} {vs : List Value} {t sz k o : Nat} {H : Nat → Obj → Prop} (hx : ev F x = some (.pointer (some ⟨(A.getD ⟨0, 0, none⟩).block, (A.getD ⟨0, 0, none⟩).off + k * sz + o, none⟩))) (ht : scalarB P t = true)
    (hH : Val w0 L H) (hr : RowR H sz vs A) {v u : Value} (hk : vs[k]? = some v) (hj : (cells1 v)[o]? = some u) : Yl P (fun w => OwnE w0 w L) a (.load t x) ty u :=
  yl_load1 hs hx ht (hr.cell hH hk hj)
/-- A cell of an entry's block. -/
theorem yl_load_e (hs : St n D F a) {x : Operand} {b off t : Nat} {T : TypeId} {cs : List Value} {u : Value} (hx : ev F x = some (.pointer (some ⟨b, off, none⟩))) (ht : scalarB P t = true)
    (he : [(b, row T cs)] ∈ L) (hu : cs[off]? = some u) : Yl P (fun w => OwnE w0 w L) a (.load t x) ty u :=
  yl_load1 hs hx ht fun w hO => by rw [hO.cell (memF he)]; simpa using hu
/-- Some cells of an entry's block. -/
theorem yl_load_eN (hs : St n D F a) {x : Operand} {b off t m : Nat} {T : TypeId} {cs us : List Value} (hx : ev F x = some (.pointer (some ⟨b, off, none⟩))) (ht : aggB P t m = true)
    (he : [(b, row T cs)] ∈ L) (hu : (cs.drop off).take m = us) (hm : us.length = m) : Yl P (fun w => OwnE w0 w L) a (.load t x) ty (.agg ⟨us⟩) := by
  subst hm
  exact yl_loadN hs hx ht fun w hO j u hj => by
    rw [hO.cell (memF he)]
    rw [← hu, List.getElem?_take] at hj
    split at hj
    · simpa using hj
    · simp at hj
/-- A slice of a slice. -/
theorem RowR.cut {H : Nat → Obj → Prop} {sz : Nat} {vs : List Value} {A : Option Addr} (h : RowR H sz vs A) (lo hi : Nat) (hhi : hi ≤ vs.length) :
    RowR H sz ((vs.take hi).drop lo) (A.map (·.add (lo * sz))) := by
  rcases h with rfl | ⟨b, off, c, T, fr, rfl, h2, h3⟩
  · exact .inl (by simp)
  · refine .inr ⟨b, off + lo * sz, c, T, fr, ?_, h2, ?_⟩
    · by_cases e : lo * sz = 0 <;> simp [Addr.add, e]
    · intro i v hv
      rw [List.getElem?_drop, List.getElem?_take] at hv
      split at hv
      · have := h3 _ _ hv
        refine ⟨this.1, fun j u hu => ?_⟩
        have h4 := this.2 j u hu
        rw [Nat.add_mul] at h4
        rw [show off + lo * sz + i * sz + j = off + (lo * sz + i * sz) + j by omega]; exact h4
      · simp at hv
theorem RowR.cut' {H : Nat → Obj → Prop} {sz : Nat} {vs : List Value} {A : Option Addr} (h : RowR H sz vs A) (lo hi c : Nat) (hhi : hi ≤ vs.length) (hc : hi ≤ c) :
    RowR H sz ((vs.take hi).drop lo) (if c = lo then A else A.map (·.add (lo * sz))) := by
  by_cases e : c = lo
  · exact .inl (by simp; omega)
  · rw [if_neg e]; exact h.cut lo hi hhi
theorem run_sliceBound {w : World} {k : IntKind} {i : Int} {y : Nat} {code : BoundsCode} (h : 0 ≤ i ∧ i ≤ y) : (Instr.sliceBound (.int k i) y code).run P w = .ok i.toNat w := by
  simp [Instr.sliceBound, asIntOf, h.1, h.2]
def evO (F : Fr) : Option Operand → Option (Option Value)
  | none => some none
  | some x => (ev F x).map some
/-- 's[lo:hi]' of a slice, hi at most its length. -/
theorem yl_slice (hs : St n D F a) {x lo hi : Operand} {A : Option Addr} {l c t e sz : Nat} {i j : Int} (hx : ev F x = some (.slice A l c)) (hlo : ev F lo = some (.int .i64 i)) (hhi : ev F hi = some (.int .i64 j))
    (ht : sliceB P t e sz = true) (h : 0 ≤ i ∧ i ≤ j ∧ j ≤ (c : Int)) :
    Yl P C a (.slice t x (some lo) (some hi) none) ty (.slice (if c = i.toNat then A else A.map (·.add (i.toNat * sz))) (j.toNat - i.toNat) (c - i.toNat)) := fun w _ => by
  obtain ⟨h1, k, h2, h3⟩ := sliceB_spec ht
  have hb1 := run_sliceBound (P := P) (w := w) (k := .i64) (i := j) (y := c) (code := .sliceAcap) ⟨by omega, h.2.2⟩
  have hb2 := run_sliceBound (P := P) (w := w) (k := .i64) (i := i) (y := j.toNat) (code := .sliceB) ⟨h.1, by omega⟩
  simp [execOp, Instr.sliceAt, Instr.slice, hs.eval hx, hs.eval hlo, hs.eval hhi, underlying, program, Sem.run, h1, Instr.sliceBounds, hb1, hb2, sizeOf, typeInfo, h2, h3]
theorem yl_sliceHi (hs : St n D F a) {x hi : Operand} {A : Option Addr} {l c t e sz : Nat} {j : Int} (hx : ev F x = some (.slice A l c)) (hhi : ev F hi = some (.int .i64 j))
    (ht : sliceB P t e sz = true) (h : 0 ≤ j ∧ j ≤ (c : Int)) :
    Yl P C a (.slice t x none (some hi) none) ty (.slice A j.toNat c) := fun w _ => by
  obtain ⟨h1, k, h2, h3⟩ := sliceB_spec ht
  have hb1 := run_sliceBound (P := P) (w := w) (k := .i64) (i := j) (y := c) (code := .sliceAcap) ⟨by omega, h.2⟩
  have hA : (if c = 0 then A else A.map (·.add 0)) = A := by split; rfl; cases A <;> simp [Addr.add]
  simp [execOp, Instr.sliceAt, Instr.slice, hs.eval hx, hs.eval hhi, underlying, program, Sem.run, h1, Instr.sliceBounds, hb1, sizeOf, typeInfo, h2, hA]
theorem yl_sliceLo (hs : St n D F a) {x lo : Operand} {A : Option Addr} {l c t e sz : Nat} {i : Int} (hx : ev F x = some (.slice A l c)) (hlo : ev F lo = some (.int .i64 i))
    (ht : sliceB P t e sz = true) (h : 0 ≤ i ∧ i ≤ (l : Int)) :
    Yl P C a (.slice t x (some lo) none none) ty (.slice (if c = i.toNat then A else A.map (·.add (i.toNat * sz))) (l - i.toNat) (c - i.toNat)) := fun w _ => by
  obtain ⟨h1, k, h2, h3⟩ := sliceB_spec ht
  have hb2 := run_sliceBound (P := P) (w := w) (k := .i64) (i := i) (y := l) (code := .sliceB) h
  simp [execOp, Instr.sliceAt, Instr.slice, hs.eval hx, hs.eval hlo, underlying, program, Sem.run, h1, Instr.sliceBounds, hb2, sizeOf, typeInfo, h2, h3]
/-! ### Slices of one's own -/
/-- The slice value v holds vs, sz cells each of element type E, and owns the entry e: it may grow. -/
def RowM (E : TypeId) (sz : Nat) (vs : List Value) (v : Value) (e : Ent) : Prop :=
  (∀ u ∈ vs, (cells1 u).length = sz ∧ (cells1 u).all (·.oneCell') = true) ∧
  ((v = .slice none 0 0 ∧ vs = [] ∧ e = []) ∨
   ∃ g cap cur, v = .slice (some ⟨g, 0, none⟩) vs.length cap ∧ e = [(g, row E cur)] ∧ vs.length ≤ cap ∧ cap ≤ maxLen ∧ cur.length = cap * sz ∧ cur.take (vs.length * sz) = vs.flatMap cells1)
theorem RowM.nil (E sz : Nat) : RowM E sz [] (.slice none 0 0) [] := ⟨by simp, .inl ⟨rfl, rfl, rfl⟩⟩
theorem RowM.nil' (E sz b : Nat) : RowM E sz [] (.slice (some ⟨b, 0, none⟩) 0 0) [(b, row E [])] := ⟨by simp, .inr ⟨b, 0, [], rfl, rfl, by simp, by simp [maxLen], by simp, by simp⟩⟩
theorem flat_len {sz : Nat} : ∀ {vs : List Value}, (∀ u ∈ vs, (cells1 u).length = sz) → (vs.flatMap cells1).length = vs.length * sz
  | [], _ => by simp
  | v :: r, h => by
    have := flat_len (vs := r) (sz := sz) fun u hu => h u (by simp [hu])
    simp [this, h v (by simp), Nat.add_mul]; omega
theorem flat_get {sz : Nat} : ∀ {vs : List Value}, (∀ u ∈ vs, (cells1 u).length = sz) → ∀ i v, vs[i]? = some v → ∀ j u, (cells1 v)[j]? = some u → (vs.flatMap cells1)[i * sz + j]? = some u
  | [], _, i, v, hv, _, _, _ => by simp at hv
  | x :: r, h, i, v, hv, j, u, hu => by
    have hx := h x (by simp)
    have hj : j < (cells1 v).length := by
      rcases Nat.lt_or_ge j (cells1 v).length with h' | h'
      · exact h'
      · simp [List.getElem?_eq_none h'] at hu
    cases i with
    | zero =>
      simp at hv; subst hv
      simp only [List.flatMap_cons, Nat.zero_mul, Nat.zero_add]
      rw [List.getElem?_append_left hj]; exact hu
    | succ i =>
      have := flat_get (vs := r) (fun u hu => h u (by simp [hu])) i v (by simpa using hv) j u hu
      simp only [List.flatMap_cons]
      rw [List.getElem?_append_right (by rw [hx, Nat.add_mul]; omega), hx, show (i + 1) * sz + j - sz = i * sz + j by rw [Nat.add_mul]; omega]
      exact this
theorem RowM.form {E sz : Nat} {vs : List Value} {v : Value} {e : Ent} (h : RowM E sz vs v e) : ∃ A c, v = .slice A vs.length c := by
  rcases h.2 with ⟨rfl, rfl, rfl⟩ | ⟨g, cap, cur, rfl, _⟩
  · exact ⟨none, 0, rfl⟩
  · exact ⟨_, _, rfl⟩
theorem RowM.read {E sz : Nat} {vs : List Value} {A : Option Addr} {l c : Nat} {e : Ent} (h : RowM E sz vs (.slice A l c) e) : RowR (inE e) sz vs A := by
  rcases h.2 with ⟨_, rfl, _⟩ | ⟨g, cap, cur, hv, rfl, hn, hc, hl, ht⟩
  · exact .inl rfl
  · injection hv with h1 _ _
    subst h1
    refine .inr ⟨g, 0, ⟨cur⟩, E, (0, 0), rfl, by simp [inE], fun i v hv => ⟨(h.1 v (List.mem_of_getElem? hv)).1, fun j u hu => ?_⟩⟩
    have hs := fun u hu => (h.1 u hu).1
    have h3 := flat_get hs i v hv j u hu
    rw [← ht, List.getElem?_take] at h3
    split at h3
    · simpa using h3
    · simp at h3
theorem stepAppend (hs : St n D F a) (hO : OwnE w0 w L) {x y : Operand} {t E sz bytes : Nat} {sv : Value} {A : Option Addr} {c' : Nat} {vs us : List Value} {e : Ent} {L' : Ent → List Ent} {H : Nat → Obj → Prop} {z : Value} {i : TypeInfo}
    (hx : ev F x = some sv) (hM : RowM E sz vs sv e) (hy : ev F y = some (.slice A us.length c')) (hr : RowR H sz us A) (hH : Val w0 L H) (hus : us ≠ []) (hone : ∀ u ∈ us, (cells1 u).length = sz ∧ (cells1 u).all (·.oneCell') = true)
    (ht : P.underlying t = some (.slice E)) (hi : P.info? E = some i) (hz : i.zero = some z) (hsz : i.size = sz) (hby : i.bytes = bytes) (hzs : z.cells.size = sz) (hpos : 0 < sz)
    (hroom : vs.length + us.length ≤ 4294967296) (hbytes : bytes ≤ 32768) (hrep : ∀ e', Repl L e e' (L' e')) (hd : Nat.blt d n = true)
    (k : ∀ a' v' e' w', St n D ((d, v') :: F) a' → RowM E sz (vs ++ us) v' e' → OwnE w0 w' (L' e') → wpList P ops Q rest a' w') :
    wpList P ops Q (⟨some d, .call ⟨.builtin .append, #[x, y], #[t, t]⟩, ty, pos, aft, none⟩ :: rest) a w := by
  refine wpList_plain rfl fun K hK => ?_
  have hlv := flat_len (fun u hu => (hM.1 u hu).1)
  have hlu := flat_len (fun u hu => (hone u hu).1)
  rcases hr with rfl | ⟨b, off, c, T, fr, rfl, hb, hcells⟩
  · exact absurd rfl hus
  have hbw := hH w hO b _ hb
  have hnews : ∀ j u, (us.flatMap cells1)[j]? = some u → w.cell? ((⟨b, off, none⟩ : Addr).add j) = some u := fun j u hj => by
    have hj' : j < us.length * sz := by
      rw [← hlu]
      rcases Nat.lt_or_ge j (us.flatMap cells1).length with h' | h'
      · exact h'
      · simp [List.getElem?_eq_none h'] at hj
    have hq : j / sz < us.length := (Nat.div_lt_iff_lt_mul hpos).2 hj'
    have hv : us[j / sz]? = some us[j / sz] := List.getElem?_eq_getElem hq
    have hrem : j % sz < (cells1 us[j / sz]).length := by rw [(hone _ (List.getElem_mem hq)).1]; exact Nat.mod_lt _ hpos
    have hu := List.getElem?_eq_getElem hrem
    have h2 := flat_get (fun u hu => (hone u hu).1) _ _ hv _ _ hu
    have hdm : j / sz * sz + j % sz = j := by rw [Nat.mul_comm]; exact Nat.div_add_mod j sz
    rw [hdm] at h2
    rw [h2] at hj
    have h3 := (hcells _ _ hv).2 _ _ hu
    rw [Nat.add_assoc, hdm] at h3
    rw [show (⟨b, off, none⟩ : Addr).add j = ⟨b, off + j, none⟩ by unfold Addr.add; by_cases e : j = 0 <;> simp [e]]
    simp only [World.cell?, hbw]
    rw [← hj]; simpa using h3
  have hone' : ∀ u ∈ us.flatMap cells1, u.oneCell' = true := fun u hu => by
    obtain ⟨v, hv, hu⟩ := List.mem_flatMap.1 hu
    exact (List.all_eq_true.1 (hone v hv).2) u hu
  subst hsz
  subst hby
  have hb2 : (vs.length + us.length) * i.bytes ≤ 140737488355328 := by
    calc (vs.length + us.length) * i.bytes ≤ 4294967296 * 32768 := Nat.mul_le_mul hroom hbytes
      _ ≤ 140737488355328 := by decide
  have hall : ∀ u ∈ vs ++ us, (cells1 u).length = i.size ∧ (cells1 u).all (·.oneCell') = true := fun u hu => by
    rcases List.mem_append.1 hu with hu | hu
    · exact hM.1 u hu
    · exact hone u hu
  have hpos2 : 0 < us.length := List.length_pos_iff.2 hus
  have hgo : ∀ v' w', (Builtin.append_ #[t, t] ty #[sv, .slice (some ⟨b, off, none⟩) us.length c']).run P w = .ok v' w' → (∃ e', RowM E i.size (vs ++ us) v' e' ∧ OwnE w0 w' (L' e')) →
      Oper.wp P ⟨some d, .call ⟨.builtin .append, #[x, y], #[t, t]⟩, ty, pos, aft, none⟩ a w K Q := by
    intro v' w' hrun ⟨e', h1, h2⟩
    unfold Oper.wp execOp
    simp only [resolve, invoke, builtin, Sem.run_bind, Sem.run_pure, Result.andThen_ok, List.map_toArray, List.map_cons, List.map_nil, hs.eval hx, hs.eval hy, hrun]
    exact hK _ _ (k _ _ _ _ (hs.put _ (by simpa using hd)) h1 h2)
  rcases hM.2 with ⟨rfl, rfl, rfl⟩ | ⟨g, cap, cur, rfl, rfl, hn, hc, hl, htk⟩
  · have hr := run_append_nil (P := P) w t ty E i z ht hi hz ⟨b, off, none⟩ us.length c' _ hlu hnews hpos2 (by omega) (by simp only [List.length_nil, Nat.zero_add] at hb2; omega)
    have hge := grownCap_ge w us.length 0 E
    have hcm := grownCap_le_maxLen w us.length 0 E (by simp only [maxLen]; omega)
    refine hgo _ _ hr ⟨[(w.heap.size, row E (us.flatMap cells1 ++ (Builtin.zeroCells z.cells (grownCap w us.length 0 E - us.length)).toList))], ⟨by simpa using hall, .inr ⟨_, _, _, rfl, rfl, by simpa using hge, hcm, ?_, ?_⟩⟩, ?_⟩
    · have := size_zeroCells z.cells (grownCap w us.length 0 E - us.length)
      simp only [List.length_append, hlu, Array.length_toList, this, hzs, ← Nat.add_mul]
      congr 1; omega
    · simp only [List.nil_append]; rw [← hlu]; exact List.take_left
    · have := hO.drew.renew (row E (us.flatMap cells1 ++ (Builtin.zeroCells z.cells (grownCap w us.length 0 E - us.length)).toList)) (hrep _)
      rw [show ((us.flatMap cells1).toArray ++ Builtin.zeroCells z.cells (grownCap w us.length 0 E - us.length)) = (⟨us.flatMap cells1 ++ (Builtin.zeroCells z.cells (grownCap w us.length 0 E - us.length)).toList⟩ : Array Value) from Array.ext' (by simp)]
      exact this
  · have hm : (g, row E cur) ∈ L.flatten := List.mem_flatten.2 ⟨_, (hrep []).mem, by simp⟩
    have hgw := hO.has _ hm
    simp only at hgw
    by_cases hroom' : vs.length + us.length ≤ cap
    · have hfit : vs.length * i.size + (us.flatMap cells1).length ≤ cur.length := by rw [hlu, hl, ← Nat.add_mul]; exact Nat.mul_le_mul_right _ hroom'
      have hr := run_append_room (P := P) w t ty E i ht hi g vs.length cap ⟨cur⟩ hgw ⟨b, off, none⟩ us.length c' _ hlu hnews hone' hroom' (by simpa using hfit)
      refine hgo _ _ hr ⟨[(g, row E (spl cur (vs.length * i.size) (us.flatMap cells1)))], ⟨hall, .inr ⟨_, _, _, by rw [List.length_append], rfl, by rw [List.length_append]; exact hroom', hc, by rw [spl_length hfit, hl], ?_⟩⟩, ?_⟩
      · rw [List.length_append, List.flatMap_append, spl, htk, ← List.flatMap_append, Nat.add_mul, ← hlu, ← hlv, ← List.length_append, ← List.flatMap_append]
        exact List.take_left
      · refine hO.replUpd (hrep _) rfl rfl rfl (by simp) ?_ (fun k hk _ => setRow_other w g k _ hk)
        exact setRow_heap w g _ _ E _ hgw
    · have holds : ∀ j u, (vs.flatMap cells1)[j]? = some u → w.cell? ((⟨g, 0, none⟩ : Addr).add j) = some u := fun j u hj => by
        rw [show (⟨g, 0, none⟩ : Addr).add j = ⟨g, j, none⟩ by unfold Addr.add; by_cases e : j = 0 <;> simp [e]]
        rw [← htk, List.getElem?_take] at hj
        split at hj
        · simp only [World.cell?, hgw]; simpa using hj
        · simp at hj
      have hr := run_append_grow (P := P) w t ty E i z ht hi hz ⟨g, 0, none⟩ vs.length cap _ hlv holds ⟨b, off, none⟩ us.length c' _ hlu hnews (by omega) (by omega) (growslice_fits (by omega) hb2)
      have hge := grownCap_ge w (vs.length + us.length) cap E
      have hcm := grownCap_le_maxLen w (vs.length + us.length) cap E (by simp only [maxLen]; omega)
      refine hgo _ _ hr ⟨[(w.heap.size, row E (vs.flatMap cells1 ++ us.flatMap cells1 ++ (Builtin.zeroCells z.cells (grownCap w (vs.length + us.length) cap E - (vs.length + us.length))).toList))], ⟨hall, .inr ⟨_, _, _, by rw [List.length_append], rfl, by rw [List.length_append]; exact hge, hcm, ?_, ?_⟩⟩, ?_⟩
      · have := size_zeroCells z.cells (grownCap w (vs.length + us.length) cap E - (vs.length + us.length))
        simp only [List.length_append, hlv, hlu, Array.length_toList, this, hzs, ← Nat.add_mul]
        congr 1; omega
      · rw [List.length_append, List.flatMap_append, Nat.add_mul, ← hlv, ← hlu, ← List.length_append]; exact List.take_left
      · have := hO.drew.renew (row E (vs.flatMap cells1 ++ us.flatMap cells1 ++ (Builtin.zeroCells z.cells (grownCap w (vs.length + us.length) cap E - (vs.length + us.length))).toList)) (hrep _)
        rw [show ((vs.flatMap cells1).toArray ++ (us.flatMap cells1).toArray ++ Builtin.zeroCells z.cells (grownCap w (vs.length + us.length) cap E - (vs.length + us.length))) = (⟨vs.flatMap cells1 ++ us.flatMap cells1 ++ (Builtin.zeroCells z.cells (grownCap w (vs.length + us.length) cap E - (vs.length + us.length))).toList⟩ : Array Value) from Array.ext' (by simp)]
        exact this
end
end Go.E
