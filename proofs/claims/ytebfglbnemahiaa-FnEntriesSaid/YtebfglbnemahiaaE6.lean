/- The engine, part 6: regions with one late effect; arrays held against each other; cells written in a slice's row. -/
import Derived.Test.YtebfglbnemahiaaE5
import Derived.StillTail
namespace Go.E
open Go.RowKit
section
variable {P : Program} {a : Act} {n : Nat} {D : List Deferred} {F : Fr} {ty : TypeId} {ops : Array Oper} {rest : List Oper} {w w0 : World} {L : List Ent} {pos : String} {aft : Array Edge} {d : Nat} {v : Value} {op : Op}
theorem ss {Q : Act → Prop} (hs : St n D F a) (hO : OwnE w0 w L) (hy : Yl P (fun w => OwnE w0 w L) a op ty v) (hd : Nat.blt d n = true) (k : ∀ a', St n D ((d, v) :: F) a' → wpStill P ops w Q rest a') :
    wpStill P ops w Q (⟨some d, op, ty, pos, aft, none⟩ :: rest) a := by
  refine wpStill_step fun K hK => ?_
  simp only [Region.wanted, if_true]
  unfold Oper.still
  rw [execOp_oper, hy w hO]
  exact ⟨rfl, hK _ (k _ (hs.put v (by simpa using hd)))⟩
theorem endS {Q : Act → Prop} (h : Q a) : wpStill P ops w Q [] a := h
/-- A region that draws, whose operations are quiet but for the last ones, from number m on, which come in order. -/
theorem regionT {id : Nat} {Q : Exit → Act → World → Prop} {l : List Oper} (m : Nat) (hm : P.follows .mixedOrders = true) (hB : Region.lexTailB .any l.toArray m = true)
    (h : wpStill P l.toArray w.drew (fun a' => wpList P l.toArray Q (l.drop m) a' w.drew) (l.take m) a) : (Code.region id l.toArray true).wp P Q a w :=
  wp_region_still_tail m hm hB h
/-! ### Arrays of numbers -/
def intArrB (P : Program) (t len : Nat) : Bool := match P.underlying t with
  | some (.array n e) => n == len && (match P.underlying e with | some (.int .i64) => true | _ => false) && sizeB P e 1 && !P.eqGuardType P.depth t
  | _ => false
theorem intArrB_spec {t len : Nat} (h : intArrB P t len = true) : ∃ e, P.underlying t = some (.array len e) ∧ P.underlying e = some (.int .i64) ∧ (∃ i, P.info? e = some i ∧ i.size = 1) ∧ P.eqGuardType P.depth t = false := by
  unfold intArrB at h
  split at h
  · rename_i m e he
    simp only [Bool.and_eq_true] at h
    obtain ⟨⟨⟨h1, h2⟩, h3⟩, h4⟩ := h
    simp at h1; subst h1
    split at h2
    · rename_i hi; exact ⟨e, he, hi, sizeB_spec h3, by simpa using h4⟩
    · simp at h2
  · simp at h
theorem run_part_int {e : Nat} (he : P.underlying e = some (.int .i64)) {cs : Array Value} {i : Nat} {u : Value} (hu : cs[i]? = some u) : (part e cs i).run P w = .ok u w := by
  simp [part, isAgg, underlying, program, Sem.run, he, hu]
theorem run_eqArr {t len : Nat} (h : intArrB P t len = true) (xs ys : List Int) (hx : xs.length = len) (hy : ys.length = len) :
    (Op.equal t (.agg ⟨xs.map (Value.int .i64)⟩) (.agg ⟨ys.map (Value.int .i64)⟩)).run P w = .ok (decide (xs = ys)) w := by
  obtain ⟨e, h1, h2, ⟨i, h3, h4⟩, _⟩ := intArrB_spec h
  unfold Op.equal Op.maxDepth
  rw [show (10000 : Nat) = 9998 + 1 + 1 from rfl, Op.equalIn]
  have hsz : (sizeOf e).run P w = .ok 1 w := by simp [sizeOf, typeInfo, program, Sem.run, h3, h4]
  simp only [Sem.run_bind, underlying, program, Sem.run, h1, Result.andThen_ok, hsz, Std.Legacy.Range.forIn_eq_forIn_range', Sem.run_pure]
  have hstep : ∀ (j : Nat) (x y : Int), xs[j]? = some x → ys[j]? = some y → ∀ {β : Type} (g : Bool → Sem β),
      ((do
        let u ← part e ⟨xs.map (Value.int .i64)⟩ (j * 1)
        let v ← part e ⟨ys.map (Value.int .i64)⟩ (j * 1)
        let b ← Op.equalIn (9998 + 1) e u v
        g b) : Sem β).run P w = (g (x == y)).run P w := fun j x y hx hy β g => by
    have h5 := run_part_int (P := P) (w := w) h2 (cs := ⟨xs.map (Value.int .i64)⟩) (i := j * 1) (u := .int .i64 x) (by simp [hx])
    have h6 := run_part_int (P := P) (w := w) h2 (cs := ⟨ys.map (Value.int .i64)⟩) (i := j * 1) (u := .int .i64 y) (by simp [hy])
    have h7 : (Op.equalIn (9998 + 1) e (.int .i64 x) (.int .i64 y)).run P w = .ok (x == y) w := by
      rw [Op.equalIn]; simp [underlying, program, Sem.run, h2]
    simp only [Sem.run_bind, h5, h6, h7, Result.andThen_ok]
  have key : ∀ m j, j + m = len → (forIn (List.range' j m) ((none : Option Bool), ()) (fun i __s => do
            let __do_lift ← part e { toList := List.map (Value.int IntKind.i64) xs } (i * 1)
            let __do_lift_1 ← part e { toList := List.map (Value.int IntKind.i64) ys } (i * 1)
            let __do_lift ← Op.equalIn (9998 + 1) e __do_lift __do_lift_1
            if (!__do_lift) = true then pure (ForInStep.done (some false, ())) else pure (ForInStep.yield (none, ()))) : Sem (Option Bool × Unit)).run P w
      = .ok (if xs.drop j = ys.drop j then none else some false, ()) w := by
    intro m
    induction m with
    | zero => intro j hj; simp [List.drop_eq_nil_of_le (show xs.length ≤ j by omega), List.drop_eq_nil_of_le (show ys.length ≤ j by omega)]
    | succ m ih =>
      intro j hj
      have hjx : j < xs.length := by omega
      have hjy : j < ys.length := by omega
      rw [List.range'_succ, List.forIn_cons, Sem.run_bind, hstep j xs[j] ys[j] (by simp [hjx]) (by simp [hjy])]
      rw [List.drop_eq_getElem_cons hjx, List.drop_eq_getElem_cons hjy]
      by_cases hb : xs[j] = ys[j]
      · simp only [hb, beq_self_eq_true, Bool.not_true, Bool.false_eq_true, if_false, Sem.run_pure, Result.andThen_ok, ih (j + 1) (by omega), List.cons.injEq, true_and]
      · have hb' : (xs[j] == ys[j]) = false := by simpa using hb
        simp only [hb', Bool.not_false, if_true, Sem.run_pure, Result.andThen_ok, List.cons.injEq, hb, false_and, if_false]
  have hk := key len 0 (by omega)
  simp only [List.drop_zero] at hk
  have hsz2 : ([:len] : Std.Legacy.Range).size = len := by simp [Std.Legacy.Range.size]
  rw [hsz2, hk]
  by_cases he : xs = ys <;> simp [he]
theorem yl_neArr {C : World → Prop} (hs : St n D F a) {x y : Operand} {t len t' : Nat} {xs ys : List Int} (hx : ev F x = some (.agg ⟨xs.map (Value.int .i64)⟩)) (hy : ev F y = some (.agg ⟨ys.map (Value.int .i64)⟩))
    (ht : intArrB P t len = true) (hlx : xs.length = len) (hly : ys.length = len) : Yl P C a (.binOp .neq t x y t') ty (.bool (decide (xs ≠ ys))) := fun w _ => by
  obtain ⟨e, _, _, _, hg⟩ := intArrB_spec ht
  have h2 := run_eqArr (P := P) (w := w) ht xs ys hlx hly
  simp [execOp, hs.eval hx, hs.eval hy, run_eqGuard_agg, hg, binOp, h2]
theorem yl_eqArr {C : World → Prop} (hs : St n D F a) {x y : Operand} {t len t' : Nat} {xs ys : List Int} (hx : ev F x = some (.agg ⟨xs.map (Value.int .i64)⟩)) (hy : ev F y = some (.agg ⟨ys.map (Value.int .i64)⟩))
    (ht : intArrB P t len = true) (hlx : xs.length = len) (hly : ys.length = len) : Yl P C a (.binOp .eql t x y t') ty (.bool (decide (xs = ys))) := fun w _ => by
  obtain ⟨e, _, _, _, hg⟩ := intArrB_spec ht
  have h2 := run_eqArr (P := P) (w := w) ht xs ys hlx hly
  simp [execOp, hs.eval hx, hs.eval hy, run_eqGuard_agg, hg, binOp, h2]
/-! ### max, min of two -/
theorem yl_max {C : World → Prop} (hs : St n D F a) {x y : Operand} {i j : Int} {ts : Array TypeId} (hx : ev F x = some (.int .i64 i)) (hy : ev F y = some (.int .i64 j)) : Yl P C a (.call ⟨.builtin .max, #[x, y], ts⟩) ty (.int .i64 (max i j)) := fun w _ => by
  simp [execOp, resolve, invoke, builtin, Builtin.max_, Builtin.max2, hs.eval hx, hs.eval hy]
  split <;> omega
theorem yl_min {C : World → Prop} (hs : St n D F a) {x y : Operand} {i j : Int} {ts : Array TypeId} (hx : ev F x = some (.int .i64 i)) (hy : ev F y = some (.int .i64 j)) : Yl P C a (.call ⟨.builtin .min, #[x, y], ts⟩) ty (.int .i64 (min i j)) := fun w _ => by
  simp [execOp, resolve, invoke, builtin, Builtin.min_, Builtin.min2, hs.eval hx, hs.eval hy]
  split <;> omega
/-! ### Other kinds of numbers -/
def intB (P : Program) (t : TypeId) (k : IntKind) : Bool := match P.underlying t with
  | some (.int k') => k' == k
  | _ => false
theorem intB_spec {t : Nat} {k : IntKind} (h : intB P t k = true) : P.underlying t = some (.int k) := by
  unfold intB at h; split at h
  · rename_i k' hk; simp at h; rw [hk, h]
  · simp at h
theorem yl_conv {C : World → Prop} (hs : St n D F a) {x : Operand} {src dst : Nat} {k k1 k2 : IntKind} {i : Int} (hx : ev F x = some (.int k i)) (h1 : intB P src k1 = true) (h2 : intB P dst k2 = true) : Yl P C a (.convert src dst x) ty (.int k2 (k2.wrap i)) := fun w _ => by
  simp [execOp, convert, hs.eval hx, underlying, program, Sem.run, intB_spec h1, intB_spec h2, Conv.intToInt]
theorem yl_conv64 {C : World → Prop} (hs : St n D F a) {x : Operand} {src dst : Nat} {k k1 : IntKind} {i : Int} (hx : ev F x = some (.int k i)) (h1 : intB P src k1 = true) (h2 : intB P dst .i64 = true) (h : -9223372036854775808 ≤ i ∧ i ≤ 9223372036854775807) : Yl P C a (.convert src dst x) ty (.int .i64 i) := by
  have := yl_conv (P := P) (C := C) (ty := ty) hs hx h1 h2; rwa [w64 h] at this
section
variable {C : World → Prop} (hs : St n D F a) {x y : Operand} {k : IntKind} {i j : Int} {t t' : TypeId}
include hs
theorem yl_addK (hx : ev F x = some (.int k i)) (hy : ev F y = some (.int k j)) : Yl P C a (.binOp .add t x y t') ty (.int k (k.wrap (i + j))) := fun w _ => by
  simp [execOp, hs.eval hx, hs.eval hy, eqGuard, binOp, Op.intArith]
theorem yl_mulK (hx : ev F x = some (.int k i)) (hy : ev F y = some (.int k j)) : Yl P C a (.binOp .mul t x y t') ty (.int k (k.wrap (i * j))) := fun w _ => by
  simp [execOp, hs.eval hx, hs.eval hy, eqGuard, binOp, Op.intArith]
theorem yl_shrK {k2 : IntKind} (hx : ev F x = some (.int k i)) (hy : ev F y = some (.int k2 j)) (h : 0 ≤ j) : Yl P C a (.binOp .shr t x y t') ty (.int k (i.fdiv (2 ^ min j.toNat k.bits))) := fun w _ => by
  have h' : ¬ j < 0 := by omega
  simp [execOp, hs.eval hx, hs.eval hy, eqGuard, binOp, Op.shift, h']
theorem yl_and255 (hx : ev F x = some (.int .u64 i)) (hy : ev F y = some (.int .u64 255)) : ∃ r : Int, (0 ≤ r ∧ r ≤ 255) ∧ Yl P C a (.binOp .and t x y t') ty (.int .u64 r) := by
  refine ⟨IntKind.u64.wrap ((BitVec.ofInt IntKind.u64.bits i &&& BitVec.ofInt IntKind.u64.bits 255).toNat : Int), ?_, fun w _ => ?_⟩
  · have h1 : (BitVec.ofInt IntKind.u64.bits i &&& BitVec.ofInt IntKind.u64.bits 255).toNat ≤ 255 := by
      rw [BitVec.toNat_and]; exact Nat.le_trans Nat.and_le_right (by decide)
    generalize (BitVec.ofInt IntKind.u64.bits i &&& BitVec.ofInt IntKind.u64.bits 255).toNat = m at h1 ⊢
    have h2 : IntKind.u64.wrap (m : Int) = (m : Int) := by
      rw [IntKind.wrap_u64]; omega
    rw [h2]; omega
  · have he : eqGuard .and t x y (.int .u64 i) (.int .u64 255) = pure () := rfl
    simp only [execOp, hs.eval hx, hs.eval hy, he, Sem.run_bind, Sem.run_pure, Result.andThen_ok]
    rfl
end
/-! ### The reader of codes -/
abbrev U8 : Int → Value := .int .u8
/-- An entry that holds a reader of a code that lies outside, at a place of at most N. -/
def CurAt (w0 : World) (T bc N : Nat) (e : Ent) : Prop :=
  ∃ (xs : List Int) (A : Option Addr) (c : Nat) (at_ seed : Int), e = [(bc, row T [.slice A xs.length c, .int .i64 at_, .int .u64 seed])] ∧ (xs.length ≤ c ∧ c ≤ 9223372036854775807) ∧ RowR (extH w0) 1 (xs.map U8) A ∧
    (∀ x ∈ xs, 0 ≤ x ∧ x ≤ 255) ∧ (0 ≤ at_ ∧ at_ ≤ N)
theorem CurAt.mono {T bc N N' : Nat} {e : Ent} (h : CurAt w0 T bc N e) (hN : N ≤ N') : CurAt w0 T bc N' e := by
  obtain ⟨xs, A, c, at_, seed, h1, h2, h3, h4, h5⟩ := h
  exact ⟨xs, A, c, at_, seed, h1, h2, h3, h4, h5.1, by omega⟩
/-! ### Bools held against each other -/
def boolB (P : Program) (t : TypeId) : Bool := match P.underlying t with
  | some .bool => true
  | _ => false
theorem yl_eqB {C : World → Prop} (hs : St n D F a) {x y : Operand} {t t' : Nat} {b c : Bool} (hx : ev F x = some (.bool b)) (hy : ev F y = some (.bool c)) (ht : boolB P t = true) : Yl P C a (.binOp .eql t x y t') ty (.bool (b == c)) := fun w _ => by
  have h1 : P.underlying t = some .bool := by unfold boolB at ht; split at ht <;> simp_all
  have h2 := run_equal_bool (P := P) w t b c h1
  simp [execOp, hs.eval hx, hs.eval hy, eqGuard, binOp, h2]
theorem yl_neB {C : World → Prop} (hs : St n D F a) {x y : Operand} {t t' : Nat} {b c : Bool} (hx : ev F x = some (.bool b)) (hy : ev F y = some (.bool c)) (ht : boolB P t = true) : Yl P C a (.binOp .neq t x y t') ty (.bool (b != c)) := fun w _ => by
  have h1 : P.underlying t = some .bool := by unfold boolB at ht; split at ht <;> simp_all
  have h2 := run_equal_bool (P := P) w t b c h1
  simp [execOp, hs.eval hx, hs.eval hy, eqGuard, binOp, h2, bne]
/-! ### Cells of one's own row are written -/
/-- An append within the room: the row's cells from the slice's end on are others. -/
theorem stepAppRoom {Q : Exit → Act → World → Prop} (hs : St n D F a) (hO : OwnE w0 w L) {x y : Operand} {t E sz g l cap b off m c' : Nat} {cur us : List Value} {L' : List Ent}
    (hx : ev F x = some (.slice (some ⟨g, 0, none⟩) l cap)) (hy : ev F y = some (.slice (some ⟨b, off, none⟩) m c')) (ht : appB P t E sz = true)
    (hus : us.length = m * sz) (hcells : ∀ j u, us[j]? = some u → w.cell? ⟨b, off + j, none⟩ = some u) (h1 : us.all (·.oneCell') = true) (hroom : l + m ≤ cap) (hfit : l * sz + us.length ≤ cur.length)
    (hu : Repl L [(g, row E cur)] [(g, row E (spl cur (l * sz) us))] L') (hd : Nat.blt d n = true)
    (k : ∀ a' w', St n D ((d, .slice (some ⟨g, 0, none⟩) (l + m) cap) :: F) a' → OwnE w0 w' L' → wpList P ops Q rest a' w') :
    wpList P ops Q (⟨some d, .call ⟨.builtin .append, #[x, y], #[t, t]⟩, ty, pos, aft, none⟩ :: rest) a w := by
  obtain ⟨h2, i, z, h3, h4, h5, h6, h7⟩ := appB_spec ht
  subst h5
  have hgw := hO.has _ (memF hu.mem)
  simp only at hgw
  have hr := run_append_room (P := P) w t ty E i h2 h3 g l cap ⟨cur⟩ hgw ⟨b, off, none⟩ m c' us hus (fun j u hj => by
    rw [show (⟨b, off, none⟩ : Addr).add j = ⟨b, off + j, none⟩ by unfold Addr.add; by_cases e : j = 0 <;> simp [e]]; exact hcells j u hj) (by simpa using h1) hroom (by simpa using hfit)
  refine wpList_plain rfl fun K hK => ?_
  unfold Oper.wp execOp
  simp only [resolve, invoke, builtin, Sem.run_bind, Sem.run_pure, Result.andThen_ok, List.map_toArray, List.map_cons, List.map_nil, hs.eval hx, hs.eval hy, hr]
  exact hK _ _ (k _ _ (hs.put _ (by simpa using hd)) (hO.replUpd hu rfl rfl rfl (by simp) (setRow_heap w g _ _ E _ hgw) (fun k hk _ => setRow_other w g k _ hk)))
/-- Cuts of a row of one's own, the numbers told. -/
theorem yl_cut {C : World → Prop} (hs : St n D F a) {x lo hi : Operand} {g l c t e sz : Nat} {i j : Int} (lo' m : Nat) (hx : ev F x = some (.slice (some ⟨g, 0, none⟩) l c)) (hlo : ev F lo = some (.int .i64 i)) (hhi : ev F hi = some (.int .i64 j))
    (ht : sliceB P t e sz = true) (hi1 : i = (lo' : Int)) (hj : j = (lo' : Int) + (m : Int)) (h : lo' + m ≤ c ∧ lo' < c) :
    Yl P C a (.slice t x (some lo) (some hi) none) ty (.slice (some ⟨g, lo' * sz, none⟩) m (c - lo')) := by
  have := yl_slice (P := P) (C := C) (ty := ty) hs hx hlo hhi ht (by omega)
  subst hi1 hj
  have h1 : ¬ (c = lo') := by omega
  have h2 : ((lo' : Int) + (m : Int)).toNat - (lo' : Int).toNat = m := by omega
  simp only [Int.toNat_natCast] at this h2
  rw [if_neg h1, h2] at this
  have h3 : (Option.map (fun x => Addr.add x (lo' * sz)) (some (⟨g, 0, none⟩ : Addr))) = some ⟨g, lo' * sz, none⟩ := by
    by_cases e : lo' * sz = 0 <;> simp [Addr.add, e]
  rwa [h3] at this
theorem yl_cutLo {C : World → Prop} (hs : St n D F a) {x lo : Operand} {g l c t e sz : Nat} {i : Int} (lo' : Nat) (hx : ev F x = some (.slice (some ⟨g, 0, none⟩) l c)) (hlo : ev F lo = some (.int .i64 i))
    (ht : sliceB P t e sz = true) (hi1 : i = (lo' : Int)) (h : lo' ≤ l) :
    Yl P C a (.slice t x (some lo) none none) ty (.slice (some ⟨g, if c = lo' then 0 else lo' * sz, none⟩) (l - lo') (c - lo')) := by
  have := yl_sliceLo (P := P) (C := C) (ty := ty) hs hx hlo ht (by omega)
  subst hi1
  simp only [Int.toNat_natCast] at this
  have h3 : (if c = lo' then some (⟨g, 0, none⟩ : Addr) else Option.map (fun x => Addr.add x (lo' * sz)) (some (⟨g, 0, none⟩ : Addr))) = some ⟨g, if c = lo' then 0 else lo' * sz, none⟩ := by
    by_cases h1 : c = lo'
    · simp [h1]
    · by_cases e : lo' * sz = 0 <;> simp [Addr.add, e, h1]
  rwa [h3] at this
/-- A full cut, of which nothing is told. -/
theorem yl_cut3 {C : World → Prop} (hs : St n D F a) {x lo hi mx : Operand} {A : Option Addr} {l c t e sz : Nat} {i j m : Int} (hx : ev F x = some (.slice A l c)) (hlo : ev F lo = some (.int .i64 i)) (hhi : ev F hi = some (.int .i64 j)) (hmx : ev F mx = some (.int .i64 m))
    (ht : sliceB P t e sz = true) (h : 0 ≤ i ∧ i ≤ j ∧ j ≤ m ∧ m ≤ (c : Int)) :
    Yl P C a (.slice t x (some lo) (some hi) (some mx)) ty (.slice (if m.toNat = i.toNat then A else A.map (·.add (i.toNat * sz))) (j.toNat - i.toNat) (m.toNat - i.toNat)) := fun w _ => by
  obtain ⟨h1, k, h2, h3⟩ := sliceB_spec ht
  have hb0 := run_sliceBound (P := P) (w := w) (k := .i64) (i := m) (y := c) (code := .slice3Acap) ⟨by omega, h.2.2.2⟩
  have hb1 := run_sliceBound (P := P) (w := w) (k := .i64) (i := j) (y := m.toNat) (code := .slice3B) ⟨by omega, by omega⟩
  have hb2 := run_sliceBound (P := P) (w := w) (k := .i64) (i := i) (y := j.toNat) (code := .slice3C) ⟨h.1, by omega⟩
  simp [execOp, Instr.sliceAt, Instr.slice, hs.eval hx, hs.eval hlo, hs.eval hhi, hs.eval hmx, underlying, program, Sem.run, h1, Instr.sliceBounds, hb0, hb1, hb2, sizeOf, typeInfo, h2, h3]
/-- An append of nothing. -/
theorem yl_appE {C : World → Prop} (hs : St n D F a) {x y : Operand} {t E sz l c c' : Nat} {A B : Option Addr} (hx : ev F x = some (.slice A l c)) (hle : l ≤ c) (hy : ev F y = some (.slice B 0 c')) (ht : appB P t E sz = true) :
    Yl P C a (.call ⟨.builtin .append, #[x, y], #[t, t]⟩) ty (.slice A l c) := fun w _ => by
  obtain ⟨h2, i, z, h3, h4, h5, h6, h7⟩ := appB_spec ht
  have hf : (Builtin.firstCells i.size 0 (.slice B 0 c')).run P w = .ok #[] w := by
    cases B <;> simp [Builtin.firstCells, loadCells, loadCellsFrom]
  cases A <;> simp [execOp, resolve, invoke, builtin, Builtin.append_, hs.eval hx, hs.eval hy, underlying, program, Sem.run, h2, sizeOf, typeInfo, h3, Builtin.lenOf, hle, hf, storeCells]
/-- 'clear' of the last cells. -/
theorem stepClear {Q : Exit → Act → World → Prop} (hs : St n D F a) (hO : OwnE w0 w L) {x : Operand} {t E sz b off m c' : Nat} {cur zs : List Value} {L' : List Ent}
    (hx : ev F x = some (.slice (some ⟨b, off, none⟩) (m + 1) c')) (ht : appB P t E sz = true) {z : Value} (hz : (P.info? E).bind (·.zero) = some z) (hzs : Builtin.zeroCells z.cells (m + 1) = ⟨zs⟩)
    (h1 : zs.all (·.oneCell') = true) (hfit : off + zs.length ≤ cur.length) (hu : Repl L [(b, row E cur)] [(b, row E (spl cur off zs))] L')
    (k : ∀ a' w', St n D F a' → OwnE w0 w' L' → wpList P ops Q rest a' w') :
    wpList P ops Q (⟨none, .call ⟨.builtin .clear, #[x], #[t]⟩, ty, pos, aft, none⟩ :: rest) a w := by
  obtain ⟨h2, i, z', h3, h4, h5, h6, h7⟩ := appB_spec ht
  have hgw := hO.has _ (memF hu.mem)
  simp only at hgw
  have hst := run_storeCells_at P b off E zs 0 ⟨cur⟩ w hgw (by simpa using hfit) (by simpa using h1)
  have he : (cur.take off ++ zs ++ cur.drop (off + zs.length)) = spl cur off zs := rfl
  simp only [Nat.add_zero] at hst
  rw [he] at hst
  refine wpList_plain rfl fun K hK => ?_
  have hrun : (execOp a.eval ⟨none, .call ⟨.builtin .clear, #[x], #[t]⟩, ty, pos, aft, none⟩).run P w = .ok (.value (.tuple #[])) (w.setRow b ⟨spl cur off zs⟩) := by
    simp [execOp, resolve, invoke, builtin, Builtin.clear_, hs.eval hx, underlying, program, Sem.run, h2, run_zeroValue hz, hzs, hst]
  unfold Oper.wp
  rw [hrun]
  exact hK _ _ (k a _ hs (hO.replUpd hu rfl rfl rfl (by simp) (setRow_heap w b _ _ E _ hgw) (fun k hk _ => setRow_other w b k _ hk)))
end
/-- A number is taken out of a row. -/
theorem cut_row {cur : List Value} {xs : List Int} {k : Nat} (hk : k < xs.length) (hl : xs.length ≤ cur.length) (h : cur.take xs.length = xs.map I) :
    (spl (spl cur k ((xs.drop (k + 1)).map I)) (xs.length - 1) [.int .i64 0]).take (xs.length - 1) = (xs.eraseIdx k).map I := by
  have hlen : ((xs.drop (k + 1)).map I).length = xs.length - (k + 1) := by simp
  have h1 : k + ((xs.drop (k + 1)).map I).length ≤ cur.length := by omega
  have h2 : xs.length - 1 + [Value.int .i64 0].length ≤ (spl cur k ((xs.drop (k + 1)).map I)).length := by rw [spl_length h1]; simp only [List.length_cons, List.length_nil]; omega
  have hc : ∀ j, j < xs.length → cur[j]? = (xs.map I)[j]? := fun j hj => by
    have := congrArg (fun l : List Value => l[j]?) h
    simp only [List.getElem?_take, if_pos hj] at this; exact this
  have hR : ∀ i, ((xs.eraseIdx k).map I)[i]? = if i < k then (xs.map I)[i]? else (xs.map I)[i + 1]? := fun i => by
    rw [List.getElem?_map, List.getElem?_eraseIdx]
    split <;> rw [List.getElem?_map]
  apply List.ext_getElem?
  intro i
  rw [hR, List.getElem?_take]
  by_cases hi : i < xs.length - 1
  · rw [if_pos hi, spl_get h2, if_pos hi, spl_get h1]
    by_cases hik : i < k
    · rw [if_pos hik, if_pos hik, hc i (by omega)]
    · rw [if_neg hik, if_neg hik, if_pos (by omega), List.getElem?_map, List.getElem?_drop, List.getElem?_map]
      congr 2; omega
  · rw [if_neg hi]
    have h3 : (xs.map I)[i + 1]? = none := by rw [List.getElem?_eq_none]; simp; omega
    split
    · omega
    · exact h3.symm
end Go.E
