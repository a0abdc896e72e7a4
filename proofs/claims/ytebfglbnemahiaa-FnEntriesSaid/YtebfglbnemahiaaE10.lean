/- The engine, part 10: a range over a function, from the caller's side; its memory as entries. -/
import Derived.Test.YtebfglbnemahiaaE9
import Derived.RangeFuncFrom
namespace Go.E
open Go.RowKit
theorem len_le_of_sub {α : Type} [DecidableEq α] : ∀ {l m : List α}, l.Nodup → (∀ x ∈ l, x ∈ m) → l.length ≤ m.length
  | [], _, _, _ => Nat.zero_le _
  | a :: r, m, hn, hs => by
    have hn' := List.nodup_cons.1 hn
    have h1 := len_le_of_sub (l := r) (m := m.erase a) hn'.2 fun x hx => (List.mem_erase_of_ne (fun e => hn'.1 (by rw [← e]; exact hx))).2 (hs x (by simp [hx]))
    have h2 := List.length_erase_of_mem (hs a (by simp))
    have h3 := List.length_pos_of_mem (hs a (by simp))
    simp only [List.length_cons]; omega
def cellsE (e : Ent) : Prop := ∀ p ∈ e, p.2.isCells = true
/-- All that is there and is no entry of e, as one entry. -/
theorem OwnE.full {w0 W : World} {e : Ent} {L : List Ent} (h : OwnE w0 W (e :: L)) : ∃ M : Ent, OwnE w0 W [e, M] ∧ (∀ p ∈ L.flatten, p ∈ M) ∧ W.heap.size ≤ w0.heap.size + (e.length + M.length) ∧
    (∀ k o, W.heap[k]? = some o → w0.heap.size ≤ k → (∀ p ∈ e, p.1 ≠ k) → (k, o) ∈ M) := by
  let ks := (List.range W.heap.size).filter fun k => decide (w0.heap.size ≤ k) && e.all fun p => decide (p.1 ≠ k)
  let g : Nat → Nat × Obj := fun k => (k, (W.heap[k]?).getD default)
  have hks : ∀ k, k ∈ ks ↔ k < W.heap.size ∧ w0.heap.size ≤ k ∧ ∀ p ∈ e, p.1 ≠ k := fun k => by simp [ks]
  have hmem : ∀ k o, W.heap[k]? = some o → w0.heap.size ≤ k → (∀ p ∈ e, p.1 ≠ k) → (k, o) ∈ ks.map g := fun k o hk hn hp =>
    List.mem_map.2 ⟨k, (hks k).2 ⟨(Array.getElem?_eq_some_iff.1 hk).1, hn, hp⟩, by simp [g, hk]⟩
  have hnd : ((ks.map g).map Prod.fst).Nodup := by
    have : (ks.map g).map Prod.fst = ks := by simp [g, List.map_map, Function.comp_def]
    rw [this]; exact List.nodup_range.filter _
  have hh := h.nodup
  simp only [List.flatten_cons, List.map_append] at hh
  have hh := List.nodup_append.1 hh
  have hkv : ∀ p ∈ ks.map g, p.1 ∈ ks ∧ W.heap[p.1]? = some p.2 := fun p hp => by
    obtain ⟨k, hk, rfl⟩ := List.mem_map.1 hp
    have hlt := ((hks k).1 hk).1
    exact ⟨hk, by simp [g, hlt]⟩
  refine ⟨ks.map g, ⟨h.below, ?_, ?_, ?_⟩, fun p hp => ?_, ?_, hmem⟩
  · intro p hp
    simp only [List.flatten_cons, List.flatten_nil, List.append_nil, List.mem_append] at hp
    rcases hp with hp | hp
    · exact h.has p (by simp [hp])
    · exact (hkv p hp).2
  · simp only [List.flatten_cons, List.flatten_nil, List.append_nil, List.map_append]
    refine List.nodup_append.2 ⟨hh.1, hnd, ?_⟩
    intro a ha b hb hab
    obtain ⟨p, hp, rfl⟩ := List.mem_map.1 ha
    obtain ⟨q, hq, rfl⟩ := List.mem_map.1 hb
    exact ((hks _).1 (hkv q hq).1).2.2 p hp hab
  · intro p hp
    simp only [List.flatten_cons, List.flatten_nil, List.append_nil, List.mem_append] at hp
    rcases hp with hp | hp
    · exact h.new p (by simp [hp])
    · exact ((hks _).1 (hkv p hp).1).2.1
  · have h1 := h.has p (by simp only [List.flatten_cons, List.mem_append]; exact .inr hp)
    exact hmem p.1 p.2 h1 (h.new p (by simp only [List.flatten_cons, List.mem_append]; exact .inr hp)) fun q hq hqp => hh.2.2 _ (List.mem_map_of_mem hq) _ (List.mem_map_of_mem hp) hqp
  · have h2 : ∀ x ∈ List.range W.heap.size, x ∈ List.range w0.heap.size ++ (e.map Prod.fst ++ ks) := fun k hk => by
      simp only [List.mem_append, List.mem_range, List.mem_map] at *
      by_cases h3 : k < w0.heap.size
      · exact .inl h3
      · by_cases h4 : ∃ p ∈ e, p.1 = k
        · exact .inr (.inl h4)
        · exact .inr (.inr ((hks k).2 ⟨hk, by omega, fun p hp hpk => h4 ⟨p, hp, hpk⟩⟩))
    have := len_le_of_sub List.nodup_range h2
    simpa using this
/-- What a round leaves as it was. -/
theorem OwnE.others {w0 W W' : World} {e M : Ent} {L' : List Ent} (h : OwnE w0 W [e, M]) (hc : cellsE e) (hs : W.heap.size ≤ w0.heap.size + (e.length + M.length))
    (hM : ∀ k o, W.heap[k]? = some o → w0.heap.size ≤ k → (∀ p ∈ e, p.1 ≠ k) → (k, o) ∈ M) (h' : OwnE w0 W' (M :: L')) (hn : e.length ≤ L'.flatten.length) : KeepsOthers W W' := by
  refine ⟨?_, fun k o hk ho => ?_⟩
  · have hnd := h'.nodup
    have h2 : ∀ x ∈ List.range w0.heap.size ++ ((M :: L').flatten.map Prod.fst), x ∈ List.range W'.heap.size := fun x hx => by
      simp only [List.mem_append, List.mem_range] at hx ⊢
      rcases hx with hx | hx
      · have := h'.below.size; omega
      · obtain ⟨p, hp, rfl⟩ := List.mem_map.1 hx
        exact h'.lt (o := p.2) hp
    have h3 : (List.range w0.heap.size ++ ((M :: L').flatten.map Prod.fst)).Nodup := by
      refine List.nodup_append.2 ⟨List.nodup_range, hnd, ?_⟩
      intro a ha b hb hab
      obtain ⟨p, hp, rfl⟩ := List.mem_map.1 hb
      have := h'.new p hp
      simp at ha; omega
    have := len_le_of_sub h3 h2
    simp only [List.length_append, List.length_range, List.length_map, List.flatten_cons] at this
    omega
  · by_cases h0 : k < w0.heap.size
    · rw [h'.below.block k h0, ← h.below.block k h0]; exact hk
    · refine h'.has (k, o) ?_
      simp only [List.flatten_cons, List.mem_append]
      refine .inl (hM k o hk (by omega) fun p hp hpk => ?_)
      have h1 := h.has p (by simp [hp])
      rw [hpk, hk] at h1
      have h2 := hc p hp
      simp at h1
      rw [← h1, ho] at h2; cases h2
/-- Entries abide a turn of a block that is none of theirs. -/
theorem OwnE.grown {w0 W W' : World} {L : List Ent} {row : Option Nat} (h : OwnE w0 W L) (hg : W.grownBy W' row) (hr : ∀ r, row = some r → w0.heap.size ≤ r ∧ ∀ p ∈ L.flatten, p.1 ≠ r) : OwnE w0 W' L :=
  ⟨h.below.grown hg h.below.size (fun k e => (hr k e).1), fun p hp => (hg.block p.1 (h.lt (o := p.2) hp) (fun e => (hr _ e.symm).2 p hp rfl)).trans (h.has p hp), h.nodup, h.new⟩
theorem ownFrom_E {β : Type} {w0 : World} {L : List Ent} {B : Nat} (hB : w0.heap.size ≤ B) (hL : ∀ p ∈ L.flatten, p.1 < B) (Φ : β → Ent → Prop) (hc : ∀ s e, Φ s e → cellsE e) : OwnFrom B (fun s W => ∃ e, Φ s e ∧ OwnE w0 W (e :: L)) := by
  rintro s W W' row ⟨e, hΦ, hO⟩ hg hr
  refine ⟨e, hΦ, hO.grown hg fun r hrr => ⟨by have := (hr r hrr).1; omega, fun p hp hpr => ?_⟩⟩
  obtain ⟨h1, o, ho, hno⟩ := hr r hrr
  simp only [List.flatten_cons, List.mem_append] at hp
  rcases hp with hp | hp
  · have h2 := hO.has p (by simp [hp])
    rw [hpr, ho] at h2
    have h3 := hc _ _ hΦ p hp
    simp at h2; rw [← h2, hno] at h3; cases h3
  · have := hL p hp; omega
/-- What an iterator wants kept. -/
def keepP (es : Ent) (W W' : World) : Prop := ∀ p ∈ es, W.heap[p.1]? = some p.2 → W'.heap[p.1]? = some p.2
/-- What a round's body owes: behind it, entry e has turned into others, of as many blocks at least; the rest lies as it lay. -/
def roundE {β : Type} (w0 : World) (Φ : β → Ent → Prop) (M : Ent) (m : Nat) (s : β) : Exit → Act → World → Prop
  | .normal, _, W' => ∃ e' t, Φ s e' ∧ OwnE w0 W' [t, e', M] ∧ m ≤ t.length + e'.length
  | _, _, _ => False
section
variable {P : Program} {α : Type} {n : Nat} {D : List Deferred} {F : Fr} {a : Act} {w w0 : World} {L : List Ent} {Q : Exit → Act → World → Prop}
theorem rangeE {g : Operand} {ps : Array Tmp} {assign body : Code} {gf : Nat} {lb : Array Value} (hg : a.eval g = .func (.func gf) #[] lb) (hf : ((P.funcs[gf]?).any fun fn => fn.body.isSome && fn.name != "runtime.NumGoroutine") = true)
    {encs : α → Array Value} {es : Ent} {S : List α → Prop} {N : Nat} (hseq : SeqStopsK (Wd none) 4 P gf lb encs (keepP es) S (fun _ => True) N w) (hes : cellsE es)
    (hps : ∀ x, (encs x).size = ps.size) (Φ : List α → Ent → Prop) (hc : ∀ s e, Φ s e → cellsE e) {e : Ent} (h0 : Φ [] e) (hO : OwnE w0 w (e :: L)) (hesL : ∀ p ∈ es, p ∈ L.flatten) (a₁ : α → Act)
    (hassign : ∀ (l : Nat) (x : α) (W : World) (K : Act → World → Prop), K (a₁ x) W →
      assign.wpIn (Wd (some l)) 3 P (Exit.then K (fun _ _ _ => False)) { tmps := (ps.zip (encs x)).foldl (fun t (p, v) => t.setIfInBounds p v) a.tmps, defers := [] } W)
    (hbody : ∀ (l : Nat) (pre : List α) (x : α) (W : World) (e M : Ent), Φ pre e → OwnE w0 W [e, M] → (∀ p ∈ L.flatten, p ∈ M) → pre.length < N → body.wpIn (Wd (some l)) 3 P (roundE w0 Φ M e.length (pre ++ [x])) (a₁ x) W)
    (hdone : ∀ (Db : Nat) (xs : List α) (W : World) (e : Ent), S xs → Φ xs e → OwnE w0 W ([(Db, .deferred (some []))] :: e :: L) → Q .normal { a with defers := { target := .collected Db, args := #[] } :: a.defers } W) :
    (Code.rangeFunc g ps assign body).wp P Q a w := by
  refine (wpIn_wide (n := 5)).1 ?_
  have hLlt : ∀ p ∈ L.flatten, p.1 < w.heap.size := fun p hp => hO.lt (o := p.2) (by simp only [List.flatten_cons, List.mem_append]; exact .inr hp)
  have hB : w0.heap.size ≤ w.heap.size := hO.below.size
  have eg : ∀ args w, (callFunc gf args).run P w = .ok (.enter gf args) w := fun args w => by
    rw [Option.any_eq_true] at hf
    obtain ⟨fn, hfn, hb⟩ := hf
    simp only [Bool.and_eq_true, bne_iff_ne, ne_eq] at hb
    obtain ⟨c, hc⟩ := Option.isSome_iff_exists.1 hb.1
    simp [callFunc, program, Sem.run, hfn, hb.2, hc]
  refine wpIn_rangeFunc_ownF (F := Wd none) (n := 5) (α := α) (N := N) (Sp := fun _ => True) (w0 := w) rfl (by decide) hg trivial eg hseq (fun h k p hp hA => k p hp (h p hp hA)) ?_ (Below.refl _ _) hps
    (fun s W => ∃ e, Φ s e ∧ OwnE w0 W (e :: L)) (fun _ _ _ => False) (ownFrom_E hB hLlt Φ hc) (fun _ _ _ _ _ h _ _ => h) ⟨e, h0, hO⟩ a₁ (fun l x W K hK => hassign l x W K hK) ?_ ?_ ?_
  · intro W l o o' hl ho hno _ p hp hA
    rw [World.putObj_heap_other (fun e => by
      rw [e, ho] at hA
      have := hes p hp
      simp at hA; rw [← hA, hno] at this; cases this)]
    exact hA
  · rintro l pre x W ⟨e, hΦ, hOW⟩ hlt
    obtain ⟨M, hM1, hM2, hM3, hM4⟩ := hOW.full
    refine Code.wpIn_mono (fun ex a' W' hq => ?_) (hbody l pre x W e M hΦ hM1 hM2 hlt)
    cases ex <;> try exact hq.elim
    obtain ⟨e', t, hΦ', hO', hlen⟩ := hq
    have hO2 : OwnE w0 W' [M, t, e'] := hO'.perm (by
      refine List.Perm.trans (l₂ := [t, M, e']) (.cons _ (.swap _ _ _)) (.swap _ _ _))
    refine ⟨hM1.others (hc _ _ hΦ) hM3 hM4 hO2 (by simpa using hlen), ?_, e', hΦ', ?_⟩
    · intro p hp hA
      exact hO2.has p (by simp [hM2 p (hesL p hp)])
    · have hO3 : OwnE w0 W' [e', M] := hO'.drop
      refine ⟨hO3.below, fun p hp => ?_, ?_, fun p hp => ?_⟩
      · simp only [List.flatten_cons, List.mem_append] at hp
        rcases hp with hp | hp
        · exact hO3.has p (by simp [hp])
        · exact hO3.has p (by simp [hM2 p hp])
      · have h1 := hO3.nodup
        have h2 := hOW.nodup
        simp only [List.flatten_cons, List.flatten_nil, List.append_nil, List.map_append] at h1 h2 ⊢
        have h1' := List.nodup_append.1 h1
        refine List.nodup_append.2 ⟨h1'.1, (List.nodup_append.1 h2).2.1, fun a ha b hb => h1'.2.2 a ha b ?_⟩
        obtain ⟨p, hp, rfl⟩ := List.mem_map.1 hb
        exact List.mem_map_of_mem (hM2 p hp)
      · simp only [List.flatten_cons, List.mem_append] at hp
        rcases hp with hp | hp
        · exact hO3.new p (by simp [hp])
        · exact hOW.new p (by simp only [List.flatten_cons, List.mem_append]; exact .inr hp)
  · rintro Db xs W hDb hS ⟨e, hΦ, hOW⟩ hD
    have hne : ∀ p ∈ (e :: L).flatten, p.1 ≠ Db := fun p hp hpD => ?_
    · refine hdone Db xs W e hS hΦ ⟨hOW.below, fun p hp => ?_, ?_, fun p hp => ?_⟩
      · simp only [List.flatten_cons, List.singleton_append, List.mem_cons] at hp
        rcases hp with rfl | hp
        · exact hD
        · exact hOW.has p hp
      · simp only [List.flatten_cons, List.singleton_append, List.map_cons]
        refine List.nodup_cons.2 ⟨fun hm => ?_, hOW.nodup⟩
        obtain ⟨p, hp, hpD⟩ := List.mem_map.1 hm
        exact hne p hp hpD
      · simp only [List.flatten_cons, List.singleton_append, List.mem_cons] at hp
        rcases hp with rfl | hp
        · exact Nat.le_trans hB hDb
        · exact hOW.new p hp
    simp only [List.flatten_cons, List.mem_append] at hp
    rcases hp with hp | hp
    · have h1 := hOW.has p (by simp [hp])
      rw [hpD, hD] at h1
      have h2 := hc _ _ hΦ p hp
      simp at h1; rw [← h1] at h2; simp [Obj.isCells] at h2
    · have := hLlt p hp; omega
  · rintro Db c pre W hDb _ h _
    exact h.elim
/-! ### A function that ranges over a function -/
theorem enterM {f : FuncId} {fn : Func} {c : Code} {R : Ending → World → Prop} {n : Nat} {args : List Value} (hf : P.funcs[f]? = some fn) (hb : fn.body = some c) (hn : fn.ntmps = n) (hl : Nat.ble args.length n = true)
    (h : ∀ a, St n [] (argF 0 args) a → c.wp P (bodyPostM (Wd none) 5 P fn R) a w) : Calls P f ⟨args⟩ w R :=
  (callsIn_wide (n := 5)).1 (callsIn_of_wp_marks (F := Wd none) hf hb trivial (wpIn_wide.2 (h _ (by rw [hn]; exact St.enter args n (Nat.le_of_ble_eq_true hl)))))
/-- The marks that are among a frame's deferred calls, and the entries that are none of theirs. -/
inductive Marks (w0 : World) (L : List Ent) : List Deferred → World → Prop
  | nil {w : World} : OwnE w0 w L → Marks w0 L [] w
  | cons {w : World} {Db : Nat} {ds : List Deferred} : w.heap[Db]? = some (.deferred (some [])) → Marks w0 L ds (w.putObj Db (.deferred none)) → Marks w0 L ({ target := .collected Db, args := #[] } :: ds) w
theorem Marks.one {Db : Nat} (hO : OwnE w0 w L) (hD : w.heap[Db]? = some (.deferred (some []))) (hB : w0.heap.size ≤ Db) (hne : ∀ p ∈ L.flatten, p.1 ≠ Db) : Marks w0 L [{ target := .collected Db, args := #[] }] w :=
  .cons hD (.nil (hO.grown (grownBy_putObj' _ _ _) fun r e => by cases e; exact ⟨hB, hne⟩))
theorem Marks.ofE {Db : Nat} (hO : OwnE w0 w ([(Db, .deferred (some []))] :: L)) : Marks w0 L [{ target := .collected Db, args := #[] }] w := by
  refine .one hO.drop (hO.has (Db, _) (by simp)) (hO.new (Db, .deferred (some [])) (by simp)) fun p hp e => ?_
  have := hO.nodup
  simp only [List.flatten_cons, List.singleton_append, List.map_cons] at this
  exact (List.nodup_cons.1 this).1 (List.mem_map.2 ⟨p, hp, e⟩)
theorem Marks.leaves {fn : Func} {R : Ending → World → Prop} {tmps : Array Value} {ds : List Deferred} (h : Marks w0 L ds w) (hr : ∀ w, OwnE w0 w L → ∃ v, (results fn tmps).run P w = .ok v w ∧ R (.returned v) w) :
    LeavesInM (Wd none) 5 P fn tmps R ds .returning w := by
  induction h with
  | nil hO => exact hr _ hO
  | cons hD _ ih => exact ⟨by simp, .inl ⟨_, _, rfl, run_takeDeferred hD, ih⟩⟩
variable {fn : Func} {R : Ending → World → Prop}
theorem retM {D : List Deferred} (hs : St n D F a) (hm : Marks w0 L D w) {r s : ResultVar} {rs : List ResultVar} {v u : Value} {vs : List Value} (hr : fn.results = ⟨r :: s :: rs⟩) (h : ResIs P F L (r :: s :: rs) (v :: u :: vs)) (hR : ∀ w, OwnE w0 w L → R (.returned (.tuple ⟨v :: u :: vs⟩)) w) : bodyPostM (Wd none) 5 P fn R .ret a w := by
  show LeavesInM _ _ _ _ _ _ a.defers _ _
  rw [hs.defs]
  refine hm.leaves fun w hO => ⟨_, run_results hs hO hr h, ?_⟩
  simpa using hR w hO
theorem retM1 {D : List Deferred} (hs : St n D F a) (hm : Marks w0 L D w) {r : ResultVar} {v : Value} (hr : fn.results = ⟨[r]⟩) (h : ResIs P F L [r] [v]) (hR : ∀ w, OwnE w0 w L → R (.returned v) w) : bodyPostM (Wd none) 5 P fn R .ret a w := by
  show LeavesInM _ _ _ _ _ _ a.defers _ _
  rw [hs.defs]
  refine hm.leaves fun w hO => ⟨_, run_results hs hO hr h, ?_⟩
  simpa using hR w hO
/-- A region of a round's body. -/
theorem regionR {id m lo : Nat} {l : List Oper} (h : wpListIn (Wd (some lo)) m P l.toArray Q l a w) : (Code.region id l.toArray false).wpIn (Wd (some lo)) m P Q a w := wpIn_region_lit h
theorem seqI {F : Fence} {m : Nat} {x y : Code} (h : x.wpIn F m P (Exit.then (y.wpIn F m P Q) Q) a w) : (Code.seq x y).wpIn F m P Q a w := wpIn_seq h
theorem blockI {F : Fence} {m id : Nat} {c : Code} (h : c.wpIn F m P (Exit.inBlock id Q) a w) : (Code.block id c).wpIn F m P Q a w := wpIn_block h
theorem skipI {F : Fence} {m : Nat} (h : Q .normal a w) : Code.skip.wpIn F m P Q a w := wpIn_skip h
theorem condI_t {G : Fence} {m : Nat} (hs : St n D F a) {c : Operand} {x y : Code} {b : Bool} (hc : ev F c = some (.bool b)) (hb : b = true) (h : x.wpIn G m P Q a w) : (Code.cond c x y).wpIn G m P Q a w :=
  wpIn_cond (t := true) (by rw [hs.eval hc, hb]) h
theorem condI_f {G : Fence} {m : Nat} (hs : St n D F a) {c : Operand} {x y : Code} {b : Bool} (hc : ev F c = some (.bool b)) (hb : b = false) (h : y.wpIn G m P Q a w) : (Code.cond c x y).wpIn G m P Q a w :=
  wpIn_cond (t := false) (by rw [hs.eval hc, hb]) h
theorem condI_s {G : Fence} {m : Nat} (hs : St n D F a) {c : Operand} {x y : Code} {b : Bool} (hc : ev F c = some (.bool b)) (ht : b = true → x.wpIn G m P Q a w) (hf : b = false → y.wpIn G m P Q a w) : (Code.cond c x y).wpIn G m P Q a w := by
  cases b with
  | true => exact condI_t hs hc rfl (ht rfl)
  | false => exact condI_f hs hc rfl (hf rfl)
/-- The variables of a round. -/
theorem assign1 {lo m id d t ty : Nat} {pos : String} {aft : Array Edge} {K : Act → World → Prop} {Q' : Exit → Act → World → Prop} {v : Value} (he : a.eval (.tmp t) = v) (hK : K (a.put (some d) v) w) :
    (Code.region id #[⟨some d, .assign (.tmp t), ty, pos, aft, none⟩] false).wpIn (Wd (some lo)) m P (Exit.then K Q') a w := by
  refine wpIn_region_lit (l := [⟨some d, .assign (.tmp t), ty, pos, aft, none⟩]) ?_
  refine lin rfl ?_
  refine wpList_plain rfl fun K' hK' => ?_
  unfold Oper.wp
  have : (execOp a.eval ⟨some d, .assign (.tmp t), ty, pos, aft, none⟩).run P w = .ok (.value v) w := by simp [execOp, he]
  rw [this]
  exact hK' _ _ (endE (endLI hK))
theorem assign2 {lo m id d t ty d2 t2 ty2 : Nat} {pos pos2 : String} {aft aft2 : Array Edge} {K : Act → World → Prop} {Q' : Exit → Act → World → Prop} {v v2 : Value} (he : a.eval (.tmp t) = v) (he2 : (a.put (some d) v).eval (.tmp t2) = v2) (hK : K ((a.put (some d) v).put (some d2) v2) w) :
    (Code.region id #[⟨some d, .assign (.tmp t), ty, pos, aft, none⟩, ⟨some d2, .assign (.tmp t2), ty2, pos2, aft2, none⟩] false).wpIn (Wd (some lo)) m P (Exit.then K Q') a w := by
  refine wpIn_region_lit (l := [⟨some d, .assign (.tmp t), ty, pos, aft, none⟩, ⟨some d2, .assign (.tmp t2), ty2, pos2, aft2, none⟩]) ?_
  refine lin rfl ?_
  refine wpList_plain rfl fun K' hK' => ?_
  unfold Oper.wp
  have : (execOp a.eval ⟨some d, .assign (.tmp t), ty, pos, aft, none⟩).run P w = .ok (.value v) w := by simp [execOp, he]
  rw [this]
  refine hK' _ _ (endE ?_)
  refine lin rfl ?_
  refine wpList_plain rfl fun K' hK' => ?_
  unfold Oper.wp
  have : (execOp (a.put (some d) v).eval ⟨some d2, .assign (.tmp t2), ty2, pos2, aft2, none⟩).run P w = .ok (.value v2) w := by simp [execOp, he2]
  rw [this]
  exact hK' _ _ (endE (endLI hK))
theorem St.pair (hs : St n D F a) {p1 p2 : Nat} (h1 : Nat.blt p1 n = true) (h2 : Nat.blt p2 n = true) (v1 v2 : Value) :
    St n [] ((p2, v2) :: (p1, v1) :: F) { tmps := (#[p1, p2].zip #[v1, v2]).foldl (fun t (p, v) => t.setIfInBounds p v) a.tmps, defers := [] } := by
  have h0 : St n [] F { tmps := a.tmps, defers := [] } := ⟨hs.size, rfl, hs.has⟩
  have := (h0.put (d := p1) v1 (by simpa using h1)).put (d := p2) v2 (by simpa using h2)
  simpa [Act.put] using this
theorem yl_makeFuncL {C : World → Prop} (hs : St n D F a) {f : FuncId} {cs : List Operand} {vs : List Value} {ty : TypeId} (hc : evL F cs = some vs) : Yl P C a (.makeFunc (.func f) #[] ⟨cs⟩) ty (.func (.func f) #[] ⟨vs⟩) :=
  yl_makeFunc hs (by simp [hs.evalL hc])
theorem St.rounds (hs : St n D F a) {p1 p2 d : Nat} (h1 : Nat.blt p1 n = true) (h2 : Nat.blt p2 n = true) (hd : Nat.blt d n = true) (v1 v2 u : α → Value) :
    ∃ a₁ : α → Act, (∀ x, a₁ x = Act.put { tmps := (#[p1, p2].zip #[v1 x, v2 x]).foldl (fun t (p, v) => t.setIfInBounds p v) a.tmps, defers := [] } (some d) (u x)) ∧ ∀ x, St n [] ((d, u x) :: (p2, v2 x) :: (p1, v1 x) :: F) (a₁ x) :=
  ⟨_, fun _ => rfl, fun x => (hs.pair h1 h2 (v1 x) (v2 x)).put _ (by simpa using hd)⟩
theorem OwnE.split2 {d e e' : Ent} (h : OwnE w0 w (d :: (e ++ e') :: L)) : OwnE w0 w (d :: e :: e' :: L) := by
  obtain ⟨h1, h2, h3, h4⟩ := h
  exact ⟨h1, by simpa [or_assoc] using h2, by simpa using h3, by simpa [or_assoc] using h4⟩
theorem OwnE.rot22 {A B C E : Ent} (h : OwnE w0 w (A :: B :: C :: E :: L)) : OwnE w0 w (C :: E :: A :: B :: L) :=
  h.perm ((List.perm_append_comm (l₁ := [A, B]) (l₂ := [C, E])).append_right L)
theorem OwnE.join2 {d e e' : Ent} (h : OwnE w0 w (d :: e :: e' :: L)) : OwnE w0 w (d :: (e ++ e') :: L) := by
  obtain ⟨h1, h2, h3, h4⟩ := h
  exact ⟨h1, by simpa [or_assoc] using h2, by simpa using h3, by simpa [or_assoc] using h4⟩
theorem OwnE.rot3 {A B C : Ent} (h : OwnE w0 w (A :: B :: C :: L)) : OwnE w0 w (A :: B :: C :: L) := h
theorem Mu.cells {β : Type} {enc : β → Value} {E sz : Nat} {xs : List β} {v : Value} {e : Ent} (h : Mu enc E sz xs v e) : cellsE e := by
  rcases h.2 with ⟨_, _, rfl⟩ | ⟨g, cap, cur, _, rfl, _⟩
  · intro p hp; cases hp
  · intro p hp; simp at hp; subst hp; rfl
theorem Mu.le1 {β : Type} {enc : β → Value} {E sz : Nat} {xs : List β} {v : Value} {e : Ent} (h : Mu enc E sz xs v e) : e.length ≤ 1 := by
  rcases h.2 with ⟨_, _, rfl⟩ | ⟨g, cap, cur, _, rfl, _⟩ <;> simp
theorem St.mark (hs : St n D F a) (d : Deferred) : St n (d :: D) F { a with defers := d :: a.defers } := ⟨hs.size, by simp [hs.defs], hs.has⟩
end
end Go.E
