/- The engine, part 1: a frame as a list of slots, memory as a list of entries, and one lemma an operation. -/
import Derived.Tactics
import Derived.Deep.Quiet
import Derived.KernelRfl
import Derived.Below
import Derived.WalkKit
namespace Go.E
open Go.RowKit

/-! ### Slots -/
abbrev Fr := List (Nat × Value)
def look : Fr → Nat → Option Value
  | [], _ => none
  | (k, v) :: r, t => bif Nat.beq k t then some v else look r t
/-- The frame `a` has `n` slots, the deferred calls `D`, and holds what `F` says. -/
structure St (n : Nat) (D : List Deferred) (F : Fr) (a : Act) : Prop where
  size : a.tmps.size = n
  defs : a.defers = D
  has : ∀ t v, look F t = some v → a.tmps[t]? = some v
def ev (F : Fr) : Operand → Option Value
  | .tmp t => look F t
  | .const v => some v
  | .global g => some (.pointer (some ⟨g, 0, none⟩))
  | .func f => some (.func (.func f) #[] #[])
section
variable {n : Nat} {D : List Deferred} {F : Fr} {a : Act}
theorem St.eval (h : St n D F a) {x : Operand} {v : Value} (hx : ev F x = some v) : a.eval x = v := by
  cases x with
  | tmp t => simp only [ev] at hx; simp [Act.eval, h.has _ _ hx]
  | const u => simpa [ev, Act.eval] using hx
  | global g => simpa [ev, Act.eval] using hx
  | func f => simpa [ev, Act.eval] using hx
theorem look_cons (k : Nat) (v : Value) (r : Fr) (t : Nat) : look ((k, v) :: r) t = if k = t then some v else look r t := by
  simp only [look]
  by_cases h : k = t
  · subst h; simp
  · have : Nat.beq k t = false := by
      cases hb : Nat.beq k t with
      | false => rfl
      | true => exact absurd (Nat.eq_of_beq_eq_true hb) h
    simp [this, h]
theorem St.put (h : St n D F a) {d : Nat} (v : Value) (hd : d < n) : St n D ((d, v) :: F) (a.put (some d) v) where
  size := by simp [Act.put, h.size]
  defs := h.defs
  has t u ht := by
    rw [look_cons] at ht
    by_cases e : d = t
    · subst e; simp at ht; subst ht; simp [Act.put, h.size, hd]
    · rw [if_neg e] at ht; simp [Act.put, Array.getElem?_setIfInBounds_ne e, h.has _ _ ht]
/-- Fewer facts, or the same in another order. -/
theorem St.sub {F' : Fr} (h : St n D F a) (hs : ∀ t v, look F' t = some v → look F t = some v) : St n D F' a := ⟨h.size, h.defs, fun t v ht => h.has t v (hs t v ht)⟩
def subB : Fr → Fr → Prop
  | [], _ => True
  | (k, v) :: r, F => look F k = some v ∧ subB r F
theorem subB_spec : ∀ (F' F : Fr), subB F' F → ∀ t v, look F' t = some v → look F t = some v
  | [], _, _, t, v, h => by simp [look] at h
  | (k, u) :: r, F, hs, t, v, h => by
    rw [look_cons] at h
    by_cases e : k = t
    · subst e; rw [if_pos rfl] at h; rw [← h]; exact hs.1
    · rw [if_neg e] at h; exact subB_spec r F hs.2 t v h
theorem St.weak {F' : Fr} (h : St n D F a) (hs : subB F' F) : St n D F' a := h.sub (subB_spec _ _ hs)
/-- The frame of a call that begins. -/
def argF : Nat → List Value → Fr
  | _, [] => []
  | i, v :: r => (i, v) :: argF (i + 1) r
theorem look_argF : ∀ (l : List Value) (i t : Nat) (v : Value), look (argF i l) t = some v → i ≤ t ∧ l[t - i]? = some v
  | [], _, _, _, h => by simp [argF, look] at h
  | u :: r, i, t, v, h => by
    rw [argF, look_cons] at h
    by_cases e : i = t
    · subst e; simp at h; simp [h]
    · rw [if_neg e] at h
      obtain ⟨h1, h2⟩ := look_argF r (i + 1) t v h
      refine ⟨by omega, ?_⟩
      obtain ⟨j, hj⟩ : ∃ j, t - i = j + 1 := ⟨t - i - 1, by omega⟩
      rw [hj]; simp
      rw [show t - (i + 1) = j by omega] at h2; exact h2
theorem St.enter (l : List Value) (m : Nat) (hm : l.length ≤ m) : St m [] (argF 0 l) { tmps := l.toArray ++ Array.replicate (m - l.toArray.size) undef, defers := [] } where
  size := by simp; omega
  defs := rfl
  has t v h := by
    obtain ⟨_, h2⟩ := look_argF l 0 t v h
    have ht : t < l.length := by
      rcases Nat.lt_or_ge t l.length with h' | h'
      · exact h'
      · simp [List.getElem?_eq_none h'] at h2
    have h2' : l[t]? = some v := by simpa using h2
    rw [Array.getElem?_append_left (by simpa using ht)]
    simpa using h2'
end

/-! ### Memory -/
/-- A block of plain cells. -/
abbrev row (T : TypeId) (cs : List Value) : Obj := .cells ⟨cs⟩ T (0, 0)
abbrev Ent := List (Nat × Obj)
structure OwnE (w0 w : World) (L : List Ent) : Prop where
  below : Below w0.heap.size w0 w
  has : ∀ p ∈ L.flatten, w.heap[p.1]? = some p.2
  nodup : (L.flatten.map Prod.fst).Nodup
  new : ∀ p ∈ L.flatten, w0.heap.size ≤ p.1
/-- A part of memory that reads as it does in every world that `L` describes. -/
def Val (w0 : World) (L : List Ent) (H : Nat → Obj → Prop) : Prop := ∀ w, OwnE w0 w L → ∀ b o, H b o → w.heap[b]? = some o
def inE (e : Ent) : Nat → Obj → Prop := fun b o => (b, o) ∈ e
def extH (w0 : World) : Nat → Obj → Prop := fun b o => w0.heap[b]? = some o
theorem Val.ext (w0 : World) (L : List Ent) : Val w0 L (extH w0) := fun w hO b o h => by
  have hb : b < w0.heap.size := by
    rcases Nat.lt_or_ge b w0.heap.size with h' | h'
    · exact h'
    · simp [extH, Array.getElem?_eq_none h'] at h
  rw [hO.below.block b hb]; exact h
theorem Val.ent {w0 : World} {L : List Ent} {e : Ent} (h : e ∈ L) : Val w0 L (inE e) := fun _ hO b o hb => hO.has (b, o) (List.mem_flatten.2 ⟨e, h, hb⟩)
theorem OwnE.start (w : World) : OwnE w w [] := ⟨Below.refl _ _, by simp, by simp, by simp⟩
theorem OwnE.perm {w0 w : World} {L L' : List Ent} (h : OwnE w0 w L) (hp : L.Perm L') : OwnE w0 w L' := by
  have hf : L.flatten.Perm L'.flatten := hp.flatten
  exact ⟨h.below, fun p hp' => h.has p (hf.mem_iff.2 hp'), (hf.map Prod.fst).nodup_iff.1 h.nodup, fun p hp' => h.new p (hf.mem_iff.2 hp')⟩
/-- Entries that are no longer looked at. -/
theorem OwnE.drop {w0 w : World} {L : List Ent} {e : Ent} (h : OwnE w0 w (e :: L)) : OwnE w0 w L := by
  obtain ⟨h1, h2, h3, h4⟩ := h
  simp only [List.flatten_cons, List.mem_append, List.map_append] at h2 h3 h4
  exact ⟨h1, fun p hp => h2 p (.inr hp), (List.nodup_append.1 h3).2.1, fun p hp => h4 p (.inr hp)⟩
theorem sub_flatten {L L' : List Ent} (hs : L'.Sublist L) : L'.flatten.Sublist L.flatten := by
  induction hs with
  | slnil => exact .slnil
  | cons e _ ih => rw [List.flatten_cons]; exact ih.trans (List.sublist_append_right _ _)
  | cons_cons e _ ih => rw [List.flatten_cons, List.flatten_cons]; exact (List.Sublist.refl e).append ih
theorem OwnE.sub {w0 w : World} {L L' : List Ent} (h : OwnE w0 w L) (hs : L'.Sublist L) : OwnE w0 w L' := by
  have hf := sub_flatten hs
  exact ⟨h.below, fun p hp' => h.has p (hf.subset hp'), (hf.map Prod.fst).nodup h.nodup, fun p hp' => h.new p (hf.subset hp')⟩
theorem Val.sub {w0 : World} {L L' : List Ent} {H : Nat → Obj → Prop} (h : Val w0 L H) (hs : L.Sublist L') : Val w0 L' H := fun w hO => h w (hO.sub hs)
/-- Two entries as one. -/
theorem OwnE.join {w0 w : World} {L : List Ent} {e e' : Ent} (h : OwnE w0 w (e :: e' :: L)) : OwnE w0 w ((e ++ e') :: L) := by
  obtain ⟨h1, h2, h3, h4⟩ := h
  exact ⟨h1, by simpa [or_assoc] using h2, by simpa using h3, by simpa [or_assoc] using h4⟩
theorem OwnE.split {w0 w : World} {L : List Ent} {e e' : Ent} (h : OwnE w0 w ((e ++ e') :: L)) : OwnE w0 w (e :: e' :: L) := by
  obtain ⟨h1, h2, h3, h4⟩ := h
  exact ⟨h1, by simpa [or_assoc] using h2, by simpa using h3, by simpa [or_assoc] using h4⟩
theorem OwnE.swap {w0 w : World} {L : List Ent} {e e' : Ent} (h : OwnE w0 w (e :: e' :: L)) : OwnE w0 w (e' :: e :: L) := h.perm (.swap _ _ _)
theorem OwnE.nilE {w0 w : World} {L : List Ent} (h : OwnE w0 w L) : OwnE w0 w ([] :: L) := ⟨h.below, by simpa using h.has, by simpa using h.nodup, by simpa using h.new⟩
theorem OwnE.lt {w0 w : World} {L : List Ent} (h : OwnE w0 w L) {b : Nat} {o : Obj} (hm : (b, o) ∈ L.flatten) : b < w.heap.size := by
  have := h.has _ hm
  rcases Nat.lt_or_ge b w.heap.size with h' | h'
  · exact h'
  · simp [Array.getElem?_eq_none h'] at this
/-- A new block. -/
theorem OwnE.alloc {w0 w : World} {L : List Ent} (h : OwnE w0 w L) (o : Obj) : OwnE w0 (w.alloc o) ([(w.heap.size, o)] :: L) where
  below := h.below.alloc h.below.size _
  has p hp := by
    simp only [List.flatten_cons, List.mem_append, List.mem_singleton] at hp
    rcases hp with rfl | hp
    · show (w.heap.push o)[w.heap.size]? = _
      simp
    · rw [Below.heap_alloc _ _ _ (h.lt (b := p.1) (o := p.2) hp)]; exact h.has p hp
  nodup := by
    simp only [List.flatten_cons, List.map_append, List.map_cons, List.map_nil]
    refine List.nodup_append.2 ⟨by simp, h.nodup, ?_⟩
    intro x hx y hy hxy
    simp at hx
    obtain ⟨p, hp, rfl⟩ := List.mem_map.1 hy
    have := h.lt (b := p.1) (o := p.2) hp
    omega
  new p hp := by
    simp only [List.flatten_cons, List.mem_append, List.mem_singleton] at hp
    rcases hp with rfl | hp
    · exact h.below.size
    · exact h.new p hp
/-- A draw changes nothing. -/
theorem OwnE.drew {w0 w : World} {L : List Ent} (h : OwnE w0 w L) : OwnE w0 w.drew L := ⟨h.below.drew, h.has, h.nodup, h.new⟩
/-- One block's content is another one. -/
inductive Upd : List Ent → Nat → Obj → Obj → List Ent → Prop
  | here {b o o' R} : Upd ([(b, o)] :: R) b o o' ([(b, o')] :: R)
  | there {e R R' b o o'} : Upd R b o o' R' → Upd (e :: R) b o o' (e :: R')
theorem Upd.spec {L L' : List Ent} {b : Nat} {o o' : Obj} (h : Upd L b o o' L') :
    ∃ l r, L.flatten = l ++ (b, o) :: r ∧ L'.flatten = l ++ (b, o') :: r := by
  induction h with
  | @here b o o' R => exact ⟨[], R.flatten, by simp, by simp⟩
  | @there e R R' b o o' _ ih => obtain ⟨l, r, h1, h2⟩ := ih; exact ⟨e ++ l, r, by simp [h1], by simp [h2]⟩
theorem OwnE.upd {w0 w w' : World} {L L' : List Ent} {b : Nat} {o o' : Obj} (h : OwnE w0 w L) (hu : Upd L b o o' L')
    (hos : w'.os = w.os) (htape : w'.tape = w.tape) (hout : w'.output = w.output) (hsize : w.heap.size ≤ w'.heap.size)
    (hb : w'.heap[b]? = some o') (hoth : ∀ k, k ≠ b → k < w.heap.size → w'.heap[k]? = w.heap[k]?) : OwnE w0 w' L' := by
  obtain ⟨l, r, h1, h2⟩ := hu.spec
  have hnd := h.nodup
  rw [h1] at hnd
  have hbm : (b, o) ∈ L.flatten := by rw [h1]; simp
  have hbn := h.new _ hbm
  simp only [List.map_append, List.map_cons] at hnd
  have hnd2 := List.nodup_append.1 hnd
  have hr := List.nodup_cons.1 hnd2.2.1
  refine ⟨h.below.trans ⟨hos, htape, hout, hsize, fun k hk => hoth k (by simp at hbn; omega) (by have := h.below.size; omega)⟩, ?_, ?_, ?_⟩
  · intro p hp
    rw [h2] at hp
    simp only [List.mem_append, List.mem_cons] at hp
    rcases hp with hp | rfl | hp
    · have hm : p ∈ L.flatten := by rw [h1]; simp [hp]
      have hne : p.1 ≠ b := fun e => hnd2.2.2 p.1 (List.mem_map_of_mem hp) b (by simp) e
      rw [hoth p.1 hne (h.lt (b := p.1) (o := p.2) hm)]; exact h.has p hm
    · exact hb
    · have hm : p ∈ L.flatten := by rw [h1]; simp [hp]
      have hne : p.1 ≠ b := fun e => hr.1 (e ▸ List.mem_map_of_mem hp)
      rw [hoth p.1 hne (h.lt (b := p.1) (o := p.2) hm)]; exact h.has p hm
  · rw [h2]; simpa using hnd
  · intro p hp
    rw [h2] at hp
    simp only [List.mem_append, List.mem_cons] at hp
    rcases hp with hp | rfl | hp
    · exact h.new p (by rw [h1]; simp [hp])
    · exact hbn
    · exact h.new p (by rw [h1]; simp [hp])
theorem OwnE.cell {w0 w : World} {L : List Ent} (h : OwnE w0 w L) {b : Nat} {c : Array Value} {T : TypeId} {fr : Nat × Nat} (hm : (b, .cells c T fr) ∈ L.flatten) (i : Nat) :
    w.cell? ⟨b, i, none⟩ = c[i]? := by simp [World.cell?, h.has _ hm]
theorem OwnE.frozen {w0 w : World} {L : List Ent} (h : OwnE w0 w L) {b : Nat} {c : List Value} {T : TypeId} (hm : (b, row T c) ∈ L.flatten) (i : Nat) :
    w.frozen? ⟨b, i, none⟩ = false := by
  have h1 := h.has _ hm
  simp only at h1
  simp only [World.frozen?, h1]
  simp
end Go.E
