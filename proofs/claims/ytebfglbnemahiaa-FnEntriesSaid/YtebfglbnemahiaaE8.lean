/- The engine, part 8: regions that draw their order and have several effects: what only reads may be taken first, effects are tried in each order. -/
import Derived.Test.YtebfglbnemahiaaE7
namespace Go.E
open Go.RowKit
/-- What comes next, and nothing else. -/
def KQ (K : Act → World → Prop) : Exit → Act → World → Prop
  | .normal, a, w => K a w
  | _, _, _ => False
theorem KQ_out {K : Act → World → Prop} : ¬ LetsOut (KQ K) := fun ⟨_, _, h⟩ => h
section
variable {P : Program} {ops : Array Oper} {K K' : Act → World → Prop} {a : Act} {w : World} {i j : Nat} {o oi oj : Oper} {v : Value} {C : World → Prop} {Q : Exit → Act → World → Prop} {bs : List Nat}
def dOp (P : Program) (ops : Array Oper) (K : Act → World → Prop) (i : Nat) (a : Act) (w : World) : Prop :=
  match ops[i]? with
  | none => K a w
  | some o => if Region.wanted o (yielded ops a.tmps) then o.wp P a w K (KQ K) else K (a.put o.dst undef) w
theorem wp_noP {Q' : Exit → Act → World → Prop} (h : ∀ a w, K a w → K' a w) (hh : o.wp P a w K (KQ K)) : o.wp P a w K' Q' := by
  unfold Oper.wp at *
  generalize (execOp a.eval o).run P w = r at *
  cases r with
  | ok n w' =>
    cases n <;> simp only [Oper.upon] at hh ⊢ <;>
      first
        | exact h _ _ hh
        | exact Calls.mono hh (fun e w'' he => by cases e <;> first | exact h _ _ he | exact absurd he KQ_out | exact False.elim he)
        | exact Rows.mono hh (fun _ _ he => h _ _ he)
  | halt x w' => cases x <;> simp only [Oper.upon] at hh ⊢ <;> exact False.elim hh
theorem wpOp_of_dOp (h : ∀ a w, K a w → K' a w) (hh : dOp P ops K i a w) : wpOp P ops Q i K' a w := by
  unfold dOp at hh
  unfold wpOp
  split
  · rename_i ho; simp only [ho] at hh; exact h _ _ hh
  · rename_i o ho
    simp only [ho] at hh
    split
    · rename_i hw; simp only [hw, if_true] at hh; exact .inl (wp_noP h hh)
    · rename_i hw; simp only [hw] at hh; exact h _ _ hh
theorem dOp_mono (h : ∀ a w, K a w → K' a w) (hh : dOp P ops K i a w) : dOp P ops K' i a w := by
  unfold dOp at *
  split
  · rename_i ho; simp only [ho] at hh; exact h _ _ hh
  · rename_i o ho
    simp only [ho] at hh
    split
    · rename_i hw; simp only [hw, if_true] at hh; exact wp_noP h hh
    · rename_i hw; simp only [hw] at hh; exact h _ _ hh
/-- One effect, by the laws of a region in order. -/
theorem od (hi : ops[i]? = some o) (h : wpList P ops (KQ K) [o] a w) : dOp P ops K i a w := by
  unfold dOp
  simp only [hi]
  unfold wpList at h
  split
  · rename_i hw
    simp only [hw, if_true] at h
    rcases h with h | ⟨_, h⟩
    · exact Oper.wp_mono (fun a w h => h) h
    · exact absurd h KQ_out
  · rename_i hw
    simp only [hw] at h
    exact h
theorem endE (h : K a w) : wpList P ops (KQ K) [] a w := h
/-- In each world of the class the operation yields v. -/
def YD (P : Program) (ops : Array Oper) (C : World → Prop) (o : Oper) (v : Value) (a : Act) : Prop :=
  (Region.wanted o (yielded ops a.tmps) = true ∧ ∀ w, C w → (execOp a.eval o).run P w = .ok (.value v) w) ∨ (Region.wanted o (yielded ops a.tmps) = false ∧ v = undef)
theorem YD.dOp (hi : ops[i]? = some o) (hy : YD P ops C o v a) (hC : C w) (h : K (a.put o.dst v) w) : dOp P ops K i a w := by
  unfold Go.E.dOp
  simp only [hi]
  rcases hy with ⟨hw, hv⟩ | ⟨hw, rfl⟩
  · simp only [hw, if_true, Oper.wp, hv w hC, Oper.upon]; exact h
  · simp only [hw, Bool.false_eq_true, if_false]; exact h
theorem YD.of_same {a' : Act} (hy : YD P ops C o v a) (he : execOp a'.eval o = execOp a.eval o) (hw : Region.wanted o (yielded ops a'.tmps) = Region.wanted o (yielded ops a.tmps)) : YD P ops C o v a' := by
  unfold YD at *
  rw [he, hw]; exact hy
theorem dOp_put (hj : ops[j]? = some oj) (hap : oi.apart ops oj = true) (hsi : ∀ cs b, oi.op ≠ .select cs b) (hsj : ∀ cs b, oj.op ≠ .select cs b)
    (hy : YD P ops C oi v a) (h : dOp P ops K j (a.put oi.dst v) w) : dOp P ops (fun a' w' => YD P ops C oi v a' ∧ K (a'.put oi.dst v) w') j a w := by
  obtain ⟨h1, h2, h3⟩ := Oper.apart_spec hap
  have keep : ∀ (a : Act), YD P ops C oi v a → ∀ u, YD P ops C oi v (a.put oj.dst u) := fun a hy u => hy.of_same (execOp_put oi hsi a oj.dst u h3) (wanted_put oi a oj.dst u h3)
  have keepD : ∀ d, YD P ops C oi v { a with defers := d :: a.defers } := fun d => hy.of_same rfl rfl
  unfold dOp at *
  simp only [hj] at *
  rw [wanted_put oj a oi.dst v h1] at h
  split
  · rename_i hw
    simp only [hw, if_true] at h
    unfold Oper.wp at *
    rw [execOp_put oj hsj a oi.dst v h1] at h
    generalize (execOp a.eval oj).run P w = r at *
    cases r with
    | ok n w' =>
      cases n <;> simp only [Oper.upon] at h ⊢
      case value u => exact ⟨keep a hy u, by rw [← Act.put_comm a v u h2]; exact h⟩
      case skip => exact ⟨keep a hy _, by rw [← Act.put_comm a v undef h2]; exact h⟩
      case defer d =>
        refine ⟨keep _ (keepD d) _, ?_⟩
        rw [← Act.put_comm _ v undef h2, ← Act.put_defers]
        exact h
      case enter f args =>
        refine Calls.mono h fun e w'' he => ?_
        cases e with
        | returned u => exact ⟨keep a hy u, by rw [← Act.put_comm a v u h2]; exact he⟩
        | panicked c => exact False.elim he
        | outgrown => exact absurd he KQ_out
      case row row args => exact Rows.mono h fun u w'' he => ⟨keep a hy u, by rw [← Act.put_comm a v u h2]; exact he⟩
    | halt x w' =>
      cases x <;> simp only [Oper.upon] at h ⊢
      case panic u => exact False.elim h
  · rename_i hw
    simp only [hw] at h
    exact ⟨keep a hy _, by rw [← Act.put_comm a v undef h2]; exact h⟩
/-- The class, as long as no operation of a list has come up. -/
def Cl (bs : List Nat) (C : World → Prop) (l : Array Bool) (w : World) : Prop := (∀ j ∈ bs, l.getD j false = false) → C w
def wpD (P : Program) (ops : Array Oper) (bs : List Nat) (C : World → Prop) (Q : Exit → Act → World → Prop) : Nat → Array Bool → Act → World → Prop
  | 0, l, a, w => Cl bs C l w ∧ Region.ready .any ops l = [] ∧ Q .normal a w
  | f + 1, l, a, w => Cl bs C l w ∧ (Region.ready .any ops l = [] → Q .normal a w) ∧ ∀ i ∈ Region.ready .any ops l, dOp P ops (wpD P ops bs C Q f (l.setIfInBounds i true)) i a w
theorem wpAny_of_wpD : ∀ (f : Nat) (l : Array Bool) (a : Act) (w : World), wpD P ops bs C Q f l a w → wpAny P .any ops Q f l a w
  | 0, _, _, _, h => h.2
  | f + 1, _, _, _, h => ⟨h.2.1, fun i hi => wpOp_of_dOp (fun a w h => wpAny_of_wpD f _ a w h) (h.2.2 i hi)⟩
theorem wpD.cl {f : Nat} {l : Array Bool} (h : wpD P ops bs C Q f l a w) : Cl bs C l w := by cases f <;> exact h.1
structure Clo (ops : Array Oper) (l : Array Bool) : Prop where
  nosel : Region.noSelect ops = true
  size : l.size = ops.size
  closed : ∀ j oj, ops[j]? = some oj → l.getD j false = true → ∀ e ∈ oj.after, Region.binds .any e = true → l.getD e.on false = true
theorem Clo.set {l : Array Bool} (h : Clo ops l) (hi : i ∈ Region.ready .any ops l) : Clo ops (l.setIfInBounds i true) := by
  obtain ⟨_, oi, hoi, hall⟩ := mem_ready.1 hi
  refine ⟨h.nosel, by simp [h.size], fun j oj hj hl e he hb => ?_⟩
  by_cases hij : i = j
  · subst hij
    have : oj = oi := Option.some.inj (hj.symm.trans hoi)
    subst this
    exact getD_set_true (hall e he hb)
  · rw [getD_set_ne false hij] at hl
    exact getD_set_true (h.closed j oj hj hl e he hb)
theorem wpD_first {Ci : World → Prop} (hi : ops[i]? = some oi) (hbi : i ∉ bs) (hCi : ∀ l w, Clo ops l → l.getD i true = false → Cl bs C l w → Ci w) :
    ∀ (f : Nat) (l : Array Bool) (a : Act) (w : World), Clo ops l →
      (∀ j oj, ops[j]? = some oj → j ≠ i → l.getD j true = false → (∀ e ∈ oj.after, Region.binds .any e = true → e.on ≠ i) → oi.apart ops oj = true) →
      i ∈ Region.ready .any ops l → YD P ops Ci oi v a → wpD P ops bs C Q f (l.setIfInBounds i true) (a.put oi.dst v) w → wpD P ops bs C Q (f + 1) l a w := by
  have hcl : ∀ {l w}, Cl bs C (l.setIfInBounds i true) w → Cl bs C l w := fun {l w} h hb => h fun j hj => by
    have hne : i ≠ j := fun e => hbi (by subst e; exact hj)
    rw [getD_set_ne false hne]; exact hb j hj
  intro f
  induction f with
  | zero =>
    intro l a w hc _ hr hy H
    refine ⟨hcl H.1, fun h => (by rw [h] at hr; cases hr), fun j hj => ?_⟩
    by_cases hji : j = i
    · subst hji; exact hy.dOp hi (hCi l w hc (mem_ready.1 hr).1 (hcl H.cl)) H
    · have := ready_mono hj hji
      rw [H.2.1] at this
      cases this
  | succ f ih =>
    intro l a w hc hfree hr hy H
    refine ⟨hcl H.1, fun h => (by rw [h] at hr; cases hr), fun j hj => ?_⟩
    by_cases hji : j = i
    · subst hji; exact hy.dOp hi (hCi l w hc (mem_ready.1 hr).1 (hcl H.cl)) H
    · have h1 := H.2.2 j (ready_mono hj hji)
      obtain ⟨hjun, oj, hoj, hall⟩ := mem_ready.1 hj
      have hnot : ∀ e ∈ oj.after, Region.binds .any e = true → e.on ≠ i := fun e he hb heq => by
        have h1 := hall e he hb
        rw [heq, getD_both (mem_ready.1 hr).1] at h1
        cases h1
      have hsel := Region.noSelect_spec hc.nosel
      have h2 := dOp_put hoj (hfree j oj hoj hji hjun hnot) (fun cs b => hsel i oi cs b hi) (fun cs b => hsel j oj cs b hoj) hy h1
      have hfree' : ∀ k ok, ops[k]? = some ok → k ≠ i → (l.setIfInBounds j true).getD k true = false →
          (∀ e ∈ ok.after, Region.binds .any e = true → e.on ≠ i) → oi.apart ops ok = true := fun k ok hk hki hun hno => by
        refine hfree k ok hk hki ?_ hno
        by_cases hjk : j = k
        · subst hjk; exact hjun
        · rw [getD_set_ne true hjk] at hun; exact hun
      refine dOp_mono (fun a' w' h3 => ih (l.setIfInBounds j true) a' w' (hc.set hj) hfree' (ready_mono hr (Ne.symm hji)) h3.1 ?_) h2
      rw [Array.setIfInBounds_comm _ _ hji]
      exact h3.2
/-- Does operation j wait for operation i? -/
def depB (ops : Array Oper) (i : Nat) : Nat → Nat → Bool
  | 0, _ => false
  | f + 1, j => match ops[j]? with
    | none => false
    | some o => o.after.any fun e => Region.binds .any e && (e.on == i || depB ops i f e.on)
theorem depB_spec {l : Array Bool} (hc : Clo ops l) : ∀ (f j : Nat), depB ops i f j = true → l.getD j false = true → l.getD i false = true
  | 0, _, h, _ => by cases h
  | f + 1, j, h, hl => by
    unfold depB at h
    split at h
    · cases h
    · rename_i o ho
      obtain ⟨e, he, hb⟩ := Array.any_eq_true'.1 h
      simp only [Bool.and_eq_true, Bool.or_eq_true, beq_iff_eq] at hb
      have h1 := hc.closed j o ho hl e he hb.1
      rcases hb.2 with h2 | h2
      · rw [← h2]; exact h1
      · exact depB_spec hc f e.on h2 h1
/-- The walk of a drawn region: what has come up, and the frame. -/
def DG (P : Program) (ops : Array Oper) (bs : List Nat) (C : World → Prop) (Q : Exit → Act → World → Prop) (f : Nat) (l : Array Bool) (a : Act) (w : World) : Prop := Clo ops l → wpD P ops bs C Q f l a w
theorem regionD {id : Nat} {l : List Oper} (bs : List Nat) (C : World → Prop) (hm : P.follows .mixedOrders = true) (hn : Region.noSelect l.toArray = true) (_hC : C w)
    (h : DG P l.toArray bs C Q l.length (Array.replicate l.length false) a w.drew) : (Code.region id l.toArray true).wp P Q a w := by
  refine wp_region_any hm (wpAny_of_wpD _ _ _ _ (h ⟨hn, by simp, fun j oj _ hl => ?_⟩))
  rw [getD_replicate_false] at hl; cases hl
section
variable {n : Nat} {D : List Deferred} {F : Fr} {ty : TypeId} {pos : String} {aft : Array Edge} {d f : Nat} {op : Op} {l : Array Bool} {w0 : World} {L : List Ent}
/-- May operation i be taken first? -/
def frB (ops : Array Oper) (bs : List Nat) (l : Array Bool) (i : Nat) : Bool := (Region.ready .any ops l).contains i && Region.free .any ops l i && !bs.contains i
theorem dfirst (hi : ops[i]? = some o) {Ci : World → Prop} (hCi : ∀ l w, Clo ops l → l.getD i true = false → Cl bs C l w → Ci w) (hf : frB ops bs l i = true) (hy : YD P ops Ci o v a)
    (k : DG P ops bs C Q f (l.setIfInBounds i true) (a.put o.dst v) w) : DG P ops bs C Q (f + 1) l a w := fun hc => by
  simp only [frB, Bool.and_eq_true, Bool.not_eq_true', List.contains_eq_mem, decide_eq_true_eq, decide_eq_false_iff_not] at hf
  exact wpD_first hi hf.2 hCi f l a w hc (Region.free_spec hi hf.1.2) hf.1.1 hy (k (hc.set hf.1.1))
theorem clTop : ∀ l w, Clo ops l → l.getD i true = false → Cl bs C l w → (fun _ : World => True) w := fun _ _ _ _ _ => trivial
theorem clDep (h : bs.all (depB ops i ops.size) = true) : ∀ l w, Clo ops l → l.getD i true = false → Cl bs C l w → C w := fun l w hc hi hcl => hcl fun j hj => by
  have h1 := List.all_eq_true.1 h j hj
  cases h2 : l.getD j false with
  | false => rfl
  | true => have := depB_spec hc _ _ h1 h2; rw [getD_both hi] at this; cases this
/-- A pure operation. -/
theorem dp (i : Nat) (hs : St n D F a) (hi : ops[i]? = some ⟨some d, op, ty, pos, aft, none⟩) (hf : frB ops bs l i = true) (hy : Yl P (fun _ => True) a op ty v) (hd : Nat.blt d n = true)
    (k : ∀ a', St n D ((d, v) :: F) a' → DG P ops bs C Q f (l.setIfInBounds i true) a' w) : DG P ops bs C Q (f + 1) l a w :=
  dfirst hi clTop hf (.inl ⟨rfl, fun w _ => by rw [execOp_oper, hy w trivial]⟩) (k _ (hs.put v (by simpa using hd)))
theorem dpg (i : Nat) (hs : St n D F a) {j t : Nat} {want b : Bool} (hi : ops[i]? = some ⟨some d, op, ty, pos, aft, some (j, want)⟩) (hf : frB ops bs l i = true) (hj : ((ops[j]?).bind (·.dst)) = some t) (hb : look F t = some (.bool b)) (hw : b = want)
    (hy : Yl P (fun _ => True) a op ty v) (hd : Nat.blt d n = true) (k : ∀ a', St n D ((d, v) :: F) a' → DG P ops bs C Q f (l.setIfInBounds i true) a' w) : DG P ops bs C Q (f + 1) l a w :=
  dfirst hi clTop hf (.inl ⟨by rw [wanted_of hs hj hb _ rfl, hw]; simp, fun w _ => by rw [execOp_oper, hy w trivial]⟩) (k _ (hs.put v (by simpa using hd)))
/-- One that reads. -/
theorem dq (i : Nat) (hs : St n D F a) (hi : ops[i]? = some ⟨some d, op, ty, pos, aft, none⟩) (hf : frB ops bs l i = true) (hdep : bs.all (depB ops i ops.size) = true) (hy : Yl P C a op ty v) (hd : Nat.blt d n = true)
    (k : ∀ a', St n D ((d, v) :: F) a' → DG P ops bs C Q f (l.setIfInBounds i true) a' w) : DG P ops bs C Q (f + 1) l a w :=
  dfirst hi (clDep hdep) hf (.inl ⟨rfl, fun w hw => by rw [execOp_oper, hy w hw]⟩) (k _ (hs.put v (by simpa using hd)))
theorem dqg (i : Nat) (hs : St n D F a) {j t : Nat} {want b : Bool} (hi : ops[i]? = some ⟨some d, op, ty, pos, aft, some (j, want)⟩) (hf : frB ops bs l i = true) (hdep : bs.all (depB ops i ops.size) = true)
    (hj : ((ops[j]?).bind (·.dst)) = some t) (hb : look F t = some (.bool b)) (hw : b = want) (hy : Yl P C a op ty v) (hd : Nat.blt d n = true)
    (k : ∀ a', St n D ((d, v) :: F) a' → DG P ops bs C Q f (l.setIfInBounds i true) a' w) : DG P ops bs C Q (f + 1) l a w :=
  dfirst hi (clDep hdep) hf (.inl ⟨by rw [wanted_of hs hj hb _ rfl, hw]; simp, fun w hw => by rw [execOp_oper, hy w hw]⟩) (k _ (hs.put v (by simpa using hd)))
/-- One that is not wanted. -/
theorem dn (i : Nat) (hs : St n D F a) {j t : Nat} {want b : Bool} (hi : ops[i]? = some ⟨some d, op, ty, pos, aft, some (j, want)⟩) (hf : frB ops bs l i = true) (hj : ((ops[j]?).bind (·.dst)) = some t) (hb : look F t = some (.bool b)) (hw : b = !want)
    (hd : Nat.blt d n = true) (k : ∀ a', St n D ((d, undef) :: F) a' → DG P ops bs C Q f (l.setIfInBounds i true) a' w) : DG P ops bs C Q (f + 1) l a w :=
  dfirst hi clTop hf (.inr ⟨by rw [wanted_of hs hj hb _ rfl, hw]; cases want <;> rfl, rfl⟩) (k _ (hs.put undef (by simpa using hd)))
theorem dn0 (i : Nat) (hs : St n D F a) {j t : Nat} {want b : Bool} (hi : ops[i]? = some ⟨none, op, ty, pos, aft, some (j, want)⟩) (hf : frB ops bs l i = true) (hj : ((ops[j]?).bind (·.dst)) = some t) (hb : look F t = some (.bool b)) (hw : b = !want)
    (k : DG P ops bs C Q f (l.setIfInBounds i true) a w) : DG P ops bs C Q (f + 1) l a w :=
  dfirst hi (v := undef) clTop hf (.inr ⟨by rw [wanted_of hs hj hb _ rfl, hw]; cases want <;> rfl, rfl⟩) k
def AllD (P : Program) (ops : Array Oper) (bs : List Nat) (C : World → Prop) (Q : Exit → Act → World → Prop) (f : Nat) (l : Array Bool) (a : Act) (w : World) : List Nat → Prop
  | [] => True
  | i :: r => dOp P ops (DG P ops bs C Q f (l.setIfInBounds i true)) i a w ∧ AllD P ops bs C Q f l a w r
theorem AllD.get : ∀ {r : List Nat}, AllD P ops bs C Q f l a w r → ∀ i ∈ r, dOp P ops (DG P ops bs C Q f (l.setIfInBounds i true)) i a w
  | _ :: _, h, i, hi => by
    rcases List.mem_cons.1 hi with rfl | hi
    · exact h.1
    · exact AllD.get h.2 i hi
/-- A guard that was not asked itself. -/
theorem wanted_un (hs : St n D F a) {j t : Nat} {want : Bool} (hj : ((ops[j]?).bind (·.dst)) = some t) (hb : look F t = some undef) (o : Oper) (hg : o.guard = some (j, want)) : Region.wanted o (yielded ops a.tmps) = false := by
  unfold Region.wanted
  rw [hg]
  have : yielded ops a.tmps j = none := by
    unfold yielded
    rw [hj]
    simp [hs.has _ _ hb, undef]
  simp only [this]
  cases want <;> rfl
theorem du (i : Nat) (hs : St n D F a) {j t : Nat} {want : Bool} (hi : ops[i]? = some ⟨some d, op, ty, pos, aft, some (j, want)⟩) (hf : frB ops bs l i = true) (hj : ((ops[j]?).bind (·.dst)) = some t) (hb : look F t = some undef)
    (hd : Nat.blt d n = true) (k : ∀ a', St n D ((d, undef) :: F) a' → DG P ops bs C Q f (l.setIfInBounds i true) a' w) : DG P ops bs C Q (f + 1) l a w :=
  dfirst hi clTop hf (.inr ⟨wanted_un hs hj hb _ rfl, rfl⟩) (k _ (hs.put undef (by simpa using hd)))
theorem stepQu {Q : Act → Prop} {rest : List Oper} (hs : St n D F a) {j t : Nat} {want : Bool} (hj : ((ops[j]?).bind (·.dst)) = some t) (hb : look F t = some undef) (hd : Nat.blt d n = true)
    (k : ∀ a', St n D ((d, undef) :: F) a' → wpQuiet P ops C Q rest a') : wpQuiet P ops C Q (⟨some d, op, ty, pos, aft, some (j, want)⟩ :: rest) a := by
  unfold wpQuiet
  rw [wanted_un hs hj hb _ rfl]
  simp only [Bool.false_eq_true, if_false]
  exact k _ (hs.put undef (by simpa using hd))
theorem sou {rest : List Oper} (hs : St n D F a) {j t : Nat} {want : Bool} (hj : ((ops[j]?).bind (·.dst)) = some t) (hb : look F t = some undef) (hd : Nat.blt d n = true)
    (k : ∀ a', St n D ((d, undef) :: F) a' → wpList P ops Q rest a' w) : wpList P ops Q (⟨some d, op, ty, pos, aft, some (j, want)⟩ :: rest) a w := by
  unfold wpList
  rw [wanted_un hs hj hb _ rfl]
  simp only [Bool.false_eq_true, if_false]
  exact k _ (hs.put undef (by simpa using hd))
/-- A guarded operation that is wanted is one without a guard. -/
theorem ug {dst : Option Tmp} {rest : List Oper} (hs : St n D F a) {j t : Nat} {want b : Bool} (hj : ((ops[j]?).bind (·.dst)) = some t) (hb : look F t = some (.bool b)) (hw : b = want)
    (h : wpList P ops Q (⟨dst, op, ty, pos, aft, none⟩ :: rest) a w) : wpList P ops Q (⟨dst, op, ty, pos, aft, some (j, want)⟩ :: rest) a w := by
  unfold wpList at *
  rw [wanted_of hs hj hb _ rfl, hw]
  simp only [Region.wanted, if_true, beq_self_eq_true] at h ⊢
  unfold Oper.wp Oper.asks at *
  rw [execOp_oper] at h ⊢
  exact h
/-- The effects that may come up now. -/
theorem dbr (js : List Nat) (hr : Region.ready .any ops l = js) (hne : js.isEmpty = false) (hC : Cl bs C l w) (h : AllD P ops bs C Q f l a w js) : DG P ops bs C Q (f + 1) l a w := fun hc => by
  subst hr
  exact ⟨hC, fun h0 => (by rw [h0] at hne; cases hne), fun i hi => dOp_mono (fun a w hk => hk (hc.set hi)) (AllD.get h i hi)⟩
theorem dend (hr : Region.ready .any ops l = []) (hC : Cl bs C l w) (h : Q .normal a w) : DG P ops bs C Q f l a w := fun _ => by
  cases f with
  | zero => exact ⟨hC, hr, h⟩
  | succ f => exact ⟨hC, fun _ => h, fun i hi => by rw [hr] at hi; cases hi⟩
theorem clIn (h : C w) : Cl bs C l w := fun _ => h
theorem clOut (j : Nat) (hj : bs.contains j = true) (hl : l.getD j false = true) : Cl bs C l w := fun h => by
  have := h j (by simpa using hj)
  rw [hl] at this; cases this
end
end
/-- A list that was written out, as a slice. -/
theorem Rd.lit (xs : List Int) (b E : Nat) (h : xs.length ≤ 1000) : Rd I 1 (inE [(b, row E (xs.map I))]) xs (.slice (some ⟨b, 0, none⟩) xs.length xs.length) := by
  refine ⟨_, _, rfl, ⟨Nat.le_refl _, by omega⟩, .inr ⟨b, 0, ⟨xs.map I⟩, E, (0, 0), rfl, by simp [inE, row], ?_⟩⟩
  intro i v hv
  rw [List.getElem?_map] at hv
  cases hx : xs[i]? with
  | none => simp [hx] at hv
  | some x =>
    simp [hx] at hv; subst hv
    refine ⟨rfl, fun j u hu => ?_⟩
    cases j with
    | zero =>
      rw [show (cells1 (I x))[0]? = some (I x) from rfl] at hu
      injection hu with hu; subst hu
      simp [hx]
    | succ j => rw [show (cells1 (I x))[j + 1]? = none from rfl] at hu; cases hu
/-- A contract on the reader of codes, which lies anywhere among the entries. -/
theorem liftC {P : Program} {f : FuncId} {args : Array Value} {w0 w : World} {L : List Ent} {L' : Ent → List Ent} {e : Ent} {T bc N : Nat} {φ : Value → Ent → Prop} (hC : CurAt w0 T bc N e) (hO : OwnE w0 w L) (hr : ∀ e', Repl L e e' (L' e'))
    (h : ∀ M, (∀ x, (∀ e', x ∈ L' e') → x ∈ M) → OwnE w0 w (e :: M) → CurAt w0 T bc N e → Calls P f args w (Ret fun v w' => ∃ e', φ v e' ∧ OwnE w0 w' (e' :: M))) : Calls P f args w (Ret fun v w' => ∃ e', φ v e' ∧ OwnE w0 w' (L' e')) :=
  lift0 (fun M hk hO => h M hk hO hC) hO hr
end Go.E
