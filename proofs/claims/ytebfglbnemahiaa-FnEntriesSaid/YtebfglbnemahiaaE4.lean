/- The engine, part 4: the shapes of code, the begin and the end of a call. -/
import Derived.Test.YtebfglbnemahiaaE3
namespace Go.E
open Go.RowKit
section
variable {P : Program} {a : Act} {n : Nat} {D : List Deferred} {F : Fr} {w w0 : World} {L : List Ent} {Q : Exit → Act → World → Prop}
theorem enter {f : FuncId} {fn : Func} {c : Code} {R : Ending → World → Prop} {n : Nat} {args : List Value} (hf : P.funcs[f]? = some fn) (hb : fn.body = some c) (hn : fn.ntmps = n) (hl : Nat.ble args.length n = true)
    (h : ∀ a, St n [] (argF 0 args) a → c.wp P (bodyPost P fn R) a w) : Calls P f ⟨args⟩ w R :=
  calls_of_wp hf hb (h _ (by rw [hn]; simpa using St.enter args n (Nat.le_of_ble_eq_true hl)))
theorem region {id : Nat} {l : List Oper} (h : wpList P l.toArray Q l a w) : (Code.region id l.toArray false).wp P Q a w := wp_region_lit h
theorem cond_t (hs : St n D F a) {c : Operand} {x y : Code} {b : Bool} (hc : ev F c = some (.bool b)) (hb : b = true) (h : x.wp P Q a w) : (Code.cond c x y).wp P Q a w :=
  wp_cond_true (by rw [hs.eval hc, hb]) h
theorem cond_f (hs : St n D F a) {c : Operand} {x y : Code} {b : Bool} (hc : ev F c = some (.bool b)) (hb : b = false) (h : y.wp P Q a w) : (Code.cond c x y).wp P Q a w :=
  wp_cond_false (by rw [hs.eval hc, hb]) h
theorem cond_s (hs : St n D F a) {c : Operand} {x y : Code} {b : Bool} (hc : ev F c = some (.bool b)) (ht : b = true → x.wp P Q a w) (hf : b = false → y.wp P Q a w) : (Code.cond c x y).wp P Q a w :=
  wp_cond_split (hs.eval hc) ht hf
theorem inB_same {id : Nat} (h : Q .normal a w) : Exit.inBlock id Q (.exit id) a w := by simp [Exit.inBlock, h]
theorem inB_other {id id' : Nat} (hne : id' ≠ id) (h : Q (.exit id') a w) : Exit.inBlock id Q (.exit id') a w := by simp [Exit.inBlock, hne, h]
theorem guard_s {b : Bool} {p : Prop} (ht : b = true → p) (hf : b = false → p) : p := by cases b <;> simp_all
/-- A loop whose rounds are told apart by a ghost. -/
theorem loop {α : Type} {c : Code} (I : α → Act → World → Prop) (μ : α → Nat) (x0 : α) (h0 : I x0 a w)
    (round : ∀ x a w, I x a w → c.wp P (Exit.then (fun a' w' => ∃ x', μ x' < μ x ∧ I x' a' w') Q) a w) : (Code.loop c).wp P Q a w := by
  intro b k cs
  have key : ∀ n x a w, μ x = n → I x a w →
      ∃ e a' w', Q e a' w' ∧ Arrives P (lone (b.at a (.code c :: .inLoop c :: k)) cs w) b k cs e a' w' := by
    intro n
    induction n using Nat.strongRecOn with
    | _ n ih =>
      intro x a w hn hI
      obtain ⟨e, a₁, w₁, hq, harr⟩ := round x a w hI b (.inLoop c :: k) cs
      cases e with
      | normal =>
        obtain ⟨x', hlt, hI₁⟩ := hq
        obtain ⟨e₂, a₂, w₂, hq₂, harr₂⟩ := ih (μ x') (hn ▸ hlt) x' a₁ w₁ rfl hI₁
        exact ⟨e₂, a₂, w₂, hq₂, .of_steps (Steps.trans harr (.one step_inLoop)) harr₂⟩
      | exit id => exact ⟨_, a₁, w₁, hq, .pass (x := .inLoop c) rfl (fun _ _ => .inl (by simp)) harr⟩
      | goto l => exact ⟨_, a₁, w₁, hq, .pass (x := .inLoop c) rfl (fun _ _ => .inl (by simp)) harr⟩
      | ret => exact ⟨_, a₁, w₁, hq, .pass (x := .inLoop c) rfl (fun _ _ => .inl (by simp)) harr⟩
      | panic ch => exact ⟨_, a₁, w₁, hq, .pass (x := .inLoop c) rfl (fun _ _ => .inl (by simp)) harr⟩
      | outgrown => exact ⟨_, a₁, w₁, hq, .pass (x := .inLoop c) rfl (fun _ _ => .inl (by simp)) harr⟩
  obtain ⟨e, a', w', hq, harr⟩ := key _ x0 a w rfl h0
  exact ⟨e, a', w', hq, .of_steps (.one step_loop) harr⟩
/-! ### Results -/
/-- What the result variables hold. -/
inductive ResIs (P : Program) (F : Fr) (L : List Ent) : List ResultVar → List Value → Prop
  | nil : ResIs P F L [] []
  | tmp {t : Tmp} {v : Value} {rs : List ResultVar} {vs : List Value} : look F t = some v → ResIs P F L rs vs → ResIs P F L (.tmp t :: rs) (v :: vs)
  | cell {t : Tmp} {ty b off T : Nat} {cs : List Value} {v : Value} {rs : List ResultVar} {vs : List Value} : look F t = some (.pointer (some ⟨b, off, none⟩)) → [(b, row T cs)] ∈ L → scalarB P ty = true → cs[off]? = some v →
      ResIs P F L rs vs → ResIs P F L (.cell t ty :: rs) (v :: vs)
  | agg {t : Tmp} {ty b off T m : Nat} {cs us : List Value} {rs : List ResultVar} {vs : List Value} : look F t = some (.pointer (some ⟨b, off, none⟩)) → [(b, row T cs)] ∈ L → aggB P ty m = true → (cs.drop off).take m = us → us.length = m →
      ResIs P F L rs vs → ResIs P F L (.cell t ty :: rs) (.agg ⟨us⟩ :: vs)
theorem ResIs.run (hs : St n D F a) (hO : OwnE w0 w L) {rs : List ResultVar} {vs : List Value} (h : ResIs P F L rs vs) :
    (rs.mapM (fun
      | .tmp t => pure (a.tmps.getD t undef)
      | .cell x t => do loadVar t (← asAddr (a.tmps.getD x undef))) : Sem (List Value)).run P w = .ok vs w := by
  have asA : ∀ {x : Addr}, (asAddr (.pointer (some x))).run P w = .ok x w := fun {x} => by simp [asAddr]
  have asTmp : ∀ {t : Tmp} {v : Value}, look F t = some v → a.tmps.getD t undef = v := fun h => by simp [hs.has _ _ h]
  induction h with
  | nil => simp
  | tmp ht _ ih => simp only [List.mapM_cons, Sem.run_bind, asTmp ht, Sem.run_pure, Result.andThen_ok, ih]
  | @cell t ty b off T cs v rs vs ht hm hsc hv _ ih =>
    have h1 := yl_load_e (P := P) (ty := 0) hs (x := .tmp t) (by exact ht) hsc hm hv w hO
    have h2 : (loadVar ty ⟨b, off, none⟩).run P w = .ok v w := by
      have he := hs.eval (x := .tmp t) ht
      simp only [execOp, Instr.loadAt, he, Instr.sureAddr, Sem.run_bind, Sem.run_pure, Result.andThen_ok] at h1
      generalize (loadVar ty ⟨b, off, none⟩).run P w = r at h1 ⊢
      cases r <;> simp_all
    simp only [List.mapM_cons, Sem.run_bind, asTmp ht, asA, Sem.run_pure, Result.andThen_ok, h2, ih]
  | @agg t ty b off T m cs us rs vs ht hm hag hu hl _ ih =>
    have h1 := yl_load_eN (P := P) (ty := 0) hs (x := .tmp t) (by exact ht) hag hm hu hl w hO
    have h2 : (loadVar ty ⟨b, off, none⟩).run P w = .ok (.agg ⟨us⟩) w := by
      have he := hs.eval (x := .tmp t) ht
      simp only [execOp, Instr.loadAt, he, Instr.sureAddr, Sem.run_bind, Sem.run_pure, Result.andThen_ok] at h1
      generalize (loadVar ty ⟨b, off, none⟩).run P w = r at h1 ⊢
      cases r <;> simp_all
    simp only [List.mapM_cons, Sem.run_bind, asTmp ht, asA, Sem.run_pure, Result.andThen_ok, h2, ih]
theorem run_results (hs : St n D F a) (hO : OwnE w0 w L) {fn : Func} {rs : List ResultVar} {vs : List Value} (hr : fn.results = ⟨rs⟩) (h : ResIs P F L rs vs) :
    (results fn a.tmps).run P w = .ok (if hh : vs.length = 1 then vs[0] else .tuple ⟨vs⟩) w := by
  unfold results
  rw [hr, Array.mapM_eq_mapM_toList]
  have := h.run hs hO
  simp only [Sem.run_bind, Sem.run_map]
  refine (congrArg (fun r : Result (List Value) => ((r.andThen fun a w' => Result.ok a.toArray w').andThen fun a w' => Sem.run P (pure (if h : a.size = 1 then a[0] else Value.tuple a)) w')) this).trans ?_
  simp
variable {fn : Func} {R : Ending → World → Prop}
theorem ret1 (hs : St n [] F a) (hO : OwnE w0 w L) {r : ResultVar} {v : Value} (hr : fn.results = ⟨[r]⟩) (h : ResIs P F L [r] [v]) (hR : R (.returned v) w) : bodyPost P fn R .ret a w :=
  ⟨hs.defs, v, by rw [run_results hs hO hr h]; simp, hR⟩
theorem ret0 (hs : St n [] F a) (hr : fn.results = ⟨[]⟩) (hR : R (.returned (.tuple ⟨[]⟩)) w) : bodyPost P fn R .ret a w :=
  ⟨hs.defs, .tuple ⟨[]⟩, by unfold results; rw [hr]; simp, hR⟩
theorem fall0 (hs : St n [] F a) (hr : fn.results = ⟨[]⟩) (hR : R (.returned (.tuple ⟨[]⟩)) w) : bodyPost P fn R .normal a w := ret0 (P := P) hs hr hR
theorem ret2 (hs : St n [] F a) (hO : OwnE w0 w L) {r s : ResultVar} {rs : List ResultVar} {v u : Value} {vs : List Value} (hr : fn.results = ⟨r :: s :: rs⟩) (h : ResIs P F L (r :: s :: rs) (v :: u :: vs)) (hR : R (.returned (.tuple ⟨v :: u :: vs⟩)) w) : bodyPost P fn R .ret a w :=
  ⟨hs.defs, .tuple ⟨v :: u :: vs⟩, by rw [run_results hs hO hr h]; simp, hR⟩
theorem then_n {K : Act → World → Prop} (h : K a w) : Exit.then K Q .normal a w := h
theorem then_x {K : Act → World → Prop} {id : Nat} (h : Q (.exit id) a w) : Exit.then K Q (.exit id) a w := h
theorem then_r {K : Act → World → Prop} (h : Q .ret a w) : Exit.then K Q .ret a w := h
theorem then_p {K : Act → World → Prop} {c : List PanicEntry} (h : Q (.panic c) a w) : Exit.then K Q (.panic c) a w := h
theorem inB_n {id : Nat} (h : Q .normal a w) : Exit.inBlock id Q .normal a w := h
theorem inB_r {id : Nat} (h : Q .ret a w) : Exit.inBlock id Q .ret a w := h
theorem inB_p {id : Nat} {c : List PanicEntry} (h : Q (.panic c) a w) : Exit.inBlock id Q (.panic c) a w := h
theorem seq {x y : Code} (h : x.wp P (Exit.then (y.wp P Q) Q) a w) : (Code.seq x y).wp P Q a w := wp_seq h
theorem seq_cut {x y : Code} {R : Act → World → Prop} (h : x.wp P (Exit.then R Q) a w) (k : ∀ a w, R a w → y.wp P Q a w) : (Code.seq x y).wp P Q a w := by
  refine wp_seq (wp_mono h fun e a w q => ?_)
  cases e with
  | normal => exact k a w q
  | _ => exact q
theorem block {id : Nat} {c : Code} (h : c.wp P (Exit.inBlock id Q) a w) : (Code.block id c).wp P Q a w := wp_block h
theorem skip (h : Q .normal a w) : Code.skip.wp P Q a w := wp_skip h
theorem exit_ {id : Nat} (h : Q (.exit id) a w) : (Code.exit id).wp P Q a w := wp_exit h
theorem retc (h : Q .ret a w) : Code.ret.wp P Q a w := wp_ret h
/-- A slot that holds a Bool: both ways. -/
theorem split (hs : St n D F a) (t : Nat) {b : Bool} {p : Prop} (_ : look F t = some (.bool b)) (ht : b = true → p) (hf : b = false → p) : p := by
  have := hs.size
  cases b <;> simp_all
section
variable {ops : Array Oper} {rest : List Oper} {op : Op} {pos : String} {aft : Array Edge} {d ty : Nat} {v : Value}
theorem so (hs : St n D F a) (hO : OwnE w0 w L) (hy : Yl P (fun w => OwnE w0 w L) a op ty v) (hd : Nat.blt d n = true) (k : ∀ a', St n D ((d, v) :: F) a' → wpList P ops Q rest a' w) :
    wpList P ops Q (⟨some d, op, ty, pos, aft, none⟩ :: rest) a w := stepL (C := fun w => OwnE w0 w L) hs hy hO hd k
theorem sog (hs : St n D F a) (hO : OwnE w0 w L) {j t : Nat} {want b : Bool} (hj : ((ops[j]?).bind (·.dst)) = some t) (hb : look F t = some (.bool b)) (hw : b = want) (hy : Yl P (fun w => OwnE w0 w L) a op ty v) (hd : Nat.blt d n = true)
    (k : ∀ a', St n D ((d, v) :: F) a' → wpList P ops Q rest a' w) : wpList P ops Q (⟨some d, op, ty, pos, aft, some (j, want)⟩ :: rest) a w :=
  stepLg (C := fun w => OwnE w0 w L) hs hj hb hw hy hO hd k
theorem son (hs : St n D F a) {j t : Nat} {want b : Bool} (hj : ((ops[j]?).bind (·.dst)) = some t) (hb : look F t = some (.bool b)) (hw : b = !want) (hd : Nat.blt d n = true)
    (k : ∀ a', St n D ((d, undef) :: F) a' → wpList P ops Q rest a' w) : wpList P ops Q (⟨some d, op, ty, pos, aft, some (j, want)⟩ :: rest) a w := stepLn hs hj hb hw hd k
end
theorem subB_nil : subB [] F := trivial
theorem subB_cons {k : Nat} {v : Value} {r : Fr} (h : look F k = some v) (t : subB r F) : subB ((k, v) :: r) F := ⟨h, t⟩
/-- A call that returns. -/
def Ret (φ : Value → World → Prop) : Ending → World → Prop
  | .returned v, w => φ v w
  | _, _ => False
theorem Ret.mk {φ : Value → World → Prop} {v : Value} (h : φ v w) : Ret φ (.returned v) w := h
theorem callR {ops : Array Oper} {rest : List Oper} {ty d : Nat} {pos : String} {aft : Array Edge} (hs : St n D F a) {x : Operand} {f : FuncId} {caps : List Value} {args : List Operand} {at_ : Array TypeId} {vs : List Value} {φ : Value → World → Prop}
    (hx : ev F x = some (.func (.func f) #[] ⟨caps⟩)) (hargs : evL F args = some vs) (hf : ((P.funcs[f]?).any fun fn => fn.body.isSome && fn.name != "runtime.NumGoroutine") = true)
    (hcall : Calls P f ⟨vs ++ caps⟩ w (Ret φ)) (hd : Nat.blt d n = true)
    (k : ∀ v w', φ v w' → ∀ a', St n D ((d, v) :: F) a' → wpList P ops Q rest a' w') :
    wpList P ops Q (⟨some d, .call ⟨.value x, ⟨args⟩, at_⟩, ty, pos, aft, none⟩ :: rest) a w :=
  stepCall hs hx (by simp [hs.evalL hargs]) hf hcall hd k (fun _ _ h => h.elim) (fun _ h => h)
/-- A guarded call that is wanted. -/
theorem callRg {ops : Array Oper} {rest : List Oper} {ty d : Nat} {pos : String} {aft : Array Edge} (hs : St n D F a) {j t : Nat} {want b : Bool} (hj : ((ops[j]?).bind (·.dst)) = some t) (hb : look F t = some (.bool b)) (hw : b = want)
    {x : Operand} {f : FuncId} {caps : List Value} {args : List Operand} {at_ : Array TypeId} {vs : List Value} {φ : Value → World → Prop}
    (hx : ev F x = some (.func (.func f) #[] ⟨caps⟩)) (hargs : evL F args = some vs) (hf : ((P.funcs[f]?).any fun fn => fn.body.isSome && fn.name != "runtime.NumGoroutine") = true)
    (hcall : Calls P f ⟨vs ++ caps⟩ w (Ret φ)) (hd : Nat.blt d n = true)
    (k : ∀ v w', φ v w' → ∀ a', St n D ((d, v) :: F) a' → wpList P ops Q rest a' w') :
    wpList P ops Q (⟨some d, .call ⟨.value x, ⟨args⟩, at_⟩, ty, pos, aft, some (j, want)⟩ :: rest) a w := by
  have h0 := callR (P := P) (ops := ops) (Q := Q) (rest := rest) (ty := ty) (pos := pos) (aft := aft) (at_ := at_) hs hx hargs hf hcall hd k
  unfold wpList at h0 ⊢
  rw [wanted_of hs hj hb _ rfl]
  simp only [hw, beq_self_eq_true, if_true]
  simpa [Region.wanted, Oper.wp, Oper.asks, execOp_oper, Oper.upon] using h0
/-- A quiet call: it returns the same value in each world of the class, and leaves one of the class. -/
theorem callQ {ops : Array Oper} {Q : Act → Prop} {C : World → Prop} {rest : List Oper} {ty d : Nat} {pos : String} {aft : Array Edge} (hs : St n D F a) {x : Operand} {f : FuncId} {caps : List Value} {args : List Operand} {at_ : Array TypeId} {vs : List Value} {v : Value}
    (hx : ev F x = some (.func (.func f) #[] ⟨caps⟩)) (hargs : evL F args = some vs) (hf : ((P.funcs[f]?).any fun fn => fn.body.isSome && fn.name != "runtime.NumGoroutine") = true)
    (hcall : ∀ w, C w → Calls P f ⟨vs ++ caps⟩ w (Ret fun u w' => u = v ∧ C w')) (hd : Nat.blt d n = true)
    (k : ∀ a', St n D ((d, v) :: F) a' → wpQuiet P ops C Q rest a') :
    wpQuiet P ops C Q (⟨some d, .call ⟨.value x, ⟨args⟩, at_⟩, ty, pos, aft, none⟩ :: rest) a := by
  refine wpQuiet_step fun K hK => ?_
  simp only [Region.wanted, if_true]
  refine ⟨v, fun w hw => ?_, hK _ (k _ (hs.put v (by simpa using hd)))⟩
  unfold Oper.quietAt
  have hrun : (execOp a.eval ⟨some d, .call ⟨.value x, ⟨args⟩, at_⟩, ty, pos, aft, none⟩).run P w = .ok (.enter f ⟨vs ++ caps⟩) w := by
    rw [Option.any_eq_true] at hf
    obtain ⟨fn, hfn, hb⟩ := hf
    simp only [Bool.and_eq_true, bne_iff_ne, ne_eq] at hb
    obtain ⟨c, hc⟩ := Option.isSome_iff_exists.1 hb.1
    simp [execOp, resolve, Deferred.ofValue, hs.eval hx, invoke, callFunc, program, Sem.run, hfn, hb.2, hc, hs.evalL hargs]
  rw [hrun]
  refine ⟨rfl, (hcall w hw).mono fun e w' he => ?_⟩
  cases e with
  | returned u => obtain ⟨rfl, hC⟩ := he; exact ⟨rfl, hC⟩
  | panicked c => exact he.elim
  | outgrown => exact he.elim
end
end Go.E
