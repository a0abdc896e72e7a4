/- The engine, part 9: a range over a function. -/
import Derived.Test.YtebfglbnemahiaaE8
import Derived.RangeFuncKeeps
import Derived.RangeFuncLeaves
namespace Go.E
open Go.RowKit
/-- No fence, in a round or not. -/
abbrev Wd (ro : Option Nat) : Fence := { Fence.wide with round := ro }
section
variable {P : Program} {ops : Array Oper} {a : Act} {w : World} {o : Oper} {rest : List Oper} {Q : Exit → Act → World → Prop} {m : Nat} {ro : Option Nat} {K : Act → World → Prop}
theorem rowsIn_Wd {row : String} {args : Array Value} {R : Value → World → Prop} (h : Rows P row args w R) : RowsIn (Wd ro) m P row args w R := fun c cs _ => by
  obtain ⟨v, w', hr, hs⟩ := h c cs
  exact ⟨v, w', hr, stepsIn_wide.2 hs⟩
theorem callsIn_Wd {f : FuncId} {args : Array Value} {R : Ending → World → Prop} (h : Calls P f args w R) : CallsIn (Wd ro) m P f args w R := callsIn_wide (n := m).2 h
theorem lin (hs : (match o.op with | .defer _ => false | _ => true) = true) (h : wpList P ops (KQ (wpListIn (Wd ro) m P ops Q rest)) [o] a w) : wpListIn (Wd ro) m P ops Q (o :: rest) a w := by
  have hs' : ∀ c, o.op ≠ .defer c := fun c e => by rw [e] at hs; cases hs
  unfold wpListIn
  unfold wpList at h
  split
  · rename_i hw
    simp only [hw, if_true] at h
    rcases h with h | ⟨_, h⟩
    · refine ⟨fun _ _ => trivial, ?_⟩
      rw [Oper.semAt_eq _ _ _ hs']
      unfold Oper.wp at h
      generalize (execOp a.eval o).run P w = r at *
      cases r with
      | ok n w' =>
        cases n <;> simp only [Oper.upon] at h <;> simp only [Oper.uponIn]
        case value v => exact h
        case skip => exact h
        case defer d => exact h
        case enter f args =>
          refine ⟨fun hh => (by cases hh), callsIn_Wd (Calls.mono h fun e w'' he => ?_)⟩
          cases e with
          | returned v => exact he
          | panicked c => exact False.elim he
          | outgrown => exact absurd he KQ_out
        case row row args => exact ⟨fun hh => (by cases hh), rowsIn_Wd (Rows.mono h fun _ _ he => he)⟩
      | halt x w' => cases x <;> simp only [Oper.upon] at h <;> exact False.elim h
    · exact absurd h KQ_out
  · rename_i hw
    simp only [hw] at h
    exact ⟨fun _ _ => trivial, h⟩
/-- A call of a loop's body. -/
theorem yieldL {n : Nat} {D : List Deferred} {F : Fr} {d : Nat} {ty : TypeId} {pos : String} {aft : Array Edge} (hs : St n D F a) {x : Operand} {l : Nat} {args : List Operand} {at_ : Array TypeId} {vs : List Value} {R : Ending → World → Prop}
    (hx : ev F x = some (.func (.yield l) #[] #[])) (hargs : evL F args = some vs) (hy : YieldAt (Wd none) (m - 1) P l ⟨vs⟩ w R) (hd : Nat.blt d n = true)
    (k : ∀ v w', R (.returned v) w' → ∀ a', St n D ((d, v) :: F) a' → wpListIn (Wd none) m P ops Q rest a' w') (kp : ∀ c w', ¬ R (.panicked c) w') (ko : ∀ w', ¬ R .outgrown w') :
    wpListIn (Wd none) m P ops Q (⟨some d, .call ⟨.value x, ⟨args⟩, at_⟩, ty, pos, aft, none⟩ :: rest) a w := by
  obtain ⟨fn, tmps, assign, body, hrun, hR⟩ := hy
  have hrun' : (execOp a.eval ⟨some d, .call ⟨.value x, ⟨args⟩, at_⟩, ty, pos, aft, none⟩).run P w = .ok (.round l fn tmps assign body) w := by
    have h1 : (List.toArray (List.map a.eval args)) = (⟨vs⟩ : Array Value) := by rw [hs.evalL hargs]
    simp [execOp, resolve, Deferred.ofValue, hs.eval hx, invoke, Sem.run, h1, hrun]
  unfold wpListIn
  simp only [Region.wanted, if_true]
  refine ⟨fun _ _ => trivial, ?_⟩
  rw [Oper.semAt_none, hrun']
  simp only [Oper.uponIn]
  refine ⟨fun hh => (by cases hh), hR.mono fun e w' he => ?_⟩
  cases e with
  | returned v => exact k v w' he _ (hs.put v (by simpa using hd))
  | panicked c => exact absurd he (kp c w')
  | outgrown => exact absurd he (ko w')
theorem endLI (h : Q .normal a w) : wpListIn (Wd ro) m P ops Q [] a w := h
theorem regionIn {id : Nat} {l : List Oper} (m : Nat) (h : wpListIn (Wd none) m P l.toArray Q l a w) : (Code.region id l.toArray false).wp P Q a w := wpIn_wide.1 (wpIn_region_lit (F := Wd none) (n := m) h)
end
end Go.E
