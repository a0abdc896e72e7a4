/- The engine, part 7: slices of slices of numbers. -/
import Derived.Test.YtebfglbnemahiaaE6
namespace Go.E
open Go.RowKit
inductive All2 {α β : Type} (R : α → β → Prop) : List α → List β → Prop
  | nil : All2 R [] []
  | cons {x y xs ys} : R x y → All2 R xs ys → All2 R (x :: xs) (y :: ys)
theorem All2.mono {α β : Type} {R S : α → β → Prop} (hRS : ∀ x y, R x y → S x y) {xs : List α} {ys : List β} (h : All2 R xs ys) : All2 S xs ys := by
  induction h with
  | nil => exact .nil
  | cons h _ ih => exact .cons (hRS _ _ h) ih
theorem All2.length {α β : Type} {R : α → β → Prop} {xs : List α} {ys : List β} (h : All2 R xs ys) : xs.length = ys.length := by
  induction h with
  | nil => rfl
  | cons _ _ ih => simp [ih]
theorem All2.snoc {α β : Type} {R : α → β → Prop} {xs : List α} {ys : List β} {x : α} {y : β} (h : All2 R xs ys) (hxy : R x y) : All2 R (xs ++ [x]) (ys ++ [y]) := by
  induction h with
  | nil => exact .cons hxy .nil
  | cons h _ ih => exact .cons h ih
theorem All2.get {α β : Type} {R : α → β → Prop} {xs : List α} {ys : List β} (h : All2 R xs ys) : ∀ {i : Nat} {x : α}, xs[i]? = some x → ∃ y, ys[i]? = some y ∧ R x y := by
  induction h with
  | nil => intro i x h; simp at h
  | cons h _ ih =>
    intro i x hx
    cases i with
    | zero => simp at hx; subst hx; exact ⟨_, by simp, h⟩
    | succ i => simpa using ih (i := i) (by simpa using hx)
abbrev idV : Value → Value := fun v => v
/-- A slice of slices that reads as rows. -/
def RdRows {α : Type} (enc : α → Value) (sz : Nat) (H : Nat → Obj → Prop) (rs : List (List α)) (v : Value) : Prop :=
  ∃ hs, Rd idV 1 H hs v ∧ All2 (fun r h => Rd enc sz H r h) rs hs
section
variable {P : Program} {a : Act} {n : Nat} {D : List Deferred} {F : Fr} {ty : TypeId} {w w0 : World} {L : List Ent}
variable {α : Type} {enc : α → Value} {sz : Nat} {H : Nat → Obj → Prop} {A : Option Addr}
theorem yl_ldRow (hs : St n D F a) {x : Operand} {t k : Nat} {us : List Value} (hx : ev F x = some (.pointer (some (eA A (k * 1))))) (ht : scalarB P t = true)
    (hr : RowR H 1 (us.map idV) A) (hH : Val w0 L H) {B : Option Addr} {l c : Nat} (hk : us[k]? = some (.slice B l c)) : Yl P (fun w => OwnE w0 w L) a (.load t x) ty (.slice B l c) :=
  yl_load_el1 hs hx ht hH hr (by rw [List.getElem?_map, hk]; rfl) rfl
end
theorem OwnE.swap2 {w0 w : World} {L : List Ent} {e e' e'' : Ent} (h : OwnE w0 w (e :: e' :: e'' :: L)) : OwnE w0 w (e' :: e'' :: e :: L) :=
  h.perm ((List.Perm.swap _ _ _).trans ((List.Perm.swap _ _ _).cons _))
end Go.E
