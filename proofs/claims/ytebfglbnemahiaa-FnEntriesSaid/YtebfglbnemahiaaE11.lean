/- The engine, part 11: bytes that came in, and a row over them. -/
import Derived.Test.YtebfglbnemahiaaE8
import Derived.WalkKit
import Derived.ProofKit
import Derived.OpenShut
import Derived.ChangeOld
namespace Go.E
open Go.RowKit
/-- A slice of numbers that came in: it is nil, or leads to a row of numbers. -/
def IsRow (k : IntKind) (w : World) (a : Option Addr) (len cap : Nat) (zs : List Int) : Prop :=
  (a = none ∧ len = 0 ∧ cap = 0 ∧ zs = []) ∨
  ∃ x, a = some x ∧ len ≤ cap ∧ cap ≤ maxLen ∧ zs.length = cap ∧ (∀ i, i < zs.length → w.cell? (x.add i) = some (.int k (zs.getD i 0))) ∧ ∀ n ∈ zs, (Lit.int k n).wf = true
theorem addr_add (b off : Nat) (i : Nat) : (⟨b, off, none⟩ : Addr).add i = ⟨b, off + i, none⟩ := by unfold Addr.add; by_cases e : i = 0 <;> simp [e]
/-- It reads as a list. -/
theorem IsRow.rd {w : World} {a : Option Addr} {len cap : Nat} {zs : List Int} (h : IsRow .u8 w a len cap zs) : ∃ code : List Int, Rd U8 1 (extH w) code (.slice a len cap) ∧ ∀ x ∈ code, 0 ≤ x ∧ x ≤ 255 := by
  rcases h with ⟨rfl, rfl, rfl, rfl⟩ | ⟨x, rfl, hl, hm, hz, hcell, hwz⟩
  · exact ⟨[], Rd.nil _ _ _ _ (by decide), by simp⟩
  · refine ⟨zs.take len, ⟨some x, cap, by simp [List.length_take]; omega, by simp only [List.length_take]; simp only [maxLen] at hm; omega, ?_⟩, fun y hy => ?_⟩
    · by_cases h0 : len = 0
      · exact .inl (by simp [h0])
      · have hc0 := hcell 0 (by omega)
        obtain ⟨b, off, spot⟩ := x
        have hspot : spot = none := by simpa [Addr.add] using World.cell?_spot hc0
        subst hspot
        rw [addr_add] at hc0
        obtain ⟨c, T, fr, ho⟩ : ∃ c T fr, w.heap[b]? = some (.cells c T fr) := by
          unfold World.cell? at hc0
          split at hc0
          · rename_i c T fr ho; exact ⟨c, T, fr, ho⟩
          · cases hc0
        refine .inr ⟨b, off, c, T, fr, rfl, ho, fun i v hv => ?_⟩
        rw [List.getElem?_map, List.getElem?_take] at hv
        split at hv
        · rename_i hi
          rw [Option.map_eq_some_iff] at hv
          obtain ⟨n, hn, rfl⟩ := hv
          refine ⟨rfl, fun j u hu => ?_⟩
          cases j with
          | zero =>
            have hu : u = U8 n := by simpa [cells1, Value.cells] using hu.symm
            subst hu
            have := hcell i (by omega)
            rw [addr_add, World.cell?, ho] at this
            simp only [Option.isSome_none, Bool.false_eq_true, if_false] at this
            rw [Nat.mul_one, Nat.add_zero, this]
            simp [List.getD_eq_getElem?_getD, hn]
          | succ j => simp [cells1, Value.cells] at hu
        · simp at hv
    · have := hwz y (List.mem_of_mem_take hy)
      simp only [Lit.wf, Bool.and_eq_true, decide_eq_true_eq] at this
      exact this
end Go.E
