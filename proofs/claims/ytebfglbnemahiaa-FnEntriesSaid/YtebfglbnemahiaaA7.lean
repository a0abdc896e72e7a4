import Derived.Test.YtebfglbnemahiaaProg
import Derived.Test.YtebfglbnemahiaaA5
import Derived.Test.YtebfglbnemahiaaM2
import Derived.Test.YtebfglbnemahiaaE10
namespace Go.Proofs.Ytebfglbnemahiaa
open Go.RowKit Go.E Go.Ents
set_option linter.unusedVariables false
set_option linter.unusedSimpArgs false
theorem take_back {n k : Nat} (h : k < n) : (List.range n).reverse.take (k + 1) = (List.range n).reverse.take k ++ [n - 1 - k] := by
  rw [List.take_succ_eq_append_getElem (by simpa using h)]
  simp
theorem own_list {w : World} : ∀ {l : Ent}, (l.map Prod.fst).Nodup → (∀ p ∈ l, w.heap[p.1]? = some p.2) → OwnE { w with heap := #[] } w [l] := fun hn hw =>
  ⟨⟨rfl, rfl, rfl, by simp, fun k hk => by simp at hk⟩, by simpa using hw, by simpa using hn, fun _ _ => by simp⟩
set_option maxHeartbeats 4000000 in
theorem Back1_calls (xs : List Int) (bx l : Nat) {A : Option Addr} {c : Nat} {E : Ent} (J Jx : List {k : Nat // k < xs.length} → World → Prop) {w0 w : World} {L : List Ent} (hO : OwnE w0 w ([(bx, row 24 [.slice A xs.length c])] :: E :: L)) (hr : RowR (inE E) 1 (xs.map I) A) (hc : xs.length ≤ c ∧ c ≤ 9223372036854775807) (hnd : (((bx, row 24 [.slice A xs.length c]) :: E).map Prod.fst).Nodup) (hw : ∀ p ∈ ((bx, row 24 [.slice A xs.length c]) :: E), w.heap[p.1]? = some p.2)
    (hY : ∀ (pre : List {k : Nat // k < xs.length}) (x : {k : Nat // k < xs.length}) (W1 : World), J pre W1 → pre.length < xs.length → YieldAt (Wd none) 3 Try.prog l ((fun k : {k : Nat // k < xs.length} => #[I (k.1 : Int), I (xs.getD k.1 default)]) x) W1 fun e W' => (e = .returned (.bool true) ∧ J (pre ++ [x]) W' ∧ keepP ((bx, row 24 [.slice A xs.length c]) :: E) W1 W') ∨ (e = .returned (.bool false) ∧ Jx (pre ++ [x]) W')) (hJ0 : J [] w) : Calls Try.prog 48 ⟨[.func (.yield l) #[] #[], .pointer (some ⟨bx, 0, none⟩)]⟩ w (Ret (fun _ w => (∃ ks, ks.map Subtype.val = (List.range xs.length).reverse ∧ J ks w) ∨ (∃ pre, Jx pre w))) := by
  refine enter Try.func48 rfl Try.ntmps48 rfl ?_
  intro a h
  have hO0 := hO
  refine seq ?_
  refine region ?_
  refine so h hO (yl_load_e h rfl p34 (by first | with_reducible exact mem0 | with_reducible exact memS (mem0) | with_reducible exact memS (memS (mem0)) | with_reducible exact memS (memS (memS (mem0))) | with_reducible exact memS (memS (memS (memS (mem0)))) | with_reducible exact memS (memS (memS (memS (memS (mem0))))) | with_reducible exact memS (memS (memS (memS (memS (memS (mem0)))))) | with_reducible exact memS (memS (memS (memS (memS (memS (memS (mem0))))))) | with_reducible exact memS (memS (memS (memS (memS (memS (memS (memS (mem0)))))))) | with_reducible exact memS (memS (memS (memS (memS (memS (memS (memS (memS (mem0))))))))) | with_reducible exact memS (memS (memS (memS (memS (memS (memS (memS (memS (memS (mem0)))))))))) | with_reducible exact memS (memS (memS (memS (memS (memS (memS (memS (memS (memS (memS (mem0))))))))))) | with_reducible exact memS (memS (memS (memS (memS (memS (memS (memS (memS (memS (memS (memS (mem0)))))))))))) | with_reducible exact memS (memS (memS (memS (memS (memS (memS (memS (memS (memS (memS (memS (memS (mem0)))))))))))))) (by rfl)) rfl ?_; clear h a; intro a h
  refine so h hO (yl_len h rfl p0) rfl ?_; clear h a; intro a h
  first | (refine so h hO (yl_sub64 h rfl rfl (by omega)) rfl ?_) | (refine so h hO (yl_sub h rfl rfl) rfl ?_)
  clear h a; intro a h
  refine so h hO (yl_assign h rfl) rfl ?_; clear h a; intro a h
  refine endL ?_
  refine then_n ?_
  refine block ?_
  refine loop (fun (k : Nat) a w => ∃ (i : Int) (pre : List {k : Nat // k < xs.length}), k ≤ xs.length ∧ i = (xs.length : Int) - 1 - k ∧ pre.length = k ∧ pre.map Subtype.val = (List.range xs.length).reverse.take k ∧ J pre w ∧ (∀ p ∈ ((bx, row 24 [.slice A xs.length c]) :: E), w.heap[p.1]? = some p.2) ∧ St 19 [] [(0, .func (.yield l) #[] #[]), (1, .pointer (some ⟨bx, 0, none⟩)), (3, .int .i64 i)] a) (fun k => xs.length - k) 0 ?_ ?_
  · exact ⟨_, [], Nat.zero_le _, by omega, rfl, by simp, hJ0, hw, h.weak (subB_cons rfl (subB_cons rfl (subB_cons rfl (subB_nil))))⟩
  · clear hJ0 hw hO0
    clear h a hO w
    rintro k a w ⟨i, pre, hk, hi, hpl, hpm, hJ, hw, h⟩
    clear w0
    have hO := (own_list (w := w) hnd hw).split (e := [_]) (e' := E)
    generalize ({ w with heap := #[] } : World) = w0 at hO
    refine seq ?_
    refine seq ?_
    refine region ?_
    refine so h hO (yl_move h rfl) rfl ?_; clear h a; intro a h
    refine so h hO (yl_ge h rfl rfl) rfl ?_; clear h a; intro a h
    refine endL ?_
    refine then_n ?_
    refine cond_s h rfl (fun hb1 => ?_) (fun hb1 => ?_)
    · have hp1 := hb1
      try simp only [decide_eq_true_eq, decide_eq_false_iff_not, Bool.not_eq_true', Bool.not_eq_false', Int.not_lt, Int.not_le, ne_eq, Decidable.not_not] at hp1
      refine skip ?_
      refine then_n ?_
      refine seq ?_
      refine block ?_
      refine seq ?_
      obtain ⟨j, hj⟩ : ∃ j : Nat, i = j := ⟨i.toNat, by omega⟩
      subst hj
      have hjl : j < xs.length := by omega
      have hY1 := hY pre ⟨j, hjl⟩ w hJ (by omega)
      refine regionIn 4 ?_
      refine lin rfl ?_
      refine so h hO (yl_move h rfl) rfl ?_; clear h a; intro a h
      refine endE ?_
      refine lin rfl ?_
      refine so h hO (yl_move h rfl) rfl ?_; clear h a; intro a h
      refine endE ?_
      refine lin rfl ?_
      refine so h hO (yl_load_e h rfl p34 (by first | with_reducible exact mem0 | with_reducible exact memS (mem0) | with_reducible exact memS (memS (mem0)) | with_reducible exact memS (memS (memS (mem0))) | with_reducible exact memS (memS (memS (memS (mem0)))) | with_reducible exact memS (memS (memS (memS (memS (mem0))))) | with_reducible exact memS (memS (memS (memS (memS (memS (mem0)))))) | with_reducible exact memS (memS (memS (memS (memS (memS (memS (mem0))))))) | with_reducible exact memS (memS (memS (memS (memS (memS (memS (memS (mem0)))))))) | with_reducible exact memS (memS (memS (memS (memS (memS (memS (memS (memS (mem0))))))))) | with_reducible exact memS (memS (memS (memS (memS (memS (memS (memS (memS (memS (mem0)))))))))) | with_reducible exact memS (memS (memS (memS (memS (memS (memS (memS (memS (memS (memS (mem0))))))))))) | with_reducible exact memS (memS (memS (memS (memS (memS (memS (memS (memS (memS (memS (memS (mem0)))))))))))) | with_reducible exact memS (memS (memS (memS (memS (memS (memS (memS (memS (memS (memS (memS (memS (mem0)))))))))))))) (by rfl)) rfl ?_; clear h a; intro a h
      refine endE ?_
      refine lin rfl ?_
      refine so h hO (yl_move h rfl) rfl ?_; clear h a; intro a h
      refine endE ?_
      refine lin rfl ?_
      refine so h hO (yl_ix h rfl rfl p0 (by assumption) (by simp) (by omega)) rfl ?_; clear h a; intro a h
      refine endE ?_
      refine lin rfl ?_
      refine so h hO (yl_ld1 h rfl p1 (by assumption) (by first | assumption | exact Val.sub (by assumption) (by repeat (first | with_reducible exact List.Sublist.refl _ | with_reducible refine List.Sublist.cons_cons _ ?_ | refine List.Sublist.cons _ ?_)) | with_reducible exact Val.ext _ _ | exact Val.ent (by first | with_reducible exact mem0 | with_reducible exact memS (mem0) | with_reducible exact memS (memS (mem0)) | with_reducible exact memS (memS (memS (mem0))) | with_reducible exact memS (memS (memS (memS (mem0)))) | with_reducible exact memS (memS (memS (memS (memS (mem0))))) | with_reducible exact memS (memS (memS (memS (memS (memS (mem0)))))) | with_reducible exact memS (memS (memS (memS (memS (memS (memS (mem0))))))) | with_reducible exact memS (memS (memS (memS (memS (memS (memS (memS (mem0)))))))) | with_reducible exact memS (memS (memS (memS (memS (memS (memS (memS (memS (mem0))))))))) | with_reducible exact memS (memS (memS (memS (memS (memS (memS (memS (memS (memS (mem0)))))))))) | with_reducible exact memS (memS (memS (memS (memS (memS (memS (memS (memS (memS (memS (mem0))))))))))) | with_reducible exact memS (memS (memS (memS (memS (memS (memS (memS (memS (memS (memS (memS (mem0)))))))))))) | with_reducible exact memS (memS (memS (memS (memS (memS (memS (memS (memS (memS (memS (memS (memS (mem0))))))))))))))) (by omega) (fun _ => rfl)) rfl ?_; clear h a; intro a h
      refine endE ?_
      refine yieldL h rfl rfl hY1 rfl ?_ (fun _ _ h => by rcases h with h | h <;> cases h.1) (fun _ h => by rcases h with h | h <;> cases h.1)
      clear hY1 h a hO
      intro v w2 hR a h
      rcases hR with ⟨hv, hJ2, hK⟩ | ⟨hv, hJx2⟩
      · injection hv with hv; subst hv; clear hJ; have hJ := hJ2; clear hJ2; have hw2 : ∀ p ∈ ((bx, row 24 [.slice A xs.length c]) :: E), w2.heap[p.1]? = some p.2 := fun p hp => hK p hp (hw p hp); clear hw hK; have hw := hw2; clear hw2; clear w; rename World => w
        have hO := OwnE.start w
        refine lin rfl ?_
        refine so h hO (yl_not h rfl) rfl ?_; clear h a; intro a h
        refine endE ?_
        refine endLI ?_
        refine then_n ?_
        refine cond_f h rfl rfl ?_
        refine skip ?_
        refine inB_n ?_
        refine then_n ?_
        refine region ?_
        refine so h hO (yl_move h rfl) rfl ?_; clear h a; intro a h
        first | (refine so h hO (yl_sub64 h rfl rfl (by omega)) rfl ?_) | (refine so h hO (yl_sub h rfl rfl) rfl ?_)
        clear h a; intro a h
        refine so h hO (yl_assign h rfl) rfl ?_; clear h a; intro a h
        refine endL ?_
        refine then_n ?_
        refine ⟨k + 1, by omega, _, pre ++ [⟨j, hjl⟩], by omega, ?_, by simp [hpl], ?_, hJ, hw, h.weak (subB_cons rfl (subB_cons rfl (subB_cons rfl (subB_nil))))⟩
        · omega
        · rw [List.map_append, hpm, take_back (by omega)]; simp; omega
      · injection hv with hv; subst hv
        clear hJ hw w; rename World => w
        have hO := OwnE.start w
        refine lin rfl ?_
        refine so h hO (yl_not h rfl) rfl ?_; clear h a; intro a h
        refine endE ?_
        refine endLI ?_
        refine then_n ?_
        refine cond_t h rfl rfl ?_
        refine retc ?_
        refine inB_r (then_r (then_r (inB_r (ret0 h Try.results48 ?_))))
        refine Ret.mk ?_
        exact .inr ⟨_, hJx2⟩
    · have hp1 := hb1
      try simp only [decide_eq_true_eq, decide_eq_false_iff_not, Bool.not_eq_true', Bool.not_eq_false', Int.not_lt, Int.not_le, ne_eq, Decidable.not_not] at hp1
      refine exit_ ?_
      refine then_x ?_
      refine then_x ?_
      refine inB_same ?_
      refine fall0 h Try.results48 ?_
      refine Ret.mk ?_
      refine .inl ⟨pre, ?_, hJ⟩
      rw [hpm, show k = xs.length by omega, List.take_of_length_le (by simp)]
theorem Back1_seq (xs : List Int) (bx : Nat) {A : Option Addr} {c : Nat} {E : Ent} (hr : RowR (inE E) 1 (xs.map I) A) (hc : xs.length ≤ c ∧ c ≤ 9223372036854775807) (hnd : (((bx, row 24 [.slice A xs.length c]) :: E).map Prod.fst).Nodup) {w : World} (hw : ∀ p ∈ ((bx, row 24 [.slice A xs.length c]) :: E), w.heap[p.1]? = some p.2) :
    SeqStopsK (Wd none) 4 Try.prog 48 ⟨[.pointer (some ⟨bx, 0, none⟩)]⟩ (fun k : {k : Nat // k < xs.length} => #[I (k.1 : Int), I (xs.getD k.1 default)]) (keepP ((bx, row 24 [.slice A xs.length c]) :: E)) (fun ks => ks.map Subtype.val = (List.range xs.length).reverse) (fun _ => True) xs.length w := by
  intro l J Jx W hW hJ hJx hY h0
  have hwW : ∀ p ∈ ((bx, row 24 [.slice A xs.length c]) :: E), W.heap[p.1]? = some p.2 := fun p hp => by rw [hW.block p.1 (Array.getElem?_eq_some_iff.1 (hw p hp)).1]; exact hw p hp
  refine (callsIn_wide (n := 4)).2 (Calls.mono (Back1_calls xs bx l J Jx (L := []) ((own_list hnd hwW).split (e := [_]) (e' := E)) hr hc hnd hwW hY h0) fun e w' he => ?_)
  cases e with
  | returned v => exact ⟨⟨v, rfl⟩, he.elim .inl fun ⟨pre, h⟩ => .inr ⟨pre, trivial, h⟩⟩
  | panicked c => exact he.elim
  | outgrown => exact he.elim
set_option maxHeartbeats 4000000 in
theorem Back_spec {v : Value} {w0 w : World} {L : List Ent} (hO : OwnE w0 w L) (hv : ∃ A l c, v = .slice A l c) : Calls Try.prog 36 ⟨[v]⟩ w (Ret (fun u w => ∃ bx, u = .func (.func 48) #[] #[.pointer (some ⟨bx, 0, none⟩)] ∧ OwnE w0 w ([(bx, row 24 [v])] :: L))) := by
  refine enter Try.func36 rfl Try.ntmps36 rfl ?_
  intro a h
  obtain ⟨A, l, c, rfl⟩ := hv
  refine seq ?_
  refine region ?_
  refine stepBox h hO rfl rfl ?_; clear h hO a w; intro a b1 w h hO
  refine so h hO (yl_assign h rfl) rfl ?_; clear h a; intro a h
  refine endL ?_
  refine then_n ?_
  refine seq ?_
  refine region ?_
  refine so h hO (yl_makeFuncL h rfl) rfl ?_; clear h a; intro a h
  refine so h hO (yl_assign h rfl) rfl ?_; clear h a; intro a h
  refine endL ?_
  refine then_n ?_
  refine retc ?_
  refine ret1 h hO Try.results36 (.tmp rfl .nil) ?_
  refine Ret.mk ?_
  exact ⟨_, rfl, hO⟩
end Go.Proofs.Ytebfglbnemahiaa
