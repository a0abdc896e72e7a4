import Derived.Test.YtebfglbnemahiaaProg
import Derived.Test.YtebfglbnemahiaaA2
import Derived.Test.YtebfglbnemahiaaE8
namespace Go.Proofs.Ytebfglbnemahiaa
open Go.RowKit Go.E Go.Ents
set_option linter.unusedVariables false
set_option linter.unusedSimpArgs false
theorem p41 : sliceB Try.prog 32 37 2 = true := by kernel_rfl
theorem p42 : (Try.prog.info? 37).bind (·.zero) = some (.agg ⟨[(.int .i64 0), (.int .i64 0)]⟩) := by kernel_rfl
theorem p43 : ((Try.prog.funcs[34]?).any fun fn => fn.body.isSome && fn.name != "runtime.NumGoroutine") = true := by kernel_rfl
theorem p44 : Try.prog.underlying 37 = some (.array 2 3) := by kernel_rfl
theorem p45 : appB Try.prog 32 37 2 = true := by kernel_rfl
theorem p46 : ((Try.prog.funcs[30]?).any fun fn => fn.body.isSome && fn.name != "runtime.NumGoroutine") = true := by kernel_rfl
theorem rowAt {xs : List Int} {hs : List Value} {H : Nat → Obj → Prop} (hAll : All2 (fun r h => Rd I 1 H r h) (rows xs) hs) {i : Nat} (hi : i < xs.length) : ∃ B c, hs[i]? = some (.slice B (opens (xs.take (i + 1))).length c) ∧ Rd I 1 H (opens (xs.take (i + 1))) (.slice B (opens (xs.take (i + 1))).length c) ∧ RowR H 1 ((opens (xs.take (i + 1))).map I) B := by
  obtain ⟨y, hy, hry⟩ := hAll.get (i := i) (x := opens (xs.take (i + 1))) (by rw [List.getElem?_eq_some_iff]; refine ⟨by rw [rows_length]; exact hi, ?_⟩; have := rows_get xs i hi; rw [getD_eq (by rw [rows_length]; exact hi)] at this; exact this)
  have hry0 := hry
  obtain ⟨B, c, rfl, hc, hr⟩ := hry
  exact ⟨B, c, hy, hry0, hr⟩
set_option maxHeartbeats 4000000 in
theorem MostOpen_i (xs : List Int) {v : Value} {H : Nat → Obj → Prop} {w0 w : World} {L : List Ent} (hO : OwnE w0 w L) (hv : Rd I 1 H xs v) (hH : Val w0 L H) : Calls Try.prog 14 ⟨[v]⟩ w (Ret (fun v w => v = .tuple ⟨[.int .i64 (if ok xs then mx xs xs.length else 0), .bool (ok xs)]⟩ ∧ OwnE w0 w L)) := by
  refine enter Try.func14 rfl Try.ntmps14 rfl ?_
  intro a h
  have hv0 := hv
  obtain ⟨A, c, rfl, hc, hr⟩ := hv
  refine seq ?_
  refine region ?_
  refine so h hO (yl_assign h rfl) rfl ?_; clear h a; intro a h
  refine so h hO (yl_assign h rfl) rfl ?_; clear h a; intro a h
  refine endL ?_
  refine then_n ?_
  refine seq ?_
  refine seq ?_
  refine region ?_
  refine so h hO (yl_move h rfl) rfl ?_; clear h a; intro a h
  refine callR h rfl rfl p37 (areEntries_spec _ hO (by assumption) (by first | assumption | exact Val.sub (by assumption) (by repeat (first | with_reducible exact List.Sublist.refl _ | with_reducible refine List.Sublist.cons_cons _ ?_ | refine List.Sublist.cons _ ?_)) | with_reducible exact Val.ext _ _ | exact Val.ent (by first | with_reducible exact mem0 | with_reducible exact memS (mem0) | with_reducible exact memS (memS (mem0)) | with_reducible exact memS (memS (memS (mem0))) | with_reducible exact memS (memS (memS (memS (mem0)))) | with_reducible exact memS (memS (memS (memS (memS (mem0))))) | with_reducible exact memS (memS (memS (memS (memS (memS (mem0)))))) | with_reducible exact memS (memS (memS (memS (memS (memS (memS (mem0))))))) | with_reducible exact memS (memS (memS (memS (memS (memS (memS (memS (mem0)))))))) | with_reducible exact memS (memS (memS (memS (memS (memS (memS (memS (memS (mem0))))))))) | with_reducible exact memS (memS (memS (memS (memS (memS (memS (memS (memS (memS (mem0)))))))))) | with_reducible exact memS (memS (memS (memS (memS (memS (memS (memS (memS (memS (memS (mem0))))))))))) | with_reducible exact memS (memS (memS (memS (memS (memS (memS (memS (memS (memS (memS (memS (mem0)))))))))))) | with_reducible exact memS (memS (memS (memS (memS (memS (memS (memS (memS (memS (memS (memS (memS (mem0)))))))))))))))) rfl ?_; clear h a hO w
  rintro _ w ⟨rfl, hO⟩ a h
  refine so h hO (yl_not h rfl) rfl ?_; clear h a; intro a h
  refine endL ?_
  refine then_n ?_
  refine cond_s h rfl (fun hb1 => ?_) (fun hb1 => ?_)
  · have hp1 := hb1
    try simp only [decide_eq_true_eq, decide_eq_false_iff_not, Bool.not_eq_true', Bool.not_eq_false', Int.not_lt, Int.not_le, ne_eq, Decidable.not_not] at hp1
    refine seq ?_
    refine region ?_
    refine so h hO (yl_assign h rfl) rfl ?_; clear h a; intro a h
    refine so h hO (yl_assign h rfl) rfl ?_; clear h a; intro a h
    refine endL ?_
    refine then_n ?_
    refine retc ?_
    refine then_r (ret2 h hO Try.results14 (.tmp rfl (.tmp rfl .nil)) ?_)
    refine Ret.mk ?_
    have hok : ok xs = false := by simpa using hb1
    rw [hok]
    exact ⟨rfl, hO⟩
  · have hp1 := hb1
    try simp only [decide_eq_true_eq, decide_eq_false_iff_not, Bool.not_eq_true', Bool.not_eq_false', Int.not_lt, Int.not_le, ne_eq, Decidable.not_not] at hp1
    refine skip ?_
    refine then_n ?_
    refine seq ?_
    refine region ?_
    have hok : ok xs = true := by simpa using hb1
    have hsm := (ok_spec hok).2
    have hb := (ok_spec hok).1
    refine so h hO (yl_assign h rfl) rfl ?_; clear h a; intro a h
    refine endL ?_
    refine then_n ?_
    refine seq ?_
    refine region ?_
    refine so h hO (yl_move h rfl) rfl ?_; clear h a; intro a h
    refine callR h rfl rfl p33 (books_spec _ hO (by assumption) (by first | assumption | exact Val.sub (by assumption) (by repeat (first | with_reducible exact List.Sublist.refl _ | with_reducible refine List.Sublist.cons_cons _ ?_ | refine List.Sublist.cons _ ?_)) | with_reducible exact Val.ext _ _ | exact Val.ent (by first | with_reducible exact mem0 | with_reducible exact memS (mem0) | with_reducible exact memS (memS (mem0)) | with_reducible exact memS (memS (memS (mem0))) | with_reducible exact memS (memS (memS (memS (mem0)))) | with_reducible exact memS (memS (memS (memS (memS (mem0))))) | with_reducible exact memS (memS (memS (memS (memS (memS (mem0)))))) | with_reducible exact memS (memS (memS (memS (memS (memS (memS (mem0))))))) | with_reducible exact memS (memS (memS (memS (memS (memS (memS (memS (mem0)))))))) | with_reducible exact memS (memS (memS (memS (memS (memS (memS (memS (memS (mem0))))))))) | with_reducible exact memS (memS (memS (memS (memS (memS (memS (memS (memS (memS (mem0)))))))))) | with_reducible exact memS (memS (memS (memS (memS (memS (memS (memS (memS (memS (memS (mem0))))))))))) | with_reducible exact memS (memS (memS (memS (memS (memS (memS (memS (memS (memS (memS (memS (mem0)))))))))))) | with_reducible exact memS (memS (memS (memS (memS (memS (memS (memS (memS (memS (memS (memS (memS (mem0))))))))))))))) (by assumption) (by omega)) rfl ?_; clear h a hO w
    rintro _ w ⟨v1, v2, e1, e2, rfl, hR, hMf, hO⟩ a h
    obtain ⟨hs, ⟨A1, c1, rfl, hc1, hr1⟩, hAll⟩ := hR
    obtain ⟨A2, c2, rfl, hc2⟩ := hMf.form
    have hl1 := hAll.length
    rw [rows_length] at hl1
    refine so h hO (yl_move h rfl) rfl ?_; clear h a; intro a h
    refine so h hO (yl_extract h rfl rfl) rfl ?_; clear h a; intro a h
    refine so h hO (yl_extract h rfl rfl) rfl ?_; clear h a; intro a h
    refine so h hO (yl_assign h rfl) rfl ?_; clear h a; intro a h
    refine so h hO (yl_assign h rfl) rfl ?_; clear h a; intro a h
    refine endL ?_
    refine then_n ?_
    refine seq ?_
    refine seq ?_
    refine region ?_
    refine so h hO (yl_move h rfl) rfl ?_; clear h a; intro a h
    refine so h hO (yl_len h rfl p24) rfl ?_; clear h a; intro a h
    refine so h hO (yl_move h rfl) rfl ?_; clear h a; intro a h
    refine endL ?_
    refine then_n ?_
    refine block ?_
    refine loop (fun (k : Nat) a w =>  k ≤ hs.length ∧ St 29 [] [(17, .slice A1 hs.length c1), (18, .int .i64 hs.length), (19, .int .i64 k), (4, .int .i64 (mx xs k))] a ∧ OwnE w0 w (e1 :: e2 :: L)) (fun k => hs.length - k) 0 ?_ ?_
    · exact ⟨Nat.zero_le _, h.weak (subB_cons rfl (subB_cons rfl (subB_cons rfl (subB_cons rfl (subB_nil))))), hO⟩
    · clear h a hO w
      rintro k a w ⟨hk, h, hO⟩
      refine seq ?_
      refine region ?_
      refine so h hO (yl_lt h rfl rfl) rfl ?_; clear h a; intro a h
      refine endL ?_
      refine then_n ?_
      refine seq ?_
      refine cond_s h rfl (fun hb2 => ?_) (fun hb2 => ?_)
      · have hp2 := hb2
        try simp only [decide_eq_true_eq, decide_eq_false_iff_not, Bool.not_eq_true', Bool.not_eq_false', Int.not_lt, Int.not_le, ne_eq, Decidable.not_not] at hp2
        refine skip ?_
        refine then_n ?_
        refine seq ?_
        refine block ?_
        refine seq ?_
        refine region ?_
        refine so h hO (yl_ix h rfl rfl p24 (by assumption) (by simp) (by omega)) rfl ?_; clear h a; intro a h
        obtain ⟨B3, c3, hy3, hrd3, hr3⟩ := rowAt hAll (i := k) (by omega)
        refine so h hO (yl_ldRow h rfl p34 (by assumption) (by first | assumption | exact Val.sub (by assumption) (by repeat (first | with_reducible exact List.Sublist.refl _ | with_reducible refine List.Sublist.cons_cons _ ?_ | refine List.Sublist.cons _ ?_)) | with_reducible exact Val.ext _ _ | exact Val.ent (by first | with_reducible exact mem0 | with_reducible exact memS (mem0) | with_reducible exact memS (memS (mem0)) | with_reducible exact memS (memS (memS (mem0))) | with_reducible exact memS (memS (memS (memS (mem0)))) | with_reducible exact memS (memS (memS (memS (memS (mem0))))) | with_reducible exact memS (memS (memS (memS (memS (memS (mem0)))))) | with_reducible exact memS (memS (memS (memS (memS (memS (memS (mem0))))))) | with_reducible exact memS (memS (memS (memS (memS (memS (memS (memS (mem0)))))))) | with_reducible exact memS (memS (memS (memS (memS (memS (memS (memS (memS (mem0))))))))) | with_reducible exact memS (memS (memS (memS (memS (memS (memS (memS (memS (memS (mem0)))))))))) | with_reducible exact memS (memS (memS (memS (memS (memS (memS (memS (memS (memS (memS (mem0))))))))))) | with_reducible exact memS (memS (memS (memS (memS (memS (memS (memS (memS (memS (memS (memS (mem0)))))))))))) | with_reducible exact memS (memS (memS (memS (memS (memS (memS (memS (memS (memS (memS (memS (memS (mem0))))))))))))))) (by rw [Int.toNat_natCast]; exact hy3)) rfl ?_; clear h a; intro a h
        refine so h hO (yl_assign h rfl) rfl ?_; clear h a; intro a h
        refine endL ?_
        refine then_n ?_
        refine region ?_
        refine so h hO (yl_move h rfl) rfl ?_; clear h a; intro a h
        refine so h hO (yl_move h rfl) rfl ?_; clear h a; intro a h
        refine so h hO (yl_len h rfl p0) rfl ?_; clear h a; intro a h
        refine so h hO (yl_max h rfl rfl) rfl ?_; clear h a; intro a h
        refine so h hO (yl_assign h rfl) rfl ?_; clear h a; intro a h
        refine endL ?_
        refine inB_n ?_
        refine then_n ?_
        refine region ?_
        first | (refine so h hO (yl_add64 h rfl rfl (by omega)) rfl ?_) | (refine so h hO (yl_add h rfl rfl) rfl ?_)
        clear h a; intro a h
        refine so h hO (yl_move h rfl) rfl ?_; clear h a; intro a h
        refine endL ?_
        refine then_n ?_
        have hk1 : k < hs.length := by omega
        try simp only [Int.toNat_natCast] at *
        refine ⟨k + 1, by omega, by omega, h.weak (subB_cons rfl (subB_cons rfl (subB_cons rfl (subB_cons rfl (subB_nil))))), hO⟩
      · have hp2 := hb2
        try simp only [decide_eq_true_eq, decide_eq_false_iff_not, Bool.not_eq_true', Bool.not_eq_false', Int.not_lt, Int.not_le, ne_eq, Decidable.not_not] at hp2
        refine exit_ ?_
        refine then_x ?_
        refine then_x ?_
        refine inB_same ?_
        refine then_n ?_
        refine seq ?_
        refine region ?_
        refine so h hO (yl_move h rfl) rfl ?_; clear h a; intro a h
        refine so h hO (yl_assign h rfl) rfl ?_; clear h a; intro a h
        refine so h hO (yl_assign h rfl) rfl ?_; clear h a; intro a h
        refine endL ?_
        refine then_n ?_
        refine retc ?_
        refine ret2 h hO Try.results14 (.tmp rfl (.tmp rfl .nil)) ?_
        refine Ret.mk ?_
        have hk1 : k = xs.length := by omega
        subst hk1
        rw [hok]
        exact ⟨rfl, (by exact hO.sub (by repeat (first | with_reducible exact List.Sublist.refl _ | with_reducible refine List.Sublist.cons_cons _ ?_ | refine List.Sublist.cons _ ?_)))⟩
set_option maxHeartbeats 4000000 in
theorem MostOpen_s (xs : List Int) {v : Value} {H : Nat → Obj → Prop} {w0 w : World} {L : List Ent} (hO : OwnE w0 w L) (hv : Rd I 1 H xs v) (hH : Val w0 L H) : Calls Try.prog 15 ⟨[v]⟩ w (Ret (fun v w => v = .tuple ⟨[.int .i64 (if ok xs then mx xs xs.length else 0), .bool (ok xs)]⟩ ∧ OwnE w0 w L)) := by
  refine enter Try.func15 rfl Try.ntmps15 rfl ?_
  intro a h
  have hv0 := hv
  obtain ⟨A, c, rfl, hc, hr⟩ := hv
  refine seq ?_
  refine region ?_
  refine so h hO (yl_assign h rfl) rfl ?_; clear h a; intro a h
  refine so h hO (yl_assign h rfl) rfl ?_; clear h a; intro a h
  refine endL ?_
  refine then_n ?_
  refine seq ?_
  refine seq ?_
  refine region ?_
  refine so h hO (yl_move h rfl) rfl ?_; clear h a; intro a h
  refine callR h rfl rfl p38 (l7Good_spec _ hO (by assumption) (by first | assumption | exact Val.sub (by assumption) (by repeat (first | with_reducible exact List.Sublist.refl _ | with_reducible refine List.Sublist.cons_cons _ ?_ | refine List.Sublist.cons _ ?_)) | with_reducible exact Val.ext _ _ | exact Val.ent (by first | with_reducible exact mem0 | with_reducible exact memS (mem0) | with_reducible exact memS (memS (mem0)) | with_reducible exact memS (memS (memS (mem0))) | with_reducible exact memS (memS (memS (memS (mem0)))) | with_reducible exact memS (memS (memS (memS (memS (mem0))))) | with_reducible exact memS (memS (memS (memS (memS (memS (mem0)))))) | with_reducible exact memS (memS (memS (memS (memS (memS (memS (mem0))))))) | with_reducible exact memS (memS (memS (memS (memS (memS (memS (memS (mem0)))))))) | with_reducible exact memS (memS (memS (memS (memS (memS (memS (memS (memS (mem0))))))))) | with_reducible exact memS (memS (memS (memS (memS (memS (memS (memS (memS (memS (mem0)))))))))) | with_reducible exact memS (memS (memS (memS (memS (memS (memS (memS (memS (memS (memS (mem0))))))))))) | with_reducible exact memS (memS (memS (memS (memS (memS (memS (memS (memS (memS (memS (memS (mem0)))))))))))) | with_reducible exact memS (memS (memS (memS (memS (memS (memS (memS (memS (memS (memS (memS (memS (mem0)))))))))))))))) rfl ?_; clear h a hO w
  rintro _ w ⟨rfl, hO⟩ a h
  refine so h hO (yl_not h rfl) rfl ?_; clear h a; intro a h
  refine endL ?_
  refine then_n ?_
  refine cond_s h rfl (fun hb1 => ?_) (fun hb1 => ?_)
  · have hp1 := hb1
    try simp only [decide_eq_true_eq, decide_eq_false_iff_not, Bool.not_eq_true', Bool.not_eq_false', Int.not_lt, Int.not_le, ne_eq, Decidable.not_not] at hp1
    refine seq ?_
    refine region ?_
    refine so h hO (yl_assign h rfl) rfl ?_; clear h a; intro a h
    refine so h hO (yl_assign h rfl) rfl ?_; clear h a; intro a h
    refine endL ?_
    refine then_n ?_
    refine retc ?_
    refine then_r (ret2 h hO Try.results15 (.tmp rfl (.tmp rfl .nil)) ?_)
    refine Ret.mk ?_
    have hok : ok xs = false := by simpa using hb1
    rw [hok]
    exact ⟨rfl, hO⟩
  · have hp1 := hb1
    try simp only [decide_eq_true_eq, decide_eq_false_iff_not, Bool.not_eq_true', Bool.not_eq_false', Int.not_lt, Int.not_le, ne_eq, Decidable.not_not] at hp1
    refine skip ?_
    refine then_n ?_
    refine seq ?_
    refine region ?_
    have hok : ok xs = true := by simpa using hb1
    have hsm := (ok_spec hok).2
    have hb := (ok_spec hok).1
    refine so h hO (yl_assign h rfl) rfl ?_; clear h a; intro a h
    refine endL ?_
    refine then_n ?_
    refine seq ?_
    refine seq ?_
    refine region ?_
    refine so h hO (yl_assign h rfl) rfl ?_; clear h a; intro a h
    refine endL ?_
    refine then_n ?_
    refine block ?_
    refine loop (fun (k : Nat) a w =>  k ≤ (xs.length + 1) ∧ St 29 [] [(0, .slice A xs.length c), (5, .int .i64 k), (4, .int .i64 (mx xs (k - 1)))] a ∧ OwnE w0 w L) (fun k => (xs.length + 1) - k) 0 ?_ ?_
    · exact ⟨Nat.zero_le _, h.weak (subB_cons rfl (subB_cons rfl (subB_cons rfl (subB_nil)))), hO⟩
    · clear h a hO w
      rintro k a w ⟨hk, h, hO⟩
      refine seq ?_
      refine seq ?_
      refine region ?_
      refine so h hO (yl_move h rfl) rfl ?_; clear h a; intro a h
      refine so h hO (yl_move h rfl) rfl ?_; clear h a; intro a h
      refine so h hO (yl_len h rfl p0) rfl ?_; clear h a; intro a h
      refine so h hO (yl_le h rfl rfl) rfl ?_; clear h a; intro a h
      refine endL ?_
      refine then_n ?_
      refine cond_s h rfl (fun hb2 => ?_) (fun hb2 => ?_)
      · have hp2 := hb2
        try simp only [decide_eq_true_eq, decide_eq_false_iff_not, Bool.not_eq_true', Bool.not_eq_false', Int.not_lt, Int.not_le, ne_eq, Decidable.not_not] at hp2
        refine skip ?_
        refine then_n ?_
        refine seq ?_
        refine block ?_
        refine seq ?_
        refine region ?_
        refine so h hO (yl_move h rfl) rfl ?_; clear h a; intro a h
        refine so h hO (yl_move h rfl) rfl ?_; clear h a; intro a h
        refine so h hO (yl_sliceHi h rfl rfl p0 (by omega)) rfl ?_; clear h a; intro a h
        refine callR h rfl rfl p36 (l7Read_spec (xs.take k) hO (Rd.cutHi hv0 k (by omega)) (by first | assumption | exact Val.sub (by assumption) (by repeat (first | with_reducible exact List.Sublist.refl _ | with_reducible refine List.Sublist.cons_cons _ ?_ | refine List.Sublist.cons _ ?_)) | with_reducible exact Val.ext _ _ | exact Val.ent (by first | with_reducible exact mem0 | with_reducible exact memS (mem0) | with_reducible exact memS (memS (mem0)) | with_reducible exact memS (memS (memS (mem0))) | with_reducible exact memS (memS (memS (memS (mem0)))) | with_reducible exact memS (memS (memS (memS (memS (mem0))))) | with_reducible exact memS (memS (memS (memS (memS (memS (mem0)))))) | with_reducible exact memS (memS (memS (memS (memS (memS (memS (mem0))))))) | with_reducible exact memS (memS (memS (memS (memS (memS (memS (memS (mem0)))))))) | with_reducible exact memS (memS (memS (memS (memS (memS (memS (memS (memS (mem0))))))))) | with_reducible exact memS (memS (memS (memS (memS (memS (memS (memS (memS (memS (mem0)))))))))) | with_reducible exact memS (memS (memS (memS (memS (memS (memS (memS (memS (memS (memS (mem0))))))))))) | with_reducible exact memS (memS (memS (memS (memS (memS (memS (memS (memS (memS (memS (memS (mem0)))))))))))) | with_reducible exact memS (memS (memS (memS (memS (memS (memS (memS (memS (memS (memS (memS (memS (mem0))))))))))))))) (fun x hx => hsm x (List.mem_of_mem_take hx)) (by rw [List.length_take]; omega)) rfl ?_; clear h a hO w
        rintro _ w ⟨v1, v2, e1, e2, rfl, hM1, hM2, hO⟩ a h
        obtain ⟨A1, c1, rfl, hc1⟩ := hM1.form
        obtain ⟨A2, c2, rfl, hc2⟩ := hM2.form
        have hrd1 := hM1.rd
        have hrd2 := hM2.rd
        have hr1 := hM1.rr
        have hr2 := hM2.rr
        refine so h hO (yl_move h rfl) rfl ?_; clear h a; intro a h
        refine so h hO (yl_extract h rfl rfl) rfl ?_; clear h a; intro a h
        refine so h hO (yl_extract h rfl rfl) rfl ?_; clear h a; intro a h
        refine so h hO (yl_assign h rfl) rfl ?_; clear h a; intro a h
        refine so h hO (yl_assign h rfl) rfl ?_; clear h a; intro a h
        refine endL ?_
        refine then_n ?_
        refine region ?_
        refine so h hO (yl_move h rfl) rfl ?_; clear h a; intro a h
        refine so h hO (yl_move h rfl) rfl ?_; clear h a; intro a h
        refine so h hO (yl_len h rfl p0) rfl ?_; clear h a; intro a h
        refine callR h rfl rfl p20 (l1Most_spec _ _ hO) rfl ?_; clear h a hO w
        rintro _ w ⟨rfl, hO⟩ a h
        refine so h hO (yl_assign h rfl) rfl ?_; clear h a; intro a h
        refine endL ?_
        refine inB_n ?_
        refine then_n ?_
        refine region ?_
        refine so h hO (yl_move h rfl) rfl ?_; clear h a; intro a h
        first | (refine so h hO (yl_add64 h rfl rfl (by omega)) rfl ?_) | (refine so h hO (yl_add h rfl rfl) rfl ?_)
        clear h a; intro a h
        refine so h hO (yl_assign h rfl) rfl ?_; clear h a; intro a h
        refine endL ?_
        refine then_n ?_
        have hk1 : k < xs.length + 1 := by omega
        rw [mx_next] at h
        refine ⟨k + 1, by omega, by omega, h.weak (subB_cons rfl (subB_cons rfl (subB_cons rfl (subB_nil)))), (by exact hO.sub (by repeat (first | with_reducible exact List.Sublist.refl _ | with_reducible refine List.Sublist.cons_cons _ ?_ | refine List.Sublist.cons _ ?_)))⟩
      · have hp2 := hb2
        try simp only [decide_eq_true_eq, decide_eq_false_iff_not, Bool.not_eq_true', Bool.not_eq_false', Int.not_lt, Int.not_le, ne_eq, Decidable.not_not] at hp2
        refine exit_ ?_
        refine then_x ?_
        refine then_x ?_
        refine inB_same ?_
        refine then_n ?_
        refine seq ?_
        refine region ?_
        refine so h hO (yl_move h rfl) rfl ?_; clear h a; intro a h
        refine so h hO (yl_assign h rfl) rfl ?_; clear h a; intro a h
        refine so h hO (yl_assign h rfl) rfl ?_; clear h a; intro a h
        refine endL ?_
        refine then_n ?_
        refine retc ?_
        refine ret2 h hO Try.results15 (.tmp rfl (.tmp rfl .nil)) ?_
        refine Ret.mk ?_
        have hk1 : k = xs.length + 1 := by omega
        subst hk1
        rw [hok]
        exact ⟨rfl, hO⟩
set_option maxHeartbeats 4000000 in
theorem l7Next_spec (i : Nat) (n : Int) (xs : List Int) {v : Value} {H : Nat → Obj → Prop} {w0 w : World} {L : List Ent} (hO : OwnE w0 w L) (hv : Rd I 1 H xs v) (hH : Val w0 L H) (hi : i < xs.length) (hb : xs.length ≤ 4294960000) : Calls Try.prog 34 ⟨[v, .int .i64 (i : Int), .int .i64 n]⟩ w (Ret (fun v w => v = .int .i64 (nxt xs i n) ∧ OwnE w0 w L)) := by
  refine enter Try.func34 rfl Try.ntmps34 rfl ?_
  intro a h
  obtain ⟨A, c, rfl, hc, hr⟩ := hv
  refine seq ?_
  refine region ?_
  refine so h hO (yl_assign h rfl) rfl ?_; clear h a; intro a h
  refine endL ?_
  refine then_n ?_
  refine seq ?_
  refine seq ?_
  refine region ?_
  refine so h hO (yl_move h rfl) rfl ?_; clear h a; intro a h
  first | (refine so h hO (yl_add64 h rfl rfl (by omega)) rfl ?_) | (refine so h hO (yl_add h rfl rfl) rfl ?_)
  clear h a; intro a h
  refine so h hO (yl_assign h rfl) rfl ?_; clear h a; intro a h
  refine endL ?_
  refine then_n ?_
  refine block ?_
  refine loop (fun (k : Nat) a w =>  k ≤ xs.length ∧ (i + 1 ≤ k) ∧ (∀ j, i + 1 ≤ j → j < k → xs.getD j default ≠ n) ∧ St 23 [] [(0, .slice A xs.length c), (2, .int .i64 n), (7, .int .i64 k)] a ∧ OwnE w0 w L) (fun k => xs.length - k) (i + 1) ?_ ?_
  · exact ⟨by omega, Nat.le_refl _, fun j h1 h2 => by omega, h.weak (subB_cons rfl (subB_cons rfl (subB_cons rfl (subB_nil)))), hO⟩
  · clear h a hO w
    rintro k a w ⟨hk, hik, hno, h, hO⟩
    refine seq ?_
    refine seq ?_
    refine region ?_
    refine so h hO (yl_move h rfl) rfl ?_; clear h a; intro a h
    refine so h hO (yl_move h rfl) rfl ?_; clear h a; intro a h
    refine so h hO (yl_len h rfl p0) rfl ?_; clear h a; intro a h
    refine so h hO (yl_lt h rfl rfl) rfl ?_; clear h a; intro a h
    refine endL ?_
    refine then_n ?_
    refine cond_s h rfl (fun hb1 => ?_) (fun hb1 => ?_)
    · have hp1 := hb1
      try simp only [decide_eq_true_eq, decide_eq_false_iff_not, Bool.not_eq_true', Bool.not_eq_false', Int.not_lt, Int.not_le, ne_eq, Decidable.not_not] at hp1
      refine skip ?_
      refine then_n ?_
      refine seq ?_
      refine block ?_
      refine seq ?_
      refine region ?_
      refine so h hO (yl_move h rfl) rfl ?_; clear h a; intro a h
      refine so h hO (yl_move h rfl) rfl ?_; clear h a; intro a h
      refine so h hO (yl_ix h rfl rfl p0 (by assumption) (by simp) (by omega)) rfl ?_; clear h a; intro a h
      refine so h hO (yl_ld1 h rfl p1 (by assumption) (by first | assumption | exact Val.sub (by assumption) (by repeat (first | with_reducible exact List.Sublist.refl _ | with_reducible refine List.Sublist.cons_cons _ ?_ | refine List.Sublist.cons _ ?_)) | with_reducible exact Val.ext _ _ | exact Val.ent (by first | with_reducible exact mem0 | with_reducible exact memS (mem0) | with_reducible exact memS (memS (mem0)) | with_reducible exact memS (memS (memS (mem0))) | with_reducible exact memS (memS (memS (memS (mem0)))) | with_reducible exact memS (memS (memS (memS (memS (mem0))))) | with_reducible exact memS (memS (memS (memS (memS (memS (mem0)))))) | with_reducible exact memS (memS (memS (memS (memS (memS (memS (mem0))))))) | with_reducible exact memS (memS (memS (memS (memS (memS (memS (memS (mem0)))))))) | with_reducible exact memS (memS (memS (memS (memS (memS (memS (memS (memS (mem0))))))))) | with_reducible exact memS (memS (memS (memS (memS (memS (memS (memS (memS (memS (mem0)))))))))) | with_reducible exact memS (memS (memS (memS (memS (memS (memS (memS (memS (memS (memS (mem0))))))))))) | with_reducible exact memS (memS (memS (memS (memS (memS (memS (memS (memS (memS (memS (memS (mem0)))))))))))) | with_reducible exact memS (memS (memS (memS (memS (memS (memS (memS (memS (memS (memS (memS (memS (mem0))))))))))))))) (by omega) (fun _ => rfl)) rfl ?_; clear h a; intro a h
      refine so h hO (yl_move h rfl) rfl ?_; clear h a; intro a h
      refine so h hO (yl_eq h rfl rfl) rfl ?_; clear h a; intro a h
      refine endL ?_
      refine then_n ?_
      refine cond_s h rfl (fun hb2 => ?_) (fun hb2 => ?_)
      · have hp2 := hb2
        try simp only [decide_eq_true_eq, decide_eq_false_iff_not, Bool.not_eq_true', Bool.not_eq_false', Int.not_lt, Int.not_le, ne_eq, Decidable.not_not] at hp2
        refine seq ?_
        refine region ?_
        refine so h hO (yl_move h rfl) rfl ?_; clear h a; intro a h
        refine so h hO (yl_assign h rfl) rfl ?_; clear h a; intro a h
        refine endL ?_
        refine then_n ?_
        refine retc ?_
        refine inB_r (then_r (then_r (inB_r (then_r (ret1 h hO Try.results34 (.tmp rfl .nil) ?_)))))
        refine Ret.mk ?_
        have hk1 : k < xs.length := by omega
        try simp only [Int.toNat_natCast] at *
        exact ⟨congrArg (Value.int .i64) (nxt_found hik hk1 hno hp2), hO⟩
      · have hp2 := hb2
        try simp only [decide_eq_true_eq, decide_eq_false_iff_not, Bool.not_eq_true', Bool.not_eq_false', Int.not_lt, Int.not_le, ne_eq, Decidable.not_not] at hp2
        refine skip ?_
        refine inB_n ?_
        refine then_n ?_
        refine region ?_
        refine so h hO (yl_move h rfl) rfl ?_; clear h a; intro a h
        first | (refine so h hO (yl_add64 h rfl rfl (by omega)) rfl ?_) | (refine so h hO (yl_add h rfl rfl) rfl ?_)
        clear h a; intro a h
        refine so h hO (yl_assign h rfl) rfl ?_; clear h a; intro a h
        refine endL ?_
        refine then_n ?_
        have hk1 : k < xs.length := by omega
        try simp only [Int.toNat_natCast] at *
        exact ⟨k + 1, by omega, by omega, by omega, (fun j h1 h2 => by
          by_cases e : j = k
          · subst e; exact hp2
          · exact hno j h1 (by omega)), h.weak (subB_cons rfl (subB_cons rfl (subB_cons rfl (subB_nil)))), hO⟩
    · have hp1 := hb1
      try simp only [decide_eq_true_eq, decide_eq_false_iff_not, Bool.not_eq_true', Bool.not_eq_false', Int.not_lt, Int.not_le, ne_eq, Decidable.not_not] at hp1
      refine exit_ ?_
      refine then_x ?_
      refine then_x ?_
      refine inB_same ?_
      refine then_n ?_
      refine seq ?_
      refine region ?_
      refine so h hO (yl_assign h rfl) rfl ?_; clear h a; intro a h
      refine endL ?_
      refine then_n ?_
      refine retc ?_
      refine ret1 h hO Try.results34 (.tmp rfl .nil) ?_
      refine Ret.mk ?_
      have hk1 : k = xs.length := by omega
      subst hk1
      exact ⟨congrArg (Value.int .i64) (nxt_none hno), hO⟩
abbrev encP (p : Int × Int) : Value := .agg ⟨[I p.1, I p.2]⟩
set_option maxHeartbeats 4000000 in
theorem SpansOf_s (xs : List Int) {v : Value} {H : Nat → Obj → Prop} {w0 w : World} {L : List Ent} (hO : OwnE w0 w L) (hv : Rd I 1 H xs v) (hH : Val w0 L H) : Calls Try.prog 17 ⟨[v]⟩ w (Ret (fun v w => ∃ v1 e, v = .tuple ⟨[v1, .bool (ok xs)]⟩ ∧ Rd encP 2 (inE e) (if ok xs then sp xs xs.length else []) v1 ∧ OwnE w0 w (e :: L))) := by
  refine enter Try.func17 rfl Try.ntmps17 rfl ?_
  intro a h
  have hv0 := hv
  obtain ⟨A, c, rfl, hc, hr⟩ := hv
  refine seq ?_
  refine region ?_
  refine so h hO (yl_assign h rfl) rfl ?_; clear h a; intro a h
  refine so h hO (yl_assign h rfl) rfl ?_; clear h a; intro a h
  refine endL ?_
  refine then_n ?_
  refine seq ?_
  refine region ?_
  refine stepBuildAll (us := []) h hO rfl p41 rfl p42 rfl rfl rfl rfl rfl ?_; clear h hO a w; intro a b6 w h hO
  refine so h hO (yl_assign h rfl) rfl ?_; clear h a; intro a h
  refine endL ?_
  refine then_n ?_
  refine seq ?_
  refine seq ?_
  refine region ?_
  refine so h hO (yl_move h rfl) rfl ?_; clear h a; intro a h
  refine callR h rfl rfl p38 (l7Good_spec _ hO (by assumption) (by first | assumption | exact Val.sub (by assumption) (by repeat (first | with_reducible exact List.Sublist.refl _ | with_reducible refine List.Sublist.cons_cons _ ?_ | refine List.Sublist.cons _ ?_)) | with_reducible exact Val.ext _ _ | exact Val.ent (by first | with_reducible exact mem0 | with_reducible exact memS (mem0) | with_reducible exact memS (memS (mem0)) | with_reducible exact memS (memS (memS (mem0))) | with_reducible exact memS (memS (memS (memS (mem0)))) | with_reducible exact memS (memS (memS (memS (memS (mem0))))) | with_reducible exact memS (memS (memS (memS (memS (memS (mem0)))))) | with_reducible exact memS (memS (memS (memS (memS (memS (memS (mem0))))))) | with_reducible exact memS (memS (memS (memS (memS (memS (memS (memS (mem0)))))))) | with_reducible exact memS (memS (memS (memS (memS (memS (memS (memS (memS (mem0))))))))) | with_reducible exact memS (memS (memS (memS (memS (memS (memS (memS (memS (memS (mem0)))))))))) | with_reducible exact memS (memS (memS (memS (memS (memS (memS (memS (memS (memS (memS (mem0))))))))))) | with_reducible exact memS (memS (memS (memS (memS (memS (memS (memS (memS (memS (memS (memS (mem0)))))))))))) | with_reducible exact memS (memS (memS (memS (memS (memS (memS (memS (memS (memS (memS (memS (memS (mem0)))))))))))))))) rfl ?_; clear h a hO w
  rintro _ w ⟨rfl, hO⟩ a h
  refine so h hO (yl_not h rfl) rfl ?_; clear h a; intro a h
  refine endL ?_
  refine then_n ?_
  refine cond_s h rfl (fun hb1 => ?_) (fun hb1 => ?_)
  · have hp1 := hb1
    try simp only [decide_eq_true_eq, decide_eq_false_iff_not, Bool.not_eq_true', Bool.not_eq_false', Int.not_lt, Int.not_le, ne_eq, Decidable.not_not] at hp1
    refine seq ?_
    refine region ?_
    refine so h hO (yl_move h rfl) rfl ?_; clear h a; intro a h
    refine so h hO (yl_assign h rfl) rfl ?_; clear h a; intro a h
    refine so h hO (yl_assign h rfl) rfl ?_; clear h a; intro a h
    refine endL ?_
    refine then_n ?_
    refine retc ?_
    refine then_r (ret2 h hO Try.results17 (.tmp rfl (.tmp rfl .nil)) ?_)
    refine Ret.mk ?_
    have hok : ok xs = false := by simpa using hb1
    rw [hok]
    exact ⟨_, _, rfl, Rd.nil _ _ _ _ (by decide), hO⟩
  · have hp1 := hb1
    try simp only [decide_eq_true_eq, decide_eq_false_iff_not, Bool.not_eq_true', Bool.not_eq_false', Int.not_lt, Int.not_le, ne_eq, Decidable.not_not] at hp1
    refine skip ?_
    refine then_n ?_
    refine seq ?_
    refine seq ?_
    refine region ?_
    have hok : ok xs = true := by simpa using hb1
    have hsm := (ok_spec hok).2
    have hb := (ok_spec hok).1
    refine so h hO (yl_assign h rfl) rfl ?_; clear h a; intro a h
    refine endL ?_
    refine then_n ?_
    refine block ?_
    refine loop (fun (k : Nat) a w => ∃ (u : Value) (e : Ent), k ≤ xs.length ∧ (Mu encP 37 2 (sp xs k) u e) ∧ St 36 [] [(0, .slice A xs.length c), (5, .int .i64 k), (4, u)] a ∧ OwnE w0 w (e :: L)) (fun k => xs.length - k) 0 ?_ ?_
    · exact ⟨_, _, Nat.zero_le _, Mu.nil' _ _ _ _, h.weak (subB_cons rfl (subB_cons rfl (subB_cons rfl (subB_nil)))), hO⟩
    · clear h a hO w
      rintro k a w ⟨u, e, hk, hM, h, hO⟩
      obtain ⟨A1, c1, rfl, hc1⟩ := hM.form
      have hl1 := sp_len xs k
      refine seq ?_
      refine seq ?_
      refine region ?_
      refine so h hO (yl_move h rfl) rfl ?_; clear h a; intro a h
      refine so h hO (yl_move h rfl) rfl ?_; clear h a; intro a h
      refine so h hO (yl_len h rfl p0) rfl ?_; clear h a; intro a h
      refine so h hO (yl_lt h rfl rfl) rfl ?_; clear h a; intro a h
      refine endL ?_
      refine then_n ?_
      refine cond_s h rfl (fun hb2 => ?_) (fun hb2 => ?_)
      · have hp2 := hb2
        try simp only [decide_eq_true_eq, decide_eq_false_iff_not, Bool.not_eq_true', Bool.not_eq_false', Int.not_lt, Int.not_le, ne_eq, Decidable.not_not] at hp2
        refine skip ?_
        refine then_n ?_
        refine seq ?_
        refine block ?_
        refine seq ?_
        refine region ?_
        have hx := hsm _ (getD_mem (xs := xs) (k := k) (by omega))
        rw [show k = ((k : Int)).toNat by simp] at hx
        refine so h hO (yl_move h rfl) rfl ?_; clear h a; intro a h
        refine so h hO (yl_move h rfl) rfl ?_; clear h a; intro a h
        refine so h hO (yl_ix h rfl rfl p0 (by assumption) (by simp) (by omega)) rfl ?_; clear h a; intro a h
        refine so h hO (yl_ld1 h rfl p1 (by assumption) (by first | assumption | exact Val.sub (by assumption) (by repeat (first | with_reducible exact List.Sublist.refl _ | with_reducible refine List.Sublist.cons_cons _ ?_ | refine List.Sublist.cons _ ?_)) | with_reducible exact Val.ext _ _ | exact Val.ent (by first | with_reducible exact mem0 | with_reducible exact memS (mem0) | with_reducible exact memS (memS (mem0)) | with_reducible exact memS (memS (memS (mem0))) | with_reducible exact memS (memS (memS (memS (mem0)))) | with_reducible exact memS (memS (memS (memS (memS (mem0))))) | with_reducible exact memS (memS (memS (memS (memS (memS (mem0)))))) | with_reducible exact memS (memS (memS (memS (memS (memS (memS (mem0))))))) | with_reducible exact memS (memS (memS (memS (memS (memS (memS (memS (mem0)))))))) | with_reducible exact memS (memS (memS (memS (memS (memS (memS (memS (memS (mem0))))))))) | with_reducible exact memS (memS (memS (memS (memS (memS (memS (memS (memS (memS (mem0)))))))))) | with_reducible exact memS (memS (memS (memS (memS (memS (memS (memS (memS (memS (memS (mem0))))))))))) | with_reducible exact memS (memS (memS (memS (memS (memS (memS (memS (memS (memS (memS (memS (mem0)))))))))))) | with_reducible exact memS (memS (memS (memS (memS (memS (memS (memS (memS (memS (memS (memS (memS (mem0))))))))))))))) (by omega) (fun _ => rfl)) rfl ?_; clear h a; intro a h
        refine so h hO (yl_gt h rfl rfl) rfl ?_; clear h a; intro a h
        refine endL ?_
        refine then_n ?_
        refine cond_s h rfl (fun hb3 => ?_) (fun hb3 => ?_)
        · have hp3 := hb3
          try simp only [decide_eq_true_eq, decide_eq_false_iff_not, Bool.not_eq_true', Bool.not_eq_false', Int.not_lt, Int.not_le, ne_eq, Decidable.not_not] at hp3
          refine region ?_
          refine so h hO (yl_move h rfl) rfl ?_; clear h a; intro a h
          refine so h hO (yl_move h rfl) rfl ?_; clear h a; intro a h
          refine so h hO (yl_move h rfl) rfl ?_; clear h a; intro a h
          refine so h hO (yl_move h rfl) rfl ?_; clear h a; intro a h
          refine so h hO (yl_move h rfl) rfl ?_; clear h a; intro a h
          refine so h hO (yl_move h rfl) rfl ?_; clear h a; intro a h
          refine so h hO (yl_ix h rfl rfl p0 (by assumption) (by simp) (by omega)) rfl ?_; clear h a; intro a h
          refine so h hO (yl_ld1 h rfl p1 (by assumption) (by first | assumption | exact Val.sub (by assumption) (by repeat (first | with_reducible exact List.Sublist.refl _ | with_reducible refine List.Sublist.cons_cons _ ?_ | refine List.Sublist.cons _ ?_)) | with_reducible exact Val.ext _ _ | exact Val.ent (by first | with_reducible exact mem0 | with_reducible exact memS (mem0) | with_reducible exact memS (memS (mem0)) | with_reducible exact memS (memS (memS (mem0))) | with_reducible exact memS (memS (memS (memS (mem0)))) | with_reducible exact memS (memS (memS (memS (memS (mem0))))) | with_reducible exact memS (memS (memS (memS (memS (memS (mem0)))))) | with_reducible exact memS (memS (memS (memS (memS (memS (memS (mem0))))))) | with_reducible exact memS (memS (memS (memS (memS (memS (memS (memS (mem0)))))))) | with_reducible exact memS (memS (memS (memS (memS (memS (memS (memS (memS (mem0))))))))) | with_reducible exact memS (memS (memS (memS (memS (memS (memS (memS (memS (memS (mem0)))))))))) | with_reducible exact memS (memS (memS (memS (memS (memS (memS (memS (memS (memS (memS (mem0))))))))))) | with_reducible exact memS (memS (memS (memS (memS (memS (memS (memS (memS (memS (memS (memS (mem0)))))))))))) | with_reducible exact memS (memS (memS (memS (memS (memS (memS (memS (memS (memS (memS (memS (memS (mem0))))))))))))))) (by omega) (fun _ => rfl)) rfl ?_; clear h a; intro a h
          first | (refine so h hO (yl_neg64 h rfl (by omega)) rfl ?_) | (refine so h hO (yl_neg h rfl) rfl ?_)
          clear h a; intro a h
          refine callR h rfl rfl p43 (l7Next_spec k (-(xs.getD (k : Int).toNat default)) _ hO hv0 (by first | assumption | exact Val.sub (by assumption) (by repeat (first | with_reducible exact List.Sublist.refl _ | with_reducible refine List.Sublist.cons_cons _ ?_ | refine List.Sublist.cons _ ?_)) | with_reducible exact Val.ext _ _ | exact Val.ent (by first | with_reducible exact mem0 | with_reducible exact memS (mem0) | with_reducible exact memS (memS (mem0)) | with_reducible exact memS (memS (memS (mem0))) | with_reducible exact memS (memS (memS (memS (mem0)))) | with_reducible exact memS (memS (memS (memS (memS (mem0))))) | with_reducible exact memS (memS (memS (memS (memS (memS (mem0)))))) | with_reducible exact memS (memS (memS (memS (memS (memS (memS (mem0))))))) | with_reducible exact memS (memS (memS (memS (memS (memS (memS (memS (mem0)))))))) | with_reducible exact memS (memS (memS (memS (memS (memS (memS (memS (memS (mem0))))))))) | with_reducible exact memS (memS (memS (memS (memS (memS (memS (memS (memS (memS (mem0)))))))))) | with_reducible exact memS (memS (memS (memS (memS (memS (memS (memS (memS (memS (memS (mem0))))))))))) | with_reducible exact memS (memS (memS (memS (memS (memS (memS (memS (memS (memS (memS (memS (mem0)))))))))))) | with_reducible exact memS (memS (memS (memS (memS (memS (memS (memS (memS (memS (memS (memS (memS (mem0))))))))))))))) (by omega) (by omega)) rfl ?_; clear h a hO w
          rintro _ w ⟨rfl, hO⟩ a h
          refine so h hO (yl_build h rfl ⟨_, p42, .inr ⟨2, 3, 1, p44, sizeB_spec p13, rfl⟩⟩) rfl ?_; clear h a; intro a h
          refine stepBuildAll (us := [_]) h hO rfl p41 rfl p42 rfl rfl rfl rfl rfl ?_; clear h hO a w; intro a b33 w h hO
          refine stepApp (enc := encP) (u := (_, _)) h hO rfl rfl p45 rfl (by assumption) (by first | with_reducible exact mem0 | with_reducible exact memS (mem0) | with_reducible exact memS (memS (mem0)) | with_reducible exact memS (memS (memS (mem0))) | with_reducible exact memS (memS (memS (memS (mem0)))) | with_reducible exact memS (memS (memS (memS (memS (mem0))))) | with_reducible exact memS (memS (memS (memS (memS (memS (mem0)))))) | with_reducible exact memS (memS (memS (memS (memS (memS (memS (mem0))))))) | with_reducible exact memS (memS (memS (memS (memS (memS (memS (memS (mem0)))))))) | with_reducible exact memS (memS (memS (memS (memS (memS (memS (memS (memS (mem0))))))))) | with_reducible exact memS (memS (memS (memS (memS (memS (memS (memS (memS (memS (mem0)))))))))) | with_reducible exact memS (memS (memS (memS (memS (memS (memS (memS (memS (memS (memS (mem0))))))))))) | with_reducible exact memS (memS (memS (memS (memS (memS (memS (memS (memS (memS (memS (memS (mem0)))))))))))) | with_reducible exact memS (memS (memS (memS (memS (memS (memS (memS (memS (memS (memS (memS (memS (mem0)))))))))))))) (by rfl) (by rfl) (by rfl) (by (try simp); omega) (by intro e_; first | with_reducible exact .here | with_reducible exact .there (.here) | with_reducible exact .there (.there (.here)) | with_reducible exact .there (.there (.there (.here))) | with_reducible exact .there (.there (.there (.there (.here)))) | with_reducible exact .there (.there (.there (.there (.there (.here))))) | with_reducible exact .there (.there (.there (.there (.there (.there (.here)))))) | with_reducible exact .there (.there (.there (.there (.there (.there (.there (.here))))))) | with_reducible exact .there (.there (.there (.there (.there (.there (.there (.there (.here)))))))) | with_reducible exact .there (.there (.there (.there (.there (.there (.there (.there (.there (.here))))))))) | with_reducible exact .there (.there (.there (.there (.there (.there (.there (.there (.there (.there (.here)))))))))) | with_reducible exact .there (.there (.there (.there (.there (.there (.there (.there (.there (.there (.there (.here))))))))))) | with_reducible exact .there (.there (.there (.there (.there (.there (.there (.there (.there (.there (.there (.there (.here)))))))))))) | with_reducible exact .there (.there (.there (.there (.there (.there (.there (.there (.there (.there (.there (.there (.there (.here)))))))))))))) rfl ?_
          clear h hO a w; intro a v34 e34 w h hM34 hO
          obtain ⟨A34, c34, rfl, hc34⟩ := hM34.form
          have hr34 := hM34.rr
          refine so h hO (yl_assign h rfl) rfl ?_; clear h a; intro a h
          refine endL ?_
          refine inB_n ?_
          refine then_n ?_
          refine region ?_
          refine so h hO (yl_move h rfl) rfl ?_; clear h a; intro a h
          first | (refine so h hO (yl_add64 h rfl rfl (by omega)) rfl ?_) | (refine so h hO (yl_add h rfl rfl) rfl ?_)
          clear h a; intro a h
          refine so h hO (yl_assign h rfl) rfl ?_; clear h a; intro a h
          refine endL ?_
          refine then_n ?_
          have hk1 : k < xs.length := by omega
          try simp only [Int.toNat_natCast] at *
          exact ⟨k + 1, by omega, _, _, by omega, (by show Mu _ _ _ (sp xs k ++ _) _ _; rw [if_pos (by assumption)]; exact hM34), h.weak (subB_cons rfl (subB_cons rfl (subB_cons rfl (subB_nil)))), (by exact hO.sub (by repeat (first | with_reducible exact List.Sublist.refl _ | with_reducible refine List.Sublist.cons_cons _ ?_ | refine List.Sublist.cons _ ?_)))⟩
        · have hp3 := hb3
          try simp only [decide_eq_true_eq, decide_eq_false_iff_not, Bool.not_eq_true', Bool.not_eq_false', Int.not_lt, Int.not_le, ne_eq, Decidable.not_not] at hp3
          refine skip ?_
          refine inB_n ?_
          refine then_n ?_
          refine region ?_
          refine so h hO (yl_move h rfl) rfl ?_; clear h a; intro a h
          first | (refine so h hO (yl_add64 h rfl rfl (by omega)) rfl ?_) | (refine so h hO (yl_add h rfl rfl) rfl ?_)
          clear h a; intro a h
          refine so h hO (yl_assign h rfl) rfl ?_; clear h a; intro a h
          refine endL ?_
          refine then_n ?_
          have hk1 : k < xs.length := by omega
          try simp only [Int.toNat_natCast] at *
          exact ⟨k + 1, by omega, _, _, by omega, (by show Mu _ _ _ (sp xs k ++ _) _ _; rw [if_neg (by omega), List.append_nil]; exact hM), h.weak (subB_cons rfl (subB_cons rfl (subB_cons rfl (subB_nil)))), (by exact hO.sub (by repeat (first | with_reducible exact List.Sublist.refl _ | with_reducible refine List.Sublist.cons_cons _ ?_ | refine List.Sublist.cons _ ?_)))⟩
      · have hp2 := hb2
        try simp only [decide_eq_true_eq, decide_eq_false_iff_not, Bool.not_eq_true', Bool.not_eq_false', Int.not_lt, Int.not_le, ne_eq, Decidable.not_not] at hp2
        refine exit_ ?_
        refine then_x ?_
        refine then_x ?_
        refine inB_same ?_
        refine then_n ?_
        refine seq ?_
        refine region ?_
        refine so h hO (yl_move h rfl) rfl ?_; clear h a; intro a h
        refine so h hO (yl_assign h rfl) rfl ?_; clear h a; intro a h
        refine so h hO (yl_assign h rfl) rfl ?_; clear h a; intro a h
        refine endL ?_
        refine then_n ?_
        refine retc ?_
        refine ret2 h hO Try.results17 (.tmp rfl (.tmp rfl .nil)) ?_
        refine Ret.mk ?_
        have hk1 : k = xs.length := by omega
        subst hk1
        rw [hok]
        exact ⟨_, _, rfl, hM.rd, (by exact hO.sub (by repeat (first | with_reducible exact List.Sublist.refl _ | with_reducible refine List.Sublist.cons_cons _ ?_ | refine List.Sublist.cons _ ?_)))⟩
set_option maxHeartbeats 4000000 in
theorem IsNested_i (xs : List Int) {v : Value} {H : Nat → Obj → Prop} {w0 w : World} {L : List Ent} (hO : OwnE w0 w L) (hv : Rd I 1 H xs v) (hH : Val w0 L H) : Calls Try.prog 12 ⟨[v]⟩ w (Ret (fun v w => (∃ b : Bool, v = .tuple ⟨[.bool b, .bool (ok xs)]⟩ ∧ (b = true ↔ ok xs = true ∧ nI xs xs.length ∧ tidy xs = true)) ∧ OwnE w0 w L)) := by
  refine enter Try.func12 rfl Try.ntmps12 rfl ?_
  intro a h
  have hv0 := hv
  obtain ⟨A, c, rfl, hc, hr⟩ := hv
  refine seq ?_
  refine region ?_
  refine so h hO (yl_assign h rfl) rfl ?_; clear h a; intro a h
  refine so h hO (yl_assign h rfl) rfl ?_; clear h a; intro a h
  refine endL ?_
  refine then_n ?_
  refine seq ?_
  refine seq ?_
  refine region ?_
  refine so h hO (yl_move h rfl) rfl ?_; clear h a; intro a h
  refine callR h rfl rfl p37 (areEntries_spec _ hO (by assumption) (by first | assumption | exact Val.sub (by assumption) (by repeat (first | with_reducible exact List.Sublist.refl _ | with_reducible refine List.Sublist.cons_cons _ ?_ | refine List.Sublist.cons _ ?_)) | with_reducible exact Val.ext _ _ | exact Val.ent (by first | with_reducible exact mem0 | with_reducible exact memS (mem0) | with_reducible exact memS (memS (mem0)) | with_reducible exact memS (memS (memS (mem0))) | with_reducible exact memS (memS (memS (memS (mem0)))) | with_reducible exact memS (memS (memS (memS (memS (mem0))))) | with_reducible exact memS (memS (memS (memS (memS (memS (mem0)))))) | with_reducible exact memS (memS (memS (memS (memS (memS (memS (mem0))))))) | with_reducible exact memS (memS (memS (memS (memS (memS (memS (memS (mem0)))))))) | with_reducible exact memS (memS (memS (memS (memS (memS (memS (memS (memS (mem0))))))))) | with_reducible exact memS (memS (memS (memS (memS (memS (memS (memS (memS (memS (mem0)))))))))) | with_reducible exact memS (memS (memS (memS (memS (memS (memS (memS (memS (memS (memS (mem0))))))))))) | with_reducible exact memS (memS (memS (memS (memS (memS (memS (memS (memS (memS (memS (memS (mem0)))))))))))) | with_reducible exact memS (memS (memS (memS (memS (memS (memS (memS (memS (memS (memS (memS (memS (mem0)))))))))))))))) rfl ?_; clear h a hO w
  rintro _ w ⟨rfl, hO⟩ a h
  refine so h hO (yl_not h rfl) rfl ?_; clear h a; intro a h
  refine endL ?_
  refine then_n ?_
  refine cond_s h rfl (fun hb1 => ?_) (fun hb1 => ?_)
  · have hp1 := hb1
    try simp only [decide_eq_true_eq, decide_eq_false_iff_not, Bool.not_eq_true', Bool.not_eq_false', Int.not_lt, Int.not_le, ne_eq, Decidable.not_not] at hp1
    refine seq ?_
    refine region ?_
    refine so h hO (yl_assign h rfl) rfl ?_; clear h a; intro a h
    refine so h hO (yl_assign h rfl) rfl ?_; clear h a; intro a h
    refine endL ?_
    refine then_n ?_
    refine retc ?_
    refine then_r (ret2 h hO Try.results12 (.tmp rfl (.tmp rfl .nil)) ?_)
    refine Ret.mk ?_
    have hok : ok xs = false := by simpa using hb1
    rw [hok]
    exact ⟨⟨_, rfl, by simp⟩, hO⟩
  · have hp1 := hb1
    try simp only [decide_eq_true_eq, decide_eq_false_iff_not, Bool.not_eq_true', Bool.not_eq_false', Int.not_lt, Int.not_le, ne_eq, Decidable.not_not] at hp1
    refine skip ?_
    refine then_n ?_
    refine seq ?_
    refine region ?_
    have hok : ok xs = true := by simpa using hb1
    have hsm := (ok_spec hok).2
    have hb := (ok_spec hok).1
    refine so h hO (yl_move h rfl) rfl ?_; clear h a; intro a h
    refine callR h rfl rfl p33 (books_spec _ hO (by assumption) (by first | assumption | exact Val.sub (by assumption) (by repeat (first | with_reducible exact List.Sublist.refl _ | with_reducible refine List.Sublist.cons_cons _ ?_ | refine List.Sublist.cons _ ?_)) | with_reducible exact Val.ext _ _ | exact Val.ent (by first | with_reducible exact mem0 | with_reducible exact memS (mem0) | with_reducible exact memS (memS (mem0)) | with_reducible exact memS (memS (memS (mem0))) | with_reducible exact memS (memS (memS (memS (mem0)))) | with_reducible exact memS (memS (memS (memS (memS (mem0))))) | with_reducible exact memS (memS (memS (memS (memS (memS (mem0)))))) | with_reducible exact memS (memS (memS (memS (memS (memS (memS (mem0))))))) | with_reducible exact memS (memS (memS (memS (memS (memS (memS (memS (mem0)))))))) | with_reducible exact memS (memS (memS (memS (memS (memS (memS (memS (memS (mem0))))))))) | with_reducible exact memS (memS (memS (memS (memS (memS (memS (memS (memS (memS (mem0)))))))))) | with_reducible exact memS (memS (memS (memS (memS (memS (memS (memS (memS (memS (memS (mem0))))))))))) | with_reducible exact memS (memS (memS (memS (memS (memS (memS (memS (memS (memS (memS (memS (mem0)))))))))))) | with_reducible exact memS (memS (memS (memS (memS (memS (memS (memS (memS (memS (memS (memS (memS (mem0))))))))))))))) (by assumption) (by omega)) rfl ?_; clear h a hO w
    rintro _ w ⟨v1, v2, e1, e2, rfl, hR, hMf, hO⟩ a h
    obtain ⟨hs, ⟨A1, c1, rfl, hc1, hr1⟩, hAll⟩ := hR
    obtain ⟨A2, c2, rfl, hc2⟩ := hMf.form
    have hl1 := hAll.length
    rw [rows_length] at hl1
    refine so h hO (yl_move h rfl) rfl ?_; clear h a; intro a h
    refine so h hO (yl_extract h rfl rfl) rfl ?_; clear h a; intro a h
    refine so h hO (yl_extract h rfl rfl) rfl ?_; clear h a; intro a h
    refine so h hO (yl_assign h rfl) rfl ?_; clear h a; intro a h
    refine so h hO (yl_assign h rfl) rfl ?_; clear h a; intro a h
    refine endL ?_
    refine then_n ?_
    refine seq ?_
    refine seq ?_
    refine region ?_
    refine so h hO (yl_move h rfl) rfl ?_; clear h a; intro a h
    refine so h hO (yl_len h rfl p0) rfl ?_; clear h a; intro a h
    refine so h hO (yl_move h rfl) rfl ?_; clear h a; intro a h
    refine endL ?_
    refine then_n ?_
    refine block ?_
    refine loop (fun (k : Nat) a w =>  k ≤ xs.length ∧ (nI xs k) ∧ St 50 [] [(0, .slice A xs.length c), (4, .slice A1 hs.length c1), (16, .slice A xs.length c), (17, .int .i64 xs.length), (18, .int .i64 k)] a ∧ OwnE w0 w (e1 :: e2 :: L)) (fun k => xs.length - k) 0 ?_ ?_
    · exact ⟨Nat.zero_le _, (fun i h _ _ => by omega), h.weak (subB_cons rfl (subB_cons rfl (subB_cons rfl (subB_cons rfl (subB_cons rfl (subB_nil)))))), hO⟩
    · clear h a hO w
      rintro k a w ⟨hk, hN, h, hO⟩
      refine seq ?_
      refine region ?_
      refine so h hO (yl_lt h rfl rfl) rfl ?_; clear h a; intro a h
      refine endL ?_
      refine then_n ?_
      refine seq ?_
      refine cond_s h rfl (fun hb2 => ?_) (fun hb2 => ?_)
      · have hp2 := hb2
        try simp only [decide_eq_true_eq, decide_eq_false_iff_not, Bool.not_eq_true', Bool.not_eq_false', Int.not_lt, Int.not_le, ne_eq, Decidable.not_not] at hp2
        refine skip ?_
        refine then_n ?_
        refine seq ?_
        refine block ?_
        refine seq ?_
        refine region ?_
        have hx := hsm _ (getD_mem (xs := xs) (k := k) (by omega))
        rw [show k = ((k : Int)).toNat by simp] at hx
        refine so h hO (yl_move h rfl) rfl ?_; clear h a; intro a h
        refine so h hO (yl_ix h rfl rfl p0 (by assumption) (by simp) (by omega)) rfl ?_; clear h a; intro a h
        refine so h hO (yl_ld1 h rfl p1 (by assumption) (by first | assumption | exact Val.sub (by assumption) (by repeat (first | with_reducible exact List.Sublist.refl _ | with_reducible refine List.Sublist.cons_cons _ ?_ | refine List.Sublist.cons _ ?_)) | with_reducible exact Val.ext _ _ | exact Val.ent (by first | with_reducible exact mem0 | with_reducible exact memS (mem0) | with_reducible exact memS (memS (mem0)) | with_reducible exact memS (memS (memS (mem0))) | with_reducible exact memS (memS (memS (memS (mem0)))) | with_reducible exact memS (memS (memS (memS (memS (mem0))))) | with_reducible exact memS (memS (memS (memS (memS (memS (mem0)))))) | with_reducible exact memS (memS (memS (memS (memS (memS (memS (mem0))))))) | with_reducible exact memS (memS (memS (memS (memS (memS (memS (memS (mem0)))))))) | with_reducible exact memS (memS (memS (memS (memS (memS (memS (memS (memS (mem0))))))))) | with_reducible exact memS (memS (memS (memS (memS (memS (memS (memS (memS (memS (mem0)))))))))) | with_reducible exact memS (memS (memS (memS (memS (memS (memS (memS (memS (memS (memS (mem0))))))))))) | with_reducible exact memS (memS (memS (memS (memS (memS (memS (memS (memS (memS (memS (memS (mem0)))))))))))) | with_reducible exact memS (memS (memS (memS (memS (memS (memS (memS (memS (memS (memS (memS (memS (mem0))))))))))))))) (by omega) (fun _ => rfl)) rfl ?_; clear h a; intro a h
        refine so h hO (yl_assign h rfl) rfl ?_; clear h a; intro a h
        refine so h hO (yl_assign h rfl) rfl ?_; clear h a; intro a h
        refine endL ?_
        refine then_n ?_
        refine seq ?_
        refine regionD [] (fun w => OwnE w0 w _) (by kernel_rfl) (by kernel_rfl) hO ?_; have hO := hO.drew; generalize w.drew = w at hO ⊢
        refine dp 0 h rfl (by kernel_rfl) (yl_move h rfl) rfl ?_; clear h a; intro a h
        refine dp 1 h rfl (by kernel_rfl) (yl_lt h rfl rfl) rfl ?_; clear h a; intro a h
        refine dp 2 h rfl (by kernel_rfl) (yl_move h rfl) rfl ?_; clear h a; intro a h
        refine split h 25 rfl (fun hb3 => ?_) (fun hb3 => ?_)
        · have hp3 := hb3
          try simp only [decide_eq_true_eq, decide_eq_false_iff_not, Bool.not_eq_true', Bool.not_eq_false', Int.not_lt, Int.not_le, ne_eq, Decidable.not_not] at hp3
          refine dpg 3 h rfl (by kernel_rfl) (j := 2) rfl rfl hb3 (yl_move h rfl) rfl ?_; clear h a; intro a h
          refine dpg 4 h rfl (by kernel_rfl) (j := 2) rfl rfl hb3 (yl_gt h rfl rfl) rfl ?_; clear h a; intro a h
          refine dp 5 h rfl (by kernel_rfl) (yl_pick_t h rfl hb3 rfl) rfl ?_; clear h a; intro a h
          refine dp 6 h rfl (by kernel_rfl) (yl_move h rfl) rfl ?_; clear h a; intro a h
          refine split h 29 rfl (fun hb4 => ?_) (fun hb4 => ?_)
          · have hp4 := hb4
            try simp only [decide_eq_true_eq, decide_eq_false_iff_not, Bool.not_eq_true', Bool.not_eq_false', Int.not_lt, Int.not_le, ne_eq, Decidable.not_not] at hp4
            refine dpg 7 h rfl (by kernel_rfl) (j := 6) rfl rfl hb4 (yl_move h rfl) rfl ?_; clear h a; intro a h
            refine dpg 8 h rfl (by kernel_rfl) (j := 6) rfl rfl hb4 (yl_move h rfl) rfl ?_; clear h a; intro a h
            first | (refine dpg 9 h rfl (by kernel_rfl) (j := 6) rfl rfl hb4 (yl_sub64 h rfl rfl (by omega)) rfl ?_) | (refine dpg 9 h rfl (by kernel_rfl) (j := 6) rfl rfl hb4 (yl_sub h rfl rfl) rfl ?_)
            clear h a; intro a h
            obtain ⟨B3, c3, hy3, hrd3, hr3⟩ := rowAt hAll (i := k - 1) (by omega)
            rw [show k - 1 + 1 = k by omega] at hy3 hrd3 hr3
            refine dpg 10 h rfl (by kernel_rfl) (j := 6) rfl rfl hb4 (yl_ix h rfl rfl p24 (by assumption) (by simp) (by omega)) rfl ?_; clear h a; intro a h
            refine dqg 11 h rfl (by kernel_rfl) (by kernel_rfl) (j := 6) rfl rfl hb4 (yl_ldRow h rfl p34 (by assumption) (by first | assumption | exact Val.sub (by assumption) (by repeat (first | with_reducible exact List.Sublist.refl _ | with_reducible refine List.Sublist.cons_cons _ ?_ | refine List.Sublist.cons _ ?_)) | with_reducible exact Val.ext _ _ | exact Val.ent (by first | with_reducible exact mem0 | with_reducible exact memS (mem0) | with_reducible exact memS (memS (mem0)) | with_reducible exact memS (memS (memS (mem0))) | with_reducible exact memS (memS (memS (memS (mem0)))) | with_reducible exact memS (memS (memS (memS (memS (mem0))))) | with_reducible exact memS (memS (memS (memS (memS (memS (mem0)))))) | with_reducible exact memS (memS (memS (memS (memS (memS (memS (mem0))))))) | with_reducible exact memS (memS (memS (memS (memS (memS (memS (memS (mem0)))))))) | with_reducible exact memS (memS (memS (memS (memS (memS (memS (memS (memS (mem0))))))))) | with_reducible exact memS (memS (memS (memS (memS (memS (memS (memS (memS (memS (mem0)))))))))) | with_reducible exact memS (memS (memS (memS (memS (memS (memS (memS (memS (memS (memS (mem0))))))))))) | with_reducible exact memS (memS (memS (memS (memS (memS (memS (memS (memS (memS (memS (memS (mem0)))))))))))) | with_reducible exact memS (memS (memS (memS (memS (memS (memS (memS (memS (memS (memS (memS (memS (mem0))))))))))))))) (by rw [show ((k : Int) - 1).toNat = k - 1 by omega]; exact hy3)) rfl ?_; clear h a; intro a h
            refine dpg 12 h rfl (by kernel_rfl) (j := 6) rfl rfl hb4 (yl_move h rfl) rfl ?_; clear h a; intro a h
            refine dpg 13 h rfl (by kernel_rfl) (j := 6) rfl rfl hb4 (yl_move h rfl) rfl ?_; clear h a; intro a h
            obtain ⟨B4, c4, hy4, hrd4, hr4⟩ := rowAt hAll (i := k) (by omega)
            refine dpg 14 h rfl (by kernel_rfl) (j := 6) rfl rfl hb4 (yl_ix h rfl rfl p24 (by assumption) (by simp) (by omega)) rfl ?_; clear h a; intro a h
            refine dqg 15 h rfl (by kernel_rfl) (by kernel_rfl) (j := 6) rfl rfl hb4 (yl_ldRow h rfl p34 (by assumption) (by first | assumption | exact Val.sub (by assumption) (by repeat (first | with_reducible exact List.Sublist.refl _ | with_reducible refine List.Sublist.cons_cons _ ?_ | refine List.Sublist.cons _ ?_)) | with_reducible exact Val.ext _ _ | exact Val.ent (by first | with_reducible exact mem0 | with_reducible exact memS (mem0) | with_reducible exact memS (memS (mem0)) | with_reducible exact memS (memS (memS (mem0))) | with_reducible exact memS (memS (memS (memS (mem0)))) | with_reducible exact memS (memS (memS (memS (memS (mem0))))) | with_reducible exact memS (memS (memS (memS (memS (memS (mem0)))))) | with_reducible exact memS (memS (memS (memS (memS (memS (memS (mem0))))))) | with_reducible exact memS (memS (memS (memS (memS (memS (memS (memS (mem0)))))))) | with_reducible exact memS (memS (memS (memS (memS (memS (memS (memS (memS (mem0))))))))) | with_reducible exact memS (memS (memS (memS (memS (memS (memS (memS (memS (memS (mem0)))))))))) | with_reducible exact memS (memS (memS (memS (memS (memS (memS (memS (memS (memS (memS (mem0))))))))))) | with_reducible exact memS (memS (memS (memS (memS (memS (memS (memS (memS (memS (memS (memS (mem0)))))))))))) | with_reducible exact memS (memS (memS (memS (memS (memS (memS (memS (memS (memS (memS (memS (memS (mem0))))))))))))))) (by rw [Int.toNat_natCast]; exact hy4)) rfl ?_; clear h a; intro a h
            refine dpg 17 h rfl (by kernel_rfl) (j := 6) rfl rfl hb4 (yl_move h rfl) rfl ?_; clear h a; intro a h
            first | (refine dpg 18 h rfl (by kernel_rfl) (j := 6) rfl rfl hb4 (yl_neg64 h rfl (by omega)) rfl ?_) | (refine dpg 18 h rfl (by kernel_rfl) (j := 6) rfl rfl hb4 (yl_neg h rfl) rfl ?_)
            clear h a; intro a h
            refine dbr [16, 19] (by kernel_rfl) rfl (clIn (by exact (by first | exact hO | exact hO.sub (by repeat (first | with_reducible exact List.Sublist.refl _ | with_reducible refine List.Sublist.cons_cons _ ?_ | refine List.Sublist.cons _ ?_))))) ⟨?_, ?_, trivial⟩
            · refine od rfl ?_
              refine ug h (j := 6) rfl rfl hb4 ?_
              refine callR h rfl rfl p26 (Clone_spec _ hO (by assumption) (by first | assumption | exact Val.sub (by assumption) (by repeat (first | with_reducible exact List.Sublist.refl _ | with_reducible refine List.Sublist.cons_cons _ ?_ | refine List.Sublist.cons _ ?_)) | with_reducible exact Val.ext _ _ | exact Val.ent (by first | with_reducible exact mem0 | with_reducible exact memS (mem0) | with_reducible exact memS (memS (mem0)) | with_reducible exact memS (memS (memS (mem0))) | with_reducible exact memS (memS (memS (memS (mem0)))) | with_reducible exact memS (memS (memS (memS (memS (mem0))))) | with_reducible exact memS (memS (memS (memS (memS (memS (mem0)))))) | with_reducible exact memS (memS (memS (memS (memS (memS (memS (mem0))))))) | with_reducible exact memS (memS (memS (memS (memS (memS (memS (memS (mem0)))))))) | with_reducible exact memS (memS (memS (memS (memS (memS (memS (memS (memS (mem0))))))))) | with_reducible exact memS (memS (memS (memS (memS (memS (memS (memS (memS (memS (mem0)))))))))) | with_reducible exact memS (memS (memS (memS (memS (memS (memS (memS (memS (memS (memS (mem0))))))))))) | with_reducible exact memS (memS (memS (memS (memS (memS (memS (memS (memS (memS (memS (memS (mem0)))))))))))) | with_reducible exact memS (memS (memS (memS (memS (memS (memS (memS (memS (memS (memS (memS (memS (mem0))))))))))))))) (by have := opens_le (xs.take (k + 1)); have := List.length_take_le (k + 1) xs; have : (xs.take (k + 1)).length ≤ xs.length := (by rw [List.length_take]; omega); omega)) rfl ?_; clear h a hO w
              rintro _ w ⟨ed, hMd, hO⟩ a h
              refine endE ?_
              refine dbr [19] (by kernel_rfl) rfl (clIn (by exact (by first | exact hO | exact hO.sub (by repeat (first | with_reducible exact List.Sublist.refl _ | with_reducible refine List.Sublist.cons_cons _ ?_ | refine List.Sublist.cons _ ?_))))) ⟨?_, trivial⟩
              refine od rfl ?_
              refine ug h (j := 6) rfl rfl hb4 ?_
              refine stepBuildAll (us := [_]) h hO rfl p0 rfl p4 rfl rfl rfl rfl rfl ?_; clear h hO a w; intro a b42 w h hO
              refine endE ?_
              refine dbr [20] (by kernel_rfl) rfl (clIn (by exact (by first | exact hO | exact hO.sub (by repeat (first | with_reducible exact List.Sublist.refl _ | with_reducible refine List.Sublist.cons_cons _ ?_ | refine List.Sublist.cons _ ?_))))) ⟨?_, trivial⟩
              refine od rfl ?_
              refine ug h (j := 6) rfl rfl hb4 ?_
              refine stepApp  h hO rfl rfl p5 rfl (by assumption) (by first | with_reducible exact mem0 | with_reducible exact memS (mem0) | with_reducible exact memS (memS (mem0)) | with_reducible exact memS (memS (memS (mem0))) | with_reducible exact memS (memS (memS (memS (mem0)))) | with_reducible exact memS (memS (memS (memS (memS (mem0))))) | with_reducible exact memS (memS (memS (memS (memS (memS (mem0)))))) | with_reducible exact memS (memS (memS (memS (memS (memS (memS (mem0))))))) | with_reducible exact memS (memS (memS (memS (memS (memS (memS (memS (mem0)))))))) | with_reducible exact memS (memS (memS (memS (memS (memS (memS (memS (memS (mem0))))))))) | with_reducible exact memS (memS (memS (memS (memS (memS (memS (memS (memS (memS (mem0)))))))))) | with_reducible exact memS (memS (memS (memS (memS (memS (memS (memS (memS (memS (memS (mem0))))))))))) | with_reducible exact memS (memS (memS (memS (memS (memS (memS (memS (memS (memS (memS (memS (mem0)))))))))))) | with_reducible exact memS (memS (memS (memS (memS (memS (memS (memS (memS (memS (memS (memS (memS (mem0)))))))))))))) (by rfl) (by rfl) (by rfl) (by have := opens_le (xs.take (k + 1)); have : (xs.take (k + 1)).length ≤ xs.length := (by rw [List.length_take]; omega); omega) (by intro e_; first | with_reducible exact .here | with_reducible exact .there (.here) | with_reducible exact .there (.there (.here)) | with_reducible exact .there (.there (.there (.here))) | with_reducible exact .there (.there (.there (.there (.here)))) | with_reducible exact .there (.there (.there (.there (.there (.here))))) | with_reducible exact .there (.there (.there (.there (.there (.there (.here)))))) | with_reducible exact .there (.there (.there (.there (.there (.there (.there (.here))))))) | with_reducible exact .there (.there (.there (.there (.there (.there (.there (.there (.here)))))))) | with_reducible exact .there (.there (.there (.there (.there (.there (.there (.there (.there (.here))))))))) | with_reducible exact .there (.there (.there (.there (.there (.there (.there (.there (.there (.there (.here)))))))))) | with_reducible exact .there (.there (.there (.there (.there (.there (.there (.there (.there (.there (.there (.here))))))))))) | with_reducible exact .there (.there (.there (.there (.there (.there (.there (.there (.there (.there (.there (.there (.here)))))))))))) | with_reducible exact .there (.there (.there (.there (.there (.there (.there (.there (.there (.there (.there (.there (.there (.here)))))))))))))) rfl ?_
              clear h hO a w; intro a v43 e43 w h hM43 hO
              obtain ⟨A43, c43, rfl, hc43⟩ := hM43.form
              have hr43 := hM43.rr
              refine endE ?_
              refine dbr [21] (by kernel_rfl) rfl (clIn (by exact (by first | exact hO | exact hO.sub (by repeat (first | with_reducible exact List.Sublist.refl _ | with_reducible refine List.Sublist.cons_cons _ ?_ | refine List.Sublist.cons _ ?_))))) ⟨?_, trivial⟩
              refine od rfl ?_
              have hrd43 := hM43.rd
              refine ug h (j := 6) rfl rfl hb4 ?_
              refine callR h rfl rfl p46 (Equal_spec _ _ hO hrd3 (by first | assumption | exact Val.sub (by assumption) (by repeat (first | with_reducible exact List.Sublist.refl _ | with_reducible refine List.Sublist.cons_cons _ ?_ | refine List.Sublist.cons _ ?_)) | with_reducible exact Val.ext _ _ | exact Val.ent (by first | with_reducible exact mem0 | with_reducible exact memS (mem0) | with_reducible exact memS (memS (mem0)) | with_reducible exact memS (memS (memS (mem0))) | with_reducible exact memS (memS (memS (memS (mem0)))) | with_reducible exact memS (memS (memS (memS (memS (mem0))))) | with_reducible exact memS (memS (memS (memS (memS (memS (mem0)))))) | with_reducible exact memS (memS (memS (memS (memS (memS (memS (mem0))))))) | with_reducible exact memS (memS (memS (memS (memS (memS (memS (memS (mem0)))))))) | with_reducible exact memS (memS (memS (memS (memS (memS (memS (memS (memS (mem0))))))))) | with_reducible exact memS (memS (memS (memS (memS (memS (memS (memS (memS (memS (mem0)))))))))) | with_reducible exact memS (memS (memS (memS (memS (memS (memS (memS (memS (memS (memS (mem0))))))))))) | with_reducible exact memS (memS (memS (memS (memS (memS (memS (memS (memS (memS (memS (memS (mem0)))))))))))) | with_reducible exact memS (memS (memS (memS (memS (memS (memS (memS (memS (memS (memS (memS (memS (mem0))))))))))))))) hrd43 (by first | assumption | exact Val.sub (by assumption) (by repeat (first | with_reducible exact List.Sublist.refl _ | with_reducible refine List.Sublist.cons_cons _ ?_ | refine List.Sublist.cons _ ?_)) | with_reducible exact Val.ext _ _ | exact Val.ent (by first | with_reducible exact mem0 | with_reducible exact memS (mem0) | with_reducible exact memS (memS (mem0)) | with_reducible exact memS (memS (memS (mem0))) | with_reducible exact memS (memS (memS (memS (mem0)))) | with_reducible exact memS (memS (memS (memS (memS (mem0))))) | with_reducible exact memS (memS (memS (memS (memS (memS (mem0)))))) | with_reducible exact memS (memS (memS (memS (memS (memS (memS (mem0))))))) | with_reducible exact memS (memS (memS (memS (memS (memS (memS (memS (mem0)))))))) | with_reducible exact memS (memS (memS (memS (memS (memS (memS (memS (memS (mem0))))))))) | with_reducible exact memS (memS (memS (memS (memS (memS (memS (memS (memS (memS (mem0)))))))))) | with_reducible exact memS (memS (memS (memS (memS (memS (memS (memS (memS (memS (memS (mem0))))))))))) | with_reducible exact memS (memS (memS (memS (memS (memS (memS (memS (memS (memS (memS (memS (mem0)))))))))))) | with_reducible exact memS (memS (memS (memS (memS (memS (memS (memS (memS (memS (memS (memS (memS (mem0)))))))))))))))) rfl ?_; clear h a hO w
              rintro _ w ⟨rfl, hO⟩ a h
              refine endE ?_
              refine dpg 22 h rfl (by kernel_rfl) (j := 6) rfl rfl hb4 (yl_not h rfl) rfl ?_; clear h a; intro a h
              refine dp 23 h rfl (by kernel_rfl) (yl_pick_t h rfl hb4 rfl) rfl ?_; clear h a; intro a h
              refine dend (by kernel_rfl) (clIn (by exact (by first | exact hO | exact hO.sub (by repeat (first | with_reducible exact List.Sublist.refl _ | with_reducible refine List.Sublist.cons_cons _ ?_ | refine List.Sublist.cons _ ?_))))) ?_
              refine then_n ?_
              refine cond_s h rfl (fun hb5 => ?_) (fun hb5 => ?_)
              · have hp5 := hb5
                try simp only [decide_eq_true_eq, decide_eq_false_iff_not, Bool.not_eq_true', Bool.not_eq_false', Int.not_lt, Int.not_le, ne_eq, Decidable.not_not] at hp5
                refine seq ?_
                refine region ?_
                refine so h hO (yl_assign h rfl) rfl ?_; clear h a; intro a h
                refine so h hO (yl_assign h rfl) rfl ?_; clear h a; intro a h
                refine endL ?_
                refine then_n ?_
                refine retc ?_
                refine inB_r (then_r (then_r (inB_r (then_r (ret2 h hO Try.results12 (.tmp rfl (.tmp rfl .nil)) ?_)))))
                refine Ret.mk ?_
                have hk1 : k < xs.length := by omega
                try simp only [Int.toNat_natCast] at *
                rw [hok]
                exact ⟨⟨false, rfl, ⟨(fun h => by cases h), fun hh => absurd (hh.2.1 k (by omega) (by omega) (by assumption)) (by assumption)⟩⟩, (by exact hO.sub (by repeat (first | with_reducible exact List.Sublist.refl _ | with_reducible refine List.Sublist.cons_cons _ ?_ | refine List.Sublist.cons _ ?_)))⟩
              · have hp5 := hb5
                try simp only [decide_eq_true_eq, decide_eq_false_iff_not, Bool.not_eq_true', Bool.not_eq_false', Int.not_lt, Int.not_le, ne_eq, Decidable.not_not] at hp5
                refine skip ?_
                refine inB_n ?_
                refine then_n ?_
                refine region ?_
                first | (refine so h hO (yl_add64 h rfl rfl (by omega)) rfl ?_) | (refine so h hO (yl_add h rfl rfl) rfl ?_)
                clear h a; intro a h
                refine so h hO (yl_move h rfl) rfl ?_; clear h a; intro a h
                refine endL ?_
                refine then_n ?_
                have hk1 : k < xs.length := by omega
                try simp only [Int.toNat_natCast] at *
                refine ⟨k + 1, by omega, by omega, nI_succ hN (fun h0 hn => by first | assumption | (exfalso; omega)), h.weak (subB_cons rfl (subB_cons rfl (subB_cons rfl (subB_cons rfl (subB_cons rfl (subB_nil)))))), (by exact hO.sub (by repeat (first | with_reducible exact List.Sublist.refl _ | with_reducible refine List.Sublist.cons_cons _ ?_ | refine List.Sublist.cons _ ?_)))⟩
            · refine od rfl ?_
              refine ug h (j := 6) rfl rfl hb4 ?_
              refine stepBuildAll (us := [_]) h hO rfl p0 rfl p4 rfl rfl rfl rfl rfl ?_; clear h hO a w; intro a b42 w h hO
              refine endE ?_
              refine dbr [16] (by kernel_rfl) rfl (clIn (by exact (by first | exact hO | exact hO.sub (by repeat (first | with_reducible exact List.Sublist.refl _ | with_reducible refine List.Sublist.cons_cons _ ?_ | refine List.Sublist.cons _ ?_))))) ⟨?_, trivial⟩
              refine od rfl ?_
              refine ug h (j := 6) rfl rfl hb4 ?_
              refine callR h rfl rfl p26 (Clone_spec _ hO (by assumption) (by first | assumption | exact Val.sub (by assumption) (by repeat (first | with_reducible exact List.Sublist.refl _ | with_reducible refine List.Sublist.cons_cons _ ?_ | refine List.Sublist.cons _ ?_)) | with_reducible exact Val.ext _ _ | exact Val.ent (by first | with_reducible exact mem0 | with_reducible exact memS (mem0) | with_reducible exact memS (memS (mem0)) | with_reducible exact memS (memS (memS (mem0))) | with_reducible exact memS (memS (memS (memS (mem0)))) | with_reducible exact memS (memS (memS (memS (memS (mem0))))) | with_reducible exact memS (memS (memS (memS (memS (memS (mem0)))))) | with_reducible exact memS (memS (memS (memS (memS (memS (memS (mem0))))))) | with_reducible exact memS (memS (memS (memS (memS (memS (memS (memS (mem0)))))))) | with_reducible exact memS (memS (memS (memS (memS (memS (memS (memS (memS (mem0))))))))) | with_reducible exact memS (memS (memS (memS (memS (memS (memS (memS (memS (memS (mem0)))))))))) | with_reducible exact memS (memS (memS (memS (memS (memS (memS (memS (memS (memS (memS (mem0))))))))))) | with_reducible exact memS (memS (memS (memS (memS (memS (memS (memS (memS (memS (memS (memS (mem0)))))))))))) | with_reducible exact memS (memS (memS (memS (memS (memS (memS (memS (memS (memS (memS (memS (memS (mem0))))))))))))))) (by have := opens_le (xs.take (k + 1)); have := List.length_take_le (k + 1) xs; have : (xs.take (k + 1)).length ≤ xs.length := (by rw [List.length_take]; omega); omega)) rfl ?_; clear h a hO w
              rintro _ w ⟨ed, hMd, hO⟩ a h
              refine endE ?_
              refine dbr [20] (by kernel_rfl) rfl (clIn (by exact (by first | exact hO | exact hO.sub (by repeat (first | with_reducible exact List.Sublist.refl _ | with_reducible refine List.Sublist.cons_cons _ ?_ | refine List.Sublist.cons _ ?_))))) ⟨?_, trivial⟩
              refine od rfl ?_
              refine ug h (j := 6) rfl rfl hb4 ?_
              refine stepApp  h hO rfl rfl p5 rfl (by assumption) (by first | with_reducible exact mem0 | with_reducible exact memS (mem0) | with_reducible exact memS (memS (mem0)) | with_reducible exact memS (memS (memS (mem0))) | with_reducible exact memS (memS (memS (memS (mem0)))) | with_reducible exact memS (memS (memS (memS (memS (mem0))))) | with_reducible exact memS (memS (memS (memS (memS (memS (mem0)))))) | with_reducible exact memS (memS (memS (memS (memS (memS (memS (mem0))))))) | with_reducible exact memS (memS (memS (memS (memS (memS (memS (memS (mem0)))))))) | with_reducible exact memS (memS (memS (memS (memS (memS (memS (memS (memS (mem0))))))))) | with_reducible exact memS (memS (memS (memS (memS (memS (memS (memS (memS (memS (mem0)))))))))) | with_reducible exact memS (memS (memS (memS (memS (memS (memS (memS (memS (memS (memS (mem0))))))))))) | with_reducible exact memS (memS (memS (memS (memS (memS (memS (memS (memS (memS (memS (memS (mem0)))))))))))) | with_reducible exact memS (memS (memS (memS (memS (memS (memS (memS (memS (memS (memS (memS (memS (mem0)))))))))))))) (by rfl) (by rfl) (by rfl) (by have := opens_le (xs.take (k + 1)); have : (xs.take (k + 1)).length ≤ xs.length := (by rw [List.length_take]; omega); omega) (by intro e_; first | with_reducible exact .here | with_reducible exact .there (.here) | with_reducible exact .there (.there (.here)) | with_reducible exact .there (.there (.there (.here))) | with_reducible exact .there (.there (.there (.there (.here)))) | with_reducible exact .there (.there (.there (.there (.there (.here))))) | with_reducible exact .there (.there (.there (.there (.there (.there (.here)))))) | with_reducible exact .there (.there (.there (.there (.there (.there (.there (.here))))))) | with_reducible exact .there (.there (.there (.there (.there (.there (.there (.there (.here)))))))) | with_reducible exact .there (.there (.there (.there (.there (.there (.there (.there (.there (.here))))))))) | with_reducible exact .there (.there (.there (.there (.there (.there (.there (.there (.there (.there (.here)))))))))) | with_reducible exact .there (.there (.there (.there (.there (.there (.there (.there (.there (.there (.there (.here))))))))))) | with_reducible exact .there (.there (.there (.there (.there (.there (.there (.there (.there (.there (.there (.there (.here)))))))))))) | with_reducible exact .there (.there (.there (.there (.there (.there (.there (.there (.there (.there (.there (.there (.there (.here)))))))))))))) rfl ?_
              clear h hO a w; intro a v43 e43 w h hM43 hO
              obtain ⟨A43, c43, rfl, hc43⟩ := hM43.form
              have hr43 := hM43.rr
              refine endE ?_
              refine dbr [21] (by kernel_rfl) rfl (clIn (by exact (by first | exact hO | exact hO.sub (by repeat (first | with_reducible exact List.Sublist.refl _ | with_reducible refine List.Sublist.cons_cons _ ?_ | refine List.Sublist.cons _ ?_))))) ⟨?_, trivial⟩
              refine od rfl ?_
              have hrd43 := hM43.rd
              refine ug h (j := 6) rfl rfl hb4 ?_
              refine callR h rfl rfl p46 (Equal_spec _ _ hO hrd3 (by first | assumption | exact Val.sub (by assumption) (by repeat (first | with_reducible exact List.Sublist.refl _ | with_reducible refine List.Sublist.cons_cons _ ?_ | refine List.Sublist.cons _ ?_)) | with_reducible exact Val.ext _ _ | exact Val.ent (by first | with_reducible exact mem0 | with_reducible exact memS (mem0) | with_reducible exact memS (memS (mem0)) | with_reducible exact memS (memS (memS (mem0))) | with_reducible exact memS (memS (memS (memS (mem0)))) | with_reducible exact memS (memS (memS (memS (memS (mem0))))) | with_reducible exact memS (memS (memS (memS (memS (memS (mem0)))))) | with_reducible exact memS (memS (memS (memS (memS (memS (memS (mem0))))))) | with_reducible exact memS (memS (memS (memS (memS (memS (memS (memS (mem0)))))))) | with_reducible exact memS (memS (memS (memS (memS (memS (memS (memS (memS (mem0))))))))) | with_reducible exact memS (memS (memS (memS (memS (memS (memS (memS (memS (memS (mem0)))))))))) | with_reducible exact memS (memS (memS (memS (memS (memS (memS (memS (memS (memS (memS (mem0))))))))))) | with_reducible exact memS (memS (memS (memS (memS (memS (memS (memS (memS (memS (memS (memS (mem0)))))))))))) | with_reducible exact memS (memS (memS (memS (memS (memS (memS (memS (memS (memS (memS (memS (memS (mem0))))))))))))))) hrd43 (by first | assumption | exact Val.sub (by assumption) (by repeat (first | with_reducible exact List.Sublist.refl _ | with_reducible refine List.Sublist.cons_cons _ ?_ | refine List.Sublist.cons _ ?_)) | with_reducible exact Val.ext _ _ | exact Val.ent (by first | with_reducible exact mem0 | with_reducible exact memS (mem0) | with_reducible exact memS (memS (mem0)) | with_reducible exact memS (memS (memS (mem0))) | with_reducible exact memS (memS (memS (memS (mem0)))) | with_reducible exact memS (memS (memS (memS (memS (mem0))))) | with_reducible exact memS (memS (memS (memS (memS (memS (mem0)))))) | with_reducible exact memS (memS (memS (memS (memS (memS (memS (mem0))))))) | with_reducible exact memS (memS (memS (memS (memS (memS (memS (memS (mem0)))))))) | with_reducible exact memS (memS (memS (memS (memS (memS (memS (memS (memS (mem0))))))))) | with_reducible exact memS (memS (memS (memS (memS (memS (memS (memS (memS (memS (mem0)))))))))) | with_reducible exact memS (memS (memS (memS (memS (memS (memS (memS (memS (memS (memS (mem0))))))))))) | with_reducible exact memS (memS (memS (memS (memS (memS (memS (memS (memS (memS (memS (memS (mem0)))))))))))) | with_reducible exact memS (memS (memS (memS (memS (memS (memS (memS (memS (memS (memS (memS (memS (mem0)))))))))))))))) rfl ?_; clear h a hO w
              rintro _ w ⟨rfl, hO⟩ a h
              refine endE ?_
              refine dpg 22 h rfl (by kernel_rfl) (j := 6) rfl rfl hb4 (yl_not h rfl) rfl ?_; clear h a; intro a h
              refine dp 23 h rfl (by kernel_rfl) (yl_pick_t h rfl hb4 rfl) rfl ?_; clear h a; intro a h
              refine dend (by kernel_rfl) (clIn (by exact (by first | exact hO | exact hO.sub (by repeat (first | with_reducible exact List.Sublist.refl _ | with_reducible refine List.Sublist.cons_cons _ ?_ | refine List.Sublist.cons _ ?_))))) ?_
              refine then_n ?_
              refine cond_s h rfl (fun hb6 => ?_) (fun hb6 => ?_)
              · have hp6 := hb6
                try simp only [decide_eq_true_eq, decide_eq_false_iff_not, Bool.not_eq_true', Bool.not_eq_false', Int.not_lt, Int.not_le, ne_eq, Decidable.not_not] at hp6
                refine seq ?_
                refine region ?_
                refine so h hO (yl_assign h rfl) rfl ?_; clear h a; intro a h
                refine so h hO (yl_assign h rfl) rfl ?_; clear h a; intro a h
                refine endL ?_
                refine then_n ?_
                refine retc ?_
                refine inB_r (then_r (then_r (inB_r (then_r (ret2 h hO Try.results12 (.tmp rfl (.tmp rfl .nil)) ?_)))))
                refine Ret.mk ?_
                have hk1 : k < xs.length := by omega
                try simp only [Int.toNat_natCast] at *
                rw [hok]
                exact ⟨⟨false, rfl, ⟨(fun h => by cases h), fun hh => absurd (hh.2.1 k (by omega) (by omega) (by assumption)) (by assumption)⟩⟩, (by exact hO.sub (by repeat (first | with_reducible exact List.Sublist.refl _ | with_reducible refine List.Sublist.cons_cons _ ?_ | refine List.Sublist.cons _ ?_)))⟩
              · have hp6 := hb6
                try simp only [decide_eq_true_eq, decide_eq_false_iff_not, Bool.not_eq_true', Bool.not_eq_false', Int.not_lt, Int.not_le, ne_eq, Decidable.not_not] at hp6
                refine skip ?_
                refine inB_n ?_
                refine then_n ?_
                refine region ?_
                first | (refine so h hO (yl_add64 h rfl rfl (by omega)) rfl ?_) | (refine so h hO (yl_add h rfl rfl) rfl ?_)
                clear h a; intro a h
                refine so h hO (yl_move h rfl) rfl ?_; clear h a; intro a h
                refine endL ?_
                refine then_n ?_
                have hk1 : k < xs.length := by omega
                try simp only [Int.toNat_natCast] at *
                refine ⟨k + 1, by omega, by omega, nI_succ hN (fun h0 hn => by first | assumption | (exfalso; omega)), h.weak (subB_cons rfl (subB_cons rfl (subB_cons rfl (subB_cons rfl (subB_cons rfl (subB_nil)))))), (by exact hO.sub (by repeat (first | with_reducible exact List.Sublist.refl _ | with_reducible refine List.Sublist.cons_cons _ ?_ | refine List.Sublist.cons _ ?_)))⟩
          · have hp4 := hb4
            try simp only [decide_eq_true_eq, decide_eq_false_iff_not, Bool.not_eq_true', Bool.not_eq_false', Int.not_lt, Int.not_le, ne_eq, Decidable.not_not] at hp4
            refine dn 7 h rfl (by kernel_rfl) (j := 6) rfl rfl hb4 rfl ?_; clear h a; intro a h
            refine dn 8 h rfl (by kernel_rfl) (j := 6) rfl rfl hb4 rfl ?_; clear h a; intro a h
            refine dn 9 h rfl (by kernel_rfl) (j := 6) rfl rfl hb4 rfl ?_; clear h a; intro a h
            refine dn 10 h rfl (by kernel_rfl) (j := 6) rfl rfl hb4 rfl ?_; clear h a; intro a h
            refine dn 11 h rfl (by kernel_rfl) (j := 6) rfl rfl hb4 rfl ?_; clear h a; intro a h
            refine dn 12 h rfl (by kernel_rfl) (j := 6) rfl rfl hb4 rfl ?_; clear h a; intro a h
            refine dn 13 h rfl (by kernel_rfl) (j := 6) rfl rfl hb4 rfl ?_; clear h a; intro a h
            refine dn 14 h rfl (by kernel_rfl) (j := 6) rfl rfl hb4 rfl ?_; clear h a; intro a h
            refine dn 15 h rfl (by kernel_rfl) (j := 6) rfl rfl hb4 rfl ?_; clear h a; intro a h
            refine dn 16 h rfl (by kernel_rfl) (j := 6) rfl rfl hb4 rfl ?_; clear h a; intro a h
            refine dn 17 h rfl (by kernel_rfl) (j := 6) rfl rfl hb4 rfl ?_; clear h a; intro a h
            refine dn 18 h rfl (by kernel_rfl) (j := 6) rfl rfl hb4 rfl ?_; clear h a; intro a h
            refine dn 19 h rfl (by kernel_rfl) (j := 6) rfl rfl hb4 rfl ?_; clear h a; intro a h
            refine dn 20 h rfl (by kernel_rfl) (j := 6) rfl rfl hb4 rfl ?_; clear h a; intro a h
            refine dn 21 h rfl (by kernel_rfl) (j := 6) rfl rfl hb4 rfl ?_; clear h a; intro a h
            refine dn 22 h rfl (by kernel_rfl) (j := 6) rfl rfl hb4 rfl ?_; clear h a; intro a h
            refine dp 23 h rfl (by kernel_rfl) (yl_pick_f h rfl hb4 rfl) rfl ?_; clear h a; intro a h
            refine dend (by kernel_rfl) (clIn (by exact (by first | exact hO | exact hO.sub (by repeat (first | with_reducible exact List.Sublist.refl _ | with_reducible refine List.Sublist.cons_cons _ ?_ | refine List.Sublist.cons _ ?_))))) ?_
            refine then_n ?_
            refine cond_f h rfl rfl ?_
            refine skip ?_
            refine inB_n ?_
            refine then_n ?_
            refine region ?_
            first | (refine so h hO (yl_add64 h rfl rfl (by omega)) rfl ?_) | (refine so h hO (yl_add h rfl rfl) rfl ?_)
            clear h a; intro a h
            refine so h hO (yl_move h rfl) rfl ?_; clear h a; intro a h
            refine endL ?_
            refine then_n ?_
            have hk1 : k < xs.length := by omega
            try simp only [Int.toNat_natCast] at *
            refine ⟨k + 1, by omega, by omega, nI_succ hN (fun h0 hn => by first | assumption | (exfalso; omega)), h.weak (subB_cons rfl (subB_cons rfl (subB_cons rfl (subB_cons rfl (subB_cons rfl (subB_nil)))))), (by exact hO.sub (by repeat (first | with_reducible exact List.Sublist.refl _ | with_reducible refine List.Sublist.cons_cons _ ?_ | refine List.Sublist.cons _ ?_)))⟩
        · have hp3 := hb3
          try simp only [decide_eq_true_eq, decide_eq_false_iff_not, Bool.not_eq_true', Bool.not_eq_false', Int.not_lt, Int.not_le, ne_eq, Decidable.not_not] at hp3
          refine dn 3 h rfl (by kernel_rfl) (j := 2) rfl rfl hb3 rfl ?_; clear h a; intro a h
          refine dn 4 h rfl (by kernel_rfl) (j := 2) rfl rfl hb3 rfl ?_; clear h a; intro a h
          refine dp 5 h rfl (by kernel_rfl) (yl_pick_f h rfl hb3 rfl) rfl ?_; clear h a; intro a h
          refine dp 6 h rfl (by kernel_rfl) (yl_move h rfl) rfl ?_; clear h a; intro a h
          refine dn 7 h rfl (by kernel_rfl) (j := 6) rfl rfl rfl rfl ?_; clear h a; intro a h
          refine dn 8 h rfl (by kernel_rfl) (j := 6) rfl rfl rfl rfl ?_; clear h a; intro a h
          refine dn 9 h rfl (by kernel_rfl) (j := 6) rfl rfl rfl rfl ?_; clear h a; intro a h
          refine dn 10 h rfl (by kernel_rfl) (j := 6) rfl rfl rfl rfl ?_; clear h a; intro a h
          refine dn 11 h rfl (by kernel_rfl) (j := 6) rfl rfl rfl rfl ?_; clear h a; intro a h
          refine dn 12 h rfl (by kernel_rfl) (j := 6) rfl rfl rfl rfl ?_; clear h a; intro a h
          refine dn 13 h rfl (by kernel_rfl) (j := 6) rfl rfl rfl rfl ?_; clear h a; intro a h
          refine dn 14 h rfl (by kernel_rfl) (j := 6) rfl rfl rfl rfl ?_; clear h a; intro a h
          refine dn 15 h rfl (by kernel_rfl) (j := 6) rfl rfl rfl rfl ?_; clear h a; intro a h
          refine dn 16 h rfl (by kernel_rfl) (j := 6) rfl rfl rfl rfl ?_; clear h a; intro a h
          refine dn 17 h rfl (by kernel_rfl) (j := 6) rfl rfl rfl rfl ?_; clear h a; intro a h
          refine dn 18 h rfl (by kernel_rfl) (j := 6) rfl rfl rfl rfl ?_; clear h a; intro a h
          refine dn 19 h rfl (by kernel_rfl) (j := 6) rfl rfl rfl rfl ?_; clear h a; intro a h
          refine dn 20 h rfl (by kernel_rfl) (j := 6) rfl rfl rfl rfl ?_; clear h a; intro a h
          refine dn 21 h rfl (by kernel_rfl) (j := 6) rfl rfl rfl rfl ?_; clear h a; intro a h
          refine dn 22 h rfl (by kernel_rfl) (j := 6) rfl rfl rfl rfl ?_; clear h a; intro a h
          refine dp 23 h rfl (by kernel_rfl) (yl_pick_f h rfl rfl rfl) rfl ?_; clear h a; intro a h
          refine dend (by kernel_rfl) (clIn (by exact (by first | exact hO | exact hO.sub (by repeat (first | with_reducible exact List.Sublist.refl _ | with_reducible refine List.Sublist.cons_cons _ ?_ | refine List.Sublist.cons _ ?_))))) ?_
          refine then_n ?_
          refine cond_f h rfl rfl ?_
          refine skip ?_
          refine inB_n ?_
          refine then_n ?_
          refine region ?_
          first | (refine so h hO (yl_add64 h rfl rfl (by omega)) rfl ?_) | (refine so h hO (yl_add h rfl rfl) rfl ?_)
          clear h a; intro a h
          refine so h hO (yl_move h rfl) rfl ?_; clear h a; intro a h
          refine endL ?_
          refine then_n ?_
          have hk1 : k < xs.length := by omega
          try simp only [Int.toNat_natCast] at *
          refine ⟨k + 1, by omega, by omega, nI_succ hN (fun h0 hn => by first | assumption | (exfalso; omega)), h.weak (subB_cons rfl (subB_cons rfl (subB_cons rfl (subB_cons rfl (subB_cons rfl (subB_nil)))))), (by exact hO.sub (by repeat (first | with_reducible exact List.Sublist.refl _ | with_reducible refine List.Sublist.cons_cons _ ?_ | refine List.Sublist.cons _ ?_)))⟩
      · have hp2 := hb2
        try simp only [decide_eq_true_eq, decide_eq_false_iff_not, Bool.not_eq_true', Bool.not_eq_false', Int.not_lt, Int.not_le, ne_eq, Decidable.not_not] at hp2
        refine exit_ ?_
        refine then_x ?_
        refine then_x ?_
        refine inB_same ?_
        refine then_n ?_
        refine seq ?_
        refine region ?_
        refine so h hO (yl_move h rfl) rfl ?_; clear h a; intro a h
        refine callR h rfl rfl p39 (isTidy_spec _ hO (by assumption) (by first | assumption | exact Val.sub (by assumption) (by repeat (first | with_reducible exact List.Sublist.refl _ | with_reducible refine List.Sublist.cons_cons _ ?_ | refine List.Sublist.cons _ ?_)) | with_reducible exact Val.ext _ _ | exact Val.ent (by first | with_reducible exact mem0 | with_reducible exact memS (mem0) | with_reducible exact memS (memS (mem0)) | with_reducible exact memS (memS (memS (mem0))) | with_reducible exact memS (memS (memS (memS (mem0)))) | with_reducible exact memS (memS (memS (memS (memS (mem0))))) | with_reducible exact memS (memS (memS (memS (memS (memS (mem0)))))) | with_reducible exact memS (memS (memS (memS (memS (memS (memS (mem0))))))) | with_reducible exact memS (memS (memS (memS (memS (memS (memS (memS (mem0)))))))) | with_reducible exact memS (memS (memS (memS (memS (memS (memS (memS (memS (mem0))))))))) | with_reducible exact memS (memS (memS (memS (memS (memS (memS (memS (memS (memS (mem0)))))))))) | with_reducible exact memS (memS (memS (memS (memS (memS (memS (memS (memS (memS (memS (mem0))))))))))) | with_reducible exact memS (memS (memS (memS (memS (memS (memS (memS (memS (memS (memS (memS (mem0)))))))))))) | with_reducible exact memS (memS (memS (memS (memS (memS (memS (memS (memS (memS (memS (memS (memS (mem0))))))))))))))) (by assumption) (by omega)) rfl ?_; clear h a hO w
        rintro _ w ⟨rfl, hO⟩ a h
        refine so h hO (yl_assign h rfl) rfl ?_; clear h a; intro a h
        refine so h hO (yl_assign h rfl) rfl ?_; clear h a; intro a h
        refine endL ?_
        refine then_n ?_
        refine retc ?_
        refine ret2 h hO Try.results12 (.tmp rfl (.tmp rfl .nil)) ?_
        refine Ret.mk ?_
        have hk1 : k = xs.length := by omega
        subst hk1
        rw [hok]
        exact ⟨⟨_, rfl, ⟨fun h => ⟨rfl, hN, h⟩, fun h => h.2.2⟩⟩, (by exact hO.sub (by repeat (first | with_reducible exact List.Sublist.refl _ | with_reducible refine List.Sublist.cons_cons _ ?_ | refine List.Sublist.cons _ ?_)))⟩
set_option maxHeartbeats 4000000 in
theorem IsNested_s (xs : List Int) {v : Value} {H : Nat → Obj → Prop} {w0 w : World} {L : List Ent} (hO : OwnE w0 w L) (hv : Rd I 1 H xs v) (hH : Val w0 L H) : Calls Try.prog 13 ⟨[v]⟩ w (Ret (fun v w => (∃ b : Bool, v = .tuple ⟨[.bool b, .bool (ok xs)]⟩ ∧ (b = true ↔ ok xs = true ∧ nS xs xs.length ∧ tidy xs = true)) ∧ OwnE w0 w L)) := by
  refine enter Try.func13 rfl Try.ntmps13 rfl ?_
  intro a h
  have hv0 := hv
  obtain ⟨A, c, rfl, hc, hr⟩ := hv
  refine seq ?_
  refine region ?_
  refine so h hO (yl_assign h rfl) rfl ?_; clear h a; intro a h
  refine so h hO (yl_assign h rfl) rfl ?_; clear h a; intro a h
  refine endL ?_
  refine then_n ?_
  refine seq ?_
  refine seq ?_
  refine region ?_
  refine so h hO (yl_move h rfl) rfl ?_; clear h a; intro a h
  refine callR h rfl rfl p38 (l7Good_spec _ hO (by assumption) (by first | assumption | exact Val.sub (by assumption) (by repeat (first | with_reducible exact List.Sublist.refl _ | with_reducible refine List.Sublist.cons_cons _ ?_ | refine List.Sublist.cons _ ?_)) | with_reducible exact Val.ext _ _ | exact Val.ent (by first | with_reducible exact mem0 | with_reducible exact memS (mem0) | with_reducible exact memS (memS (mem0)) | with_reducible exact memS (memS (memS (mem0))) | with_reducible exact memS (memS (memS (memS (mem0)))) | with_reducible exact memS (memS (memS (memS (memS (mem0))))) | with_reducible exact memS (memS (memS (memS (memS (memS (mem0)))))) | with_reducible exact memS (memS (memS (memS (memS (memS (memS (mem0))))))) | with_reducible exact memS (memS (memS (memS (memS (memS (memS (memS (mem0)))))))) | with_reducible exact memS (memS (memS (memS (memS (memS (memS (memS (memS (mem0))))))))) | with_reducible exact memS (memS (memS (memS (memS (memS (memS (memS (memS (memS (mem0)))))))))) | with_reducible exact memS (memS (memS (memS (memS (memS (memS (memS (memS (memS (memS (mem0))))))))))) | with_reducible exact memS (memS (memS (memS (memS (memS (memS (memS (memS (memS (memS (memS (mem0)))))))))))) | with_reducible exact memS (memS (memS (memS (memS (memS (memS (memS (memS (memS (memS (memS (memS (mem0)))))))))))))))) rfl ?_; clear h a hO w
  rintro _ w ⟨rfl, hO⟩ a h
  refine so h hO (yl_not h rfl) rfl ?_; clear h a; intro a h
  refine endL ?_
  refine then_n ?_
  refine cond_s h rfl (fun hb1 => ?_) (fun hb1 => ?_)
  · have hp1 := hb1
    try simp only [decide_eq_true_eq, decide_eq_false_iff_not, Bool.not_eq_true', Bool.not_eq_false', Int.not_lt, Int.not_le, ne_eq, Decidable.not_not] at hp1
    refine seq ?_
    refine region ?_
    refine so h hO (yl_assign h rfl) rfl ?_; clear h a; intro a h
    refine so h hO (yl_assign h rfl) rfl ?_; clear h a; intro a h
    refine endL ?_
    refine then_n ?_
    refine retc ?_
    refine then_r (ret2 h hO Try.results13 (.tmp rfl (.tmp rfl .nil)) ?_)
    refine Ret.mk ?_
    have hok : ok xs = false := by simpa using hb1
    rw [hok]
    exact ⟨⟨_, rfl, by simp⟩, hO⟩
  · have hp1 := hb1
    try simp only [decide_eq_true_eq, decide_eq_false_iff_not, Bool.not_eq_true', Bool.not_eq_false', Int.not_lt, Int.not_le, ne_eq, Decidable.not_not] at hp1
    refine skip ?_
    refine then_n ?_
    refine seq ?_
    refine seq ?_
    refine region ?_
    have hok : ok xs = true := by simpa using hb1
    have hsm := (ok_spec hok).2
    have hb := (ok_spec hok).1
    refine so h hO (yl_assign h rfl) rfl ?_; clear h a; intro a h
    refine endL ?_
    refine then_n ?_
    refine block ?_
    refine loop (fun (k : Nat) a w =>  k ≤ xs.length ∧ (nS xs k) ∧ St 49 [] [(0, .slice A xs.length c), (4, .int .i64 k)] a ∧ OwnE w0 w L) (fun k => xs.length - k) 0 ?_ ?_
    · exact ⟨Nat.zero_le _, (fun i h _ => by omega), h.weak (subB_cons rfl (subB_cons rfl (subB_nil))), hO⟩
    · clear h a hO w
      rintro k a w ⟨hk, hN, h, hO⟩
      refine seq ?_
      refine seq ?_
      refine region ?_
      refine so h hO (yl_move h rfl) rfl ?_; clear h a; intro a h
      refine so h hO (yl_move h rfl) rfl ?_; clear h a; intro a h
      refine so h hO (yl_len h rfl p0) rfl ?_; clear h a; intro a h
      refine so h hO (yl_lt h rfl rfl) rfl ?_; clear h a; intro a h
      refine endL ?_
      refine then_n ?_
      refine cond_s h rfl (fun hb2 => ?_) (fun hb2 => ?_)
      · have hp2 := hb2
        try simp only [decide_eq_true_eq, decide_eq_false_iff_not, Bool.not_eq_true', Bool.not_eq_false', Int.not_lt, Int.not_le, ne_eq, Decidable.not_not] at hp2
        refine skip ?_
        refine then_n ?_
        refine seq ?_
        refine block ?_
        refine seq ?_
        refine region ?_
        refine so h hO (yl_move h rfl) rfl ?_; clear h a; intro a h
        refine so h hO (yl_move h rfl) rfl ?_; clear h a; intro a h
        refine so h hO (yl_sliceHi h rfl rfl p0 (by omega)) rfl ?_; clear h a; intro a h
        refine callR h rfl rfl p36 (l7Read_spec (xs.take k) hO (Rd.cutHi hv0 k (by omega)) (by first | assumption | exact Val.sub (by assumption) (by repeat (first | with_reducible exact List.Sublist.refl _ | with_reducible refine List.Sublist.cons_cons _ ?_ | refine List.Sublist.cons _ ?_)) | with_reducible exact Val.ext _ _ | exact Val.ent (by first | with_reducible exact mem0 | with_reducible exact memS (mem0) | with_reducible exact memS (memS (mem0)) | with_reducible exact memS (memS (memS (mem0))) | with_reducible exact memS (memS (memS (memS (mem0)))) | with_reducible exact memS (memS (memS (memS (memS (mem0))))) | with_reducible exact memS (memS (memS (memS (memS (memS (mem0)))))) | with_reducible exact memS (memS (memS (memS (memS (memS (memS (mem0))))))) | with_reducible exact memS (memS (memS (memS (memS (memS (memS (memS (mem0)))))))) | with_reducible exact memS (memS (memS (memS (memS (memS (memS (memS (memS (mem0))))))))) | with_reducible exact memS (memS (memS (memS (memS (memS (memS (memS (memS (memS (mem0)))))))))) | with_reducible exact memS (memS (memS (memS (memS (memS (memS (memS (memS (memS (memS (mem0))))))))))) | with_reducible exact memS (memS (memS (memS (memS (memS (memS (memS (memS (memS (memS (memS (mem0)))))))))))) | with_reducible exact memS (memS (memS (memS (memS (memS (memS (memS (memS (memS (memS (memS (memS (mem0))))))))))))))) (fun x hx => hsm x (List.mem_of_mem_take hx)) (by rw [List.length_take]; omega)) rfl ?_; clear h a hO w
        rintro _ w ⟨v1, v2, e1, e2, rfl, hM1, hM2, hO⟩ a h
        obtain ⟨A1, c1, rfl, hc1⟩ := hM1.form
        obtain ⟨A2, c2, rfl, hc2⟩ := hM2.form
        have hrd1 := hM1.rd
        have hrd2 := hM2.rd
        have hr1 := hM1.rr
        have hr2 := hM2.rr
        refine so h hO (yl_move h rfl) rfl ?_; clear h a; intro a h
        refine so h hO (yl_extract h rfl rfl) rfl ?_; clear h a; intro a h
        refine so h hO (yl_extract h rfl rfl) rfl ?_; clear h a; intro a h
        refine so h hO (yl_assign h rfl) rfl ?_; clear h a; intro a h
        refine so h hO (yl_assign h rfl) rfl ?_; clear h a; intro a h
        refine endL ?_
        refine then_n ?_
        refine seq ?_
        refine regionQ (C := fun w => OwnE w0 w _) (by kernel_rfl) (by kernel_rfl) hO.drew ?_
        clear hO w
        have hx := hsm _ (getD_mem (xs := xs) (k := k) (by omega))
        rw [show k = ((k : Int)).toNat by simp] at hx
        refine stepQ h (yl_move h rfl) rfl ?_; clear h a; intro a h
        refine stepQ h (yl_move h rfl) rfl ?_; clear h a; intro a h
        refine stepQ h (yl_ix h rfl rfl p0 (by assumption) (by simp) (by omega)) rfl ?_; clear h a; intro a h
        refine stepQ h (yl_ld1 h rfl p1 (by assumption) (by first | assumption | exact Val.sub (by assumption) (by repeat (first | with_reducible exact List.Sublist.refl _ | with_reducible refine List.Sublist.cons_cons _ ?_ | refine List.Sublist.cons _ ?_)) | with_reducible exact Val.ext _ _ | exact Val.ent (by first | with_reducible exact mem0 | with_reducible exact memS (mem0) | with_reducible exact memS (memS (mem0)) | with_reducible exact memS (memS (memS (mem0))) | with_reducible exact memS (memS (memS (memS (mem0)))) | with_reducible exact memS (memS (memS (memS (memS (mem0))))) | with_reducible exact memS (memS (memS (memS (memS (memS (mem0)))))) | with_reducible exact memS (memS (memS (memS (memS (memS (memS (mem0))))))) | with_reducible exact memS (memS (memS (memS (memS (memS (memS (memS (mem0)))))))) | with_reducible exact memS (memS (memS (memS (memS (memS (memS (memS (memS (mem0))))))))) | with_reducible exact memS (memS (memS (memS (memS (memS (memS (memS (memS (memS (mem0)))))))))) | with_reducible exact memS (memS (memS (memS (memS (memS (memS (memS (memS (memS (memS (mem0))))))))))) | with_reducible exact memS (memS (memS (memS (memS (memS (memS (memS (memS (memS (memS (memS (mem0)))))))))))) | with_reducible exact memS (memS (memS (memS (memS (memS (memS (memS (memS (memS (memS (memS (memS (mem0))))))))))))))) (by omega) (fun _ => rfl)) rfl ?_; clear h a; intro a h
        refine stepQ h (yl_lt h rfl rfl) rfl ?_; clear h a; intro a h
        refine stepQ h (yl_move h rfl) rfl ?_; clear h a; intro a h
        refine split h 28 rfl (fun hb3 => ?_) (fun hb3 => ?_)
        · have hp3 := hb3
          try simp only [decide_eq_true_eq, decide_eq_false_iff_not, Bool.not_eq_true', Bool.not_eq_false', Int.not_lt, Int.not_le, ne_eq, Decidable.not_not] at hp3
          refine stepQg h (j := 5) rfl rfl hb3 (yl_move h rfl) rfl ?_; clear h a; intro a h
          refine stepQg h (j := 5) rfl rfl hb3 (yl_len h rfl p0) rfl ?_; clear h a; intro a h
          refine stepQg h (j := 5) rfl rfl hb3 (yl_eq h rfl rfl) rfl ?_; clear h a; intro a h
          refine stepQg h (j := 5) rfl rfl hb3 (yl_move h rfl) rfl ?_; clear h a; intro a h
          refine split h 32 rfl (fun hb4 => ?_) (fun hb4 => ?_)
          · have hp4 := hb4
            try simp only [decide_eq_true_eq, decide_eq_false_iff_not, Bool.not_eq_true', Bool.not_eq_false', Int.not_lt, Int.not_le, ne_eq, Decidable.not_not] at hp4
            refine stepQn h (j := 9) rfl rfl hb4 rfl ?_; clear h a; intro a h
            refine stepQn h (j := 9) rfl rfl hb4 rfl ?_; clear h a; intro a h
            refine stepQn h (j := 9) rfl rfl hb4 rfl ?_; clear h a; intro a h
            refine stepQn h (j := 9) rfl rfl hb4 rfl ?_; clear h a; intro a h
            refine stepQn h (j := 9) rfl rfl hb4 rfl ?_; clear h a; intro a h
            refine stepQn h (j := 9) rfl rfl hb4 rfl ?_; clear h a; intro a h
            refine stepQn h (j := 9) rfl rfl hb4 rfl ?_; clear h a; intro a h
            refine stepQn h (j := 9) rfl rfl hb4 rfl ?_; clear h a; intro a h
            refine stepQn h (j := 9) rfl rfl hb4 rfl ?_; clear h a; intro a h
            refine stepQn h (j := 9) rfl rfl hb4 rfl ?_; clear h a; intro a h
            refine stepQn h (j := 9) rfl rfl hb4 rfl ?_; clear h a; intro a h
            refine stepQn h (j := 9) rfl rfl hb4 rfl ?_; clear h a; intro a h
            refine stepQg h (j := 5) rfl rfl hb3 (yl_pick_t h rfl hb4 rfl) rfl ?_; clear h a; intro a h
            refine stepQ h (yl_pick_t h rfl hb3 rfl) rfl ?_; clear h a; intro a h
            refine endQ ?_; intro w hO
            refine then_n ?_
            refine cond_t h rfl rfl ?_
            refine seq ?_
            refine region ?_
            refine so h hO (yl_assign h rfl) rfl ?_; clear h a; intro a h
            refine so h hO (yl_assign h rfl) rfl ?_; clear h a; intro a h
            refine endL ?_
            refine then_n ?_
            refine retc ?_
            refine inB_r (then_r (then_r (inB_r (then_r (ret2 h hO Try.results13 (.tmp rfl (.tmp rfl .nil)) ?_)))))
            refine Ret.mk ?_
            have hk1 : k < xs.length := by omega
            try simp only [Int.toNat_natCast] at *
            rw [hok]
            exact ⟨⟨false, rfl, ⟨(fun h => by cases h), fun hh => absurd (hh.2.1 k (by omega) (by assumption)) (last_not (by first | (left; omega) | exact .inr (by rw [show (((opens (xs.take k)).length : Int) - 1).toNat = (opens (xs.take k)).length - 1 by omega] at hp5; exact hp5)))⟩⟩, (by exact hO.sub (by repeat (first | with_reducible exact List.Sublist.refl _ | with_reducible refine List.Sublist.cons_cons _ ?_ | refine List.Sublist.cons _ ?_)))⟩
          · have hp4 := hb4
            try simp only [decide_eq_true_eq, decide_eq_false_iff_not, Bool.not_eq_true', Bool.not_eq_false', Int.not_lt, Int.not_le, ne_eq, Decidable.not_not] at hp4
            refine stepQg h (j := 9) rfl rfl hb4 (yl_move h rfl) rfl ?_; clear h a; intro a h
            refine stepQg h (j := 9) rfl rfl hb4 (yl_move h rfl) rfl ?_; clear h a; intro a h
            refine stepQg h (j := 9) rfl rfl hb4 (yl_len h rfl p0) rfl ?_; clear h a; intro a h
            first | (refine stepQg h (j := 9) rfl rfl hb4 (yl_sub64 h rfl rfl (by omega)) rfl ?_) | (refine stepQg h (j := 9) rfl rfl hb4 (yl_sub h rfl rfl) rfl ?_)
            clear h a; intro a h
            refine stepQg h (j := 9) rfl rfl hb4 (yl_ix h rfl rfl p0 (by assumption) (by simp) (by omega)) rfl ?_; clear h a; intro a h
            refine stepQg h (j := 9) rfl rfl hb4 (yl_ld1 h rfl p1 (by assumption) (by first | assumption | exact Val.sub (by assumption) (by repeat (first | with_reducible exact List.Sublist.refl _ | with_reducible refine List.Sublist.cons_cons _ ?_ | refine List.Sublist.cons _ ?_)) | with_reducible exact Val.ext _ _ | exact Val.ent (by first | with_reducible exact mem0 | with_reducible exact memS (mem0) | with_reducible exact memS (memS (mem0)) | with_reducible exact memS (memS (memS (mem0))) | with_reducible exact memS (memS (memS (memS (mem0)))) | with_reducible exact memS (memS (memS (memS (memS (mem0))))) | with_reducible exact memS (memS (memS (memS (memS (memS (mem0)))))) | with_reducible exact memS (memS (memS (memS (memS (memS (memS (mem0))))))) | with_reducible exact memS (memS (memS (memS (memS (memS (memS (memS (mem0)))))))) | with_reducible exact memS (memS (memS (memS (memS (memS (memS (memS (memS (mem0))))))))) | with_reducible exact memS (memS (memS (memS (memS (memS (memS (memS (memS (memS (mem0)))))))))) | with_reducible exact memS (memS (memS (memS (memS (memS (memS (memS (memS (memS (memS (mem0))))))))))) | with_reducible exact memS (memS (memS (memS (memS (memS (memS (memS (memS (memS (memS (memS (mem0)))))))))))) | with_reducible exact memS (memS (memS (memS (memS (memS (memS (memS (memS (memS (memS (memS (memS (mem0))))))))))))))) (by omega) (fun _ => rfl)) rfl ?_; clear h a; intro a h
            refine stepQg h (j := 9) rfl rfl hb4 (yl_move h rfl) rfl ?_; clear h a; intro a h
            refine stepQg h (j := 9) rfl rfl hb4 (yl_move h rfl) rfl ?_; clear h a; intro a h
            refine stepQg h (j := 9) rfl rfl hb4 (yl_ix h rfl rfl p0 (by assumption) (by simp) (by omega)) rfl ?_; clear h a; intro a h
            refine stepQg h (j := 9) rfl rfl hb4 (yl_ld1 h rfl p1 (by assumption) (by first | assumption | exact Val.sub (by assumption) (by repeat (first | with_reducible exact List.Sublist.refl _ | with_reducible refine List.Sublist.cons_cons _ ?_ | refine List.Sublist.cons _ ?_)) | with_reducible exact Val.ext _ _ | exact Val.ent (by first | with_reducible exact mem0 | with_reducible exact memS (mem0) | with_reducible exact memS (memS (mem0)) | with_reducible exact memS (memS (memS (mem0))) | with_reducible exact memS (memS (memS (memS (mem0)))) | with_reducible exact memS (memS (memS (memS (memS (mem0))))) | with_reducible exact memS (memS (memS (memS (memS (memS (mem0)))))) | with_reducible exact memS (memS (memS (memS (memS (memS (memS (mem0))))))) | with_reducible exact memS (memS (memS (memS (memS (memS (memS (memS (mem0)))))))) | with_reducible exact memS (memS (memS (memS (memS (memS (memS (memS (memS (mem0))))))))) | with_reducible exact memS (memS (memS (memS (memS (memS (memS (memS (memS (memS (mem0)))))))))) | with_reducible exact memS (memS (memS (memS (memS (memS (memS (memS (memS (memS (memS (mem0))))))))))) | with_reducible exact memS (memS (memS (memS (memS (memS (memS (memS (memS (memS (memS (memS (mem0)))))))))))) | with_reducible exact memS (memS (memS (memS (memS (memS (memS (memS (memS (memS (memS (memS (memS (mem0))))))))))))))) (by omega) (fun _ => rfl)) rfl ?_; clear h a; intro a h
            first | (refine stepQg h (j := 9) rfl rfl hb4 (yl_neg64 h rfl (by omega)) rfl ?_) | (refine stepQg h (j := 9) rfl rfl hb4 (yl_neg h rfl) rfl ?_)
            clear h a; intro a h
            refine stepQg h (j := 9) rfl rfl hb4 (yl_ne h rfl rfl) rfl ?_; clear h a; intro a h
            refine stepQg h (j := 5) rfl rfl hb3 (yl_pick_f h rfl hb4 rfl) rfl ?_; clear h a; intro a h
            refine stepQ h (yl_pick_t h rfl hb3 rfl) rfl ?_; clear h a; intro a h
            refine endQ ?_; intro w hO
            refine then_n ?_
            refine cond_s h rfl (fun hb5 => ?_) (fun hb5 => ?_)
            · have hp5 := hb5
              try simp only [decide_eq_true_eq, decide_eq_false_iff_not, Bool.not_eq_true', Bool.not_eq_false', Int.not_lt, Int.not_le, ne_eq, Decidable.not_not] at hp5
              refine seq ?_
              refine region ?_
              refine so h hO (yl_assign h rfl) rfl ?_; clear h a; intro a h
              refine so h hO (yl_assign h rfl) rfl ?_; clear h a; intro a h
              refine endL ?_
              refine then_n ?_
              refine retc ?_
              refine inB_r (then_r (then_r (inB_r (then_r (ret2 h hO Try.results13 (.tmp rfl (.tmp rfl .nil)) ?_)))))
              refine Ret.mk ?_
              have hk1 : k < xs.length := by omega
              try simp only [Int.toNat_natCast] at *
              rw [hok]
              exact ⟨⟨false, rfl, ⟨(fun h => by cases h), fun hh => absurd (hh.2.1 k (by omega) (by assumption)) (last_not (by first | (left; omega) | exact .inr (by rw [show (((opens (xs.take k)).length : Int) - 1).toNat = (opens (xs.take k)).length - 1 by omega] at hp5; exact hp5)))⟩⟩, (by exact hO.sub (by repeat (first | with_reducible exact List.Sublist.refl _ | with_reducible refine List.Sublist.cons_cons _ ?_ | refine List.Sublist.cons _ ?_)))⟩
            · have hp5 := hb5
              try simp only [decide_eq_true_eq, decide_eq_false_iff_not, Bool.not_eq_true', Bool.not_eq_false', Int.not_lt, Int.not_le, ne_eq, Decidable.not_not] at hp5
              refine skip ?_
              refine inB_n ?_
              refine then_n ?_
              refine region ?_
              refine so h hO (yl_move h rfl) rfl ?_; clear h a; intro a h
              first | (refine so h hO (yl_add64 h rfl rfl (by omega)) rfl ?_) | (refine so h hO (yl_add h rfl rfl) rfl ?_)
              clear h a; intro a h
              refine so h hO (yl_assign h rfl) rfl ?_; clear h a; intro a h
              refine endL ?_
              refine then_n ?_
              have hk1 : k < xs.length := by omega
              try simp only [Int.toNat_natCast] at *
              refine ⟨k + 1, by omega, by omega, nS_succ hN (fun hn => by first | (exfalso; omega) | exact last_is (by omega) (by rw [show (((opens (xs.take k)).length : Int) - 1).toNat = (opens (xs.take k)).length - 1 by omega] at hp5; exact hp5)), h.weak (subB_cons rfl (subB_cons rfl (subB_nil))), (by exact hO.sub (by repeat (first | with_reducible exact List.Sublist.refl _ | with_reducible refine List.Sublist.cons_cons _ ?_ | refine List.Sublist.cons _ ?_)))⟩
        · have hp3 := hb3
          try simp only [decide_eq_true_eq, decide_eq_false_iff_not, Bool.not_eq_true', Bool.not_eq_false', Int.not_lt, Int.not_le, ne_eq, Decidable.not_not] at hp3
          refine stepQn h (j := 5) rfl rfl hb3 rfl ?_; clear h a; intro a h
          refine stepQn h (j := 5) rfl rfl hb3 rfl ?_; clear h a; intro a h
          refine stepQn h (j := 5) rfl rfl hb3 rfl ?_; clear h a; intro a h
          refine stepQn h (j := 5) rfl rfl hb3 rfl ?_; clear h a; intro a h
          refine stepQu h (j := 9) rfl rfl rfl ?_; clear h a; intro a h
          refine stepQu h (j := 9) rfl rfl rfl ?_; clear h a; intro a h
          refine stepQu h (j := 9) rfl rfl rfl ?_; clear h a; intro a h
          refine stepQu h (j := 9) rfl rfl rfl ?_; clear h a; intro a h
          refine stepQu h (j := 9) rfl rfl rfl ?_; clear h a; intro a h
          refine stepQu h (j := 9) rfl rfl rfl ?_; clear h a; intro a h
          refine stepQu h (j := 9) rfl rfl rfl ?_; clear h a; intro a h
          refine stepQu h (j := 9) rfl rfl rfl ?_; clear h a; intro a h
          refine stepQu h (j := 9) rfl rfl rfl ?_; clear h a; intro a h
          refine stepQu h (j := 9) rfl rfl rfl ?_; clear h a; intro a h
          refine stepQu h (j := 9) rfl rfl rfl ?_; clear h a; intro a h
          refine stepQu h (j := 9) rfl rfl rfl ?_; clear h a; intro a h
          refine stepQn h (j := 5) rfl rfl hb3 rfl ?_; clear h a; intro a h
          refine stepQ h (yl_pick_f h rfl hb3 rfl) rfl ?_; clear h a; intro a h
          refine endQ ?_; intro w hO
          refine then_n ?_
          refine cond_f h rfl rfl ?_
          refine skip ?_
          refine inB_n ?_
          refine then_n ?_
          refine region ?_
          refine so h hO (yl_move h rfl) rfl ?_; clear h a; intro a h
          first | (refine so h hO (yl_add64 h rfl rfl (by omega)) rfl ?_) | (refine so h hO (yl_add h rfl rfl) rfl ?_)
          clear h a; intro a h
          refine so h hO (yl_assign h rfl) rfl ?_; clear h a; intro a h
          refine endL ?_
          refine then_n ?_
          have hk1 : k < xs.length := by omega
          try simp only [Int.toNat_natCast] at *
          refine ⟨k + 1, by omega, by omega, nS_succ hN (fun hn => by first | (exfalso; omega) | exact last_is (by omega) (by rw [show (((opens (xs.take k)).length : Int) - 1).toNat = (opens (xs.take k)).length - 1 by omega] at hp5; exact hp5)), h.weak (subB_cons rfl (subB_cons rfl (subB_nil))), (by exact hO.sub (by repeat (first | with_reducible exact List.Sublist.refl _ | with_reducible refine List.Sublist.cons_cons _ ?_ | refine List.Sublist.cons _ ?_)))⟩
      · have hp2 := hb2
        try simp only [decide_eq_true_eq, decide_eq_false_iff_not, Bool.not_eq_true', Bool.not_eq_false', Int.not_lt, Int.not_le, ne_eq, Decidable.not_not] at hp2
        refine exit_ ?_
        refine then_x ?_
        refine then_x ?_
        refine inB_same ?_
        refine then_n ?_
        refine seq ?_
        refine region ?_
        refine so h hO (yl_move h rfl) rfl ?_; clear h a; intro a h
        refine callR h rfl rfl p40 (l7Tidy_spec _ hO (by assumption) (by first | assumption | exact Val.sub (by assumption) (by repeat (first | with_reducible exact List.Sublist.refl _ | with_reducible refine List.Sublist.cons_cons _ ?_ | refine List.Sublist.cons _ ?_)) | with_reducible exact Val.ext _ _ | exact Val.ent (by first | with_reducible exact mem0 | with_reducible exact memS (mem0) | with_reducible exact memS (memS (mem0)) | with_reducible exact memS (memS (memS (mem0))) | with_reducible exact memS (memS (memS (memS (mem0)))) | with_reducible exact memS (memS (memS (memS (memS (mem0))))) | with_reducible exact memS (memS (memS (memS (memS (memS (mem0)))))) | with_reducible exact memS (memS (memS (memS (memS (memS (memS (mem0))))))) | with_reducible exact memS (memS (memS (memS (memS (memS (memS (memS (mem0)))))))) | with_reducible exact memS (memS (memS (memS (memS (memS (memS (memS (memS (mem0))))))))) | with_reducible exact memS (memS (memS (memS (memS (memS (memS (memS (memS (memS (mem0)))))))))) | with_reducible exact memS (memS (memS (memS (memS (memS (memS (memS (memS (memS (memS (mem0))))))))))) | with_reducible exact memS (memS (memS (memS (memS (memS (memS (memS (memS (memS (memS (memS (mem0)))))))))))) | with_reducible exact memS (memS (memS (memS (memS (memS (memS (memS (memS (memS (memS (memS (memS (mem0))))))))))))))) (by assumption) (by omega)) rfl ?_; clear h a hO w
        rintro _ w ⟨rfl, hO⟩ a h
        refine so h hO (yl_assign h rfl) rfl ?_; clear h a; intro a h
        refine so h hO (yl_assign h rfl) rfl ?_; clear h a; intro a h
        refine endL ?_
        refine then_n ?_
        refine retc ?_
        refine ret2 h hO Try.results13 (.tmp rfl (.tmp rfl .nil)) ?_
        refine Ret.mk ?_
        have hk1 : k = xs.length := by omega
        subst hk1
        rw [hok]
        exact ⟨⟨_, rfl, ⟨fun h => ⟨rfl, hN, h⟩, fun h => h.2.2⟩⟩, (by exact hO.sub (by repeat (first | with_reducible exact List.Sublist.refl _ | with_reducible refine List.Sublist.cons_cons _ ?_ | refine List.Sublist.cons _ ?_)))⟩
end Go.Proofs.Ytebfglbnemahiaa
