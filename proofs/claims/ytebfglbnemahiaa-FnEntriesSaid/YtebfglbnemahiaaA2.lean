import Derived.Test.YtebfglbnemahiaaProg
import Derived.Test.YtebfglbnemahiaaA1
namespace Go.Proofs.Ytebfglbnemahiaa
open Go.RowKit Go.E Go.Ents
set_option linter.unusedVariables false
set_option linter.unusedSimpArgs false
theorem p29 : ((Try.prog.funcs[44]?).any fun fn => fn.body.isSome && fn.name != "runtime.NumGoroutine") = true := by kernel_rfl
theorem p30 : ((Try.prog.funcs[43]?).any fun fn => fn.body.isSome && fn.name != "runtime.NumGoroutine") = true := by kernel_rfl
theorem p31 : ((Try.prog.funcs[42]?).any fun fn => fn.body.isSome && fn.name != "runtime.NumGoroutine") = true := by kernel_rfl
theorem p32 : ((Try.prog.funcs[45]?).any fun fn => fn.body.isSome && fn.name != "runtime.NumGoroutine") = true := by kernel_rfl
theorem p33 : ((Try.prog.funcs[27]?).any fun fn => fn.body.isSome && fn.name != "runtime.NumGoroutine") = true := by kernel_rfl
theorem p34 : scalarB Try.prog 24 = true := by kernel_rfl
theorem p35 : ((Try.prog.funcs[24]?).any fun fn => fn.body.isSome && fn.name != "runtime.NumGoroutine") = true := by kernel_rfl
theorem p36 : ((Try.prog.funcs[26]?).any fun fn => fn.body.isSome && fn.name != "runtime.NumGoroutine") = true := by kernel_rfl
theorem p37 : ((Try.prog.funcs[23]?).any fun fn => fn.body.isSome && fn.name != "runtime.NumGoroutine") = true := by kernel_rfl
theorem p38 : ((Try.prog.funcs[25]?).any fun fn => fn.body.isSome && fn.name != "runtime.NumGoroutine") = true := by kernel_rfl
theorem p39 : ((Try.prog.funcs[28]?).any fun fn => fn.body.isSome && fn.name != "runtime.NumGoroutine") = true := by kernel_rfl
theorem p40 : ((Try.prog.funcs[29]?).any fun fn => fn.body.isSome && fn.name != "runtime.NumGoroutine") = true := by kernel_rfl
set_option maxHeartbeats 4000000 in
theorem areE1_spec (n : Int) {w0 w : World} {L : List Ent} (hO : OwnE w0 w L) : Calls Try.prog 43 ⟨[.int .i64 n]⟩ w (Ret (fun v w => v = .bool (!decide (-32767 ≤ n ∧ n ≤ 32767)) ∧ OwnE w0 w L)) := by
  refine enter Try.func43 rfl Try.ntmps43 rfl ?_
  intro a h
  refine seq ?_
  refine region ?_
  refine so h hO (yl_assign h rfl) rfl ?_; clear h a; intro a h
  refine endL ?_
  refine then_n ?_
  refine seq ?_
  refine region ?_
  refine so h hO (yl_move h rfl) rfl ?_; clear h a; intro a h
  refine callR h rfl rfl p29 (in_spec _ _ _ hO) rfl ?_; clear h a hO w
  rintro _ w ⟨rfl, hO⟩ a h
  refine so h hO (yl_not h rfl) rfl ?_; clear h a; intro a h
  refine so h hO (yl_assign h rfl) rfl ?_; clear h a; intro a h
  refine endL ?_
  refine then_n ?_
  refine retc ?_
  refine ret1 h hO Try.results43 (.tmp rfl .nil) ?_
  refine Ret.mk ?_
  exact ⟨rfl, hO⟩
set_option maxHeartbeats 4000000 in
theorem areEntries_spec (xs : List Int) {v : Value} {H : Nat → Obj → Prop} {w0 w : World} {L : List Ent} (hO : OwnE w0 w L) (hv : Rd I 1 H xs v) (hH : Val w0 L H) : Calls Try.prog 23 ⟨[v]⟩ w (Ret (fun v w => v = .bool (ok xs) ∧ OwnE w0 w L)) := by
  refine enter Try.func23 rfl Try.ntmps23 rfl ?_
  intro a h
  have hv0 := hv
  obtain ⟨A, c, rfl, hc, hr⟩ := hv
  refine seq ?_
  refine region ?_
  refine so h hO (yl_assign h rfl) rfl ?_; clear h a; intro a h
  refine endL ?_
  refine then_n ?_
  refine seq ?_
  refine region ?_
  refine so h hO (yl_move h rfl) rfl ?_; clear h a; intro a h
  refine so h hO (yl_len h rfl p0) rfl ?_; clear h a; intro a h
  refine so h hO (yl_le h rfl rfl) rfl ?_; clear h a; intro a h
  refine so h hO (yl_move h rfl) rfl ?_; clear h a; intro a h
  refine split h 6 rfl (fun hb1 => ?_) (fun hb1 => ?_)
  · have hp1 := hb1
    try simp only [decide_eq_true_eq, decide_eq_false_iff_not, Bool.not_eq_true', Bool.not_eq_false', Int.not_lt, Int.not_le, ne_eq, Decidable.not_not] at hp1
    refine sog h hO (j := 3) rfl rfl hb1 (yl_move h rfl) rfl ?_; clear h a; intro a h
    refine callRg h (j := 3) rfl rfl hb1 rfl rfl p31 (ContainsFunc_spec (fun n : Int => !decide (-32767 ≤ n ∧ n ≤ 32767)) (kf := 43) (caps := []) _ hO hv0 hH p30 (fun x _ w hO => areE1_spec x hO)) rfl ?_; clear h a hO w
    rintro _ w ⟨rfl, hO⟩ a h
    refine sog h hO (j := 3) rfl rfl hb1 (yl_not h rfl) rfl ?_; clear h a; intro a h
    refine so h hO (yl_pick_t h rfl hb1 rfl) rfl ?_; clear h a; intro a h
    refine so h hO (yl_assign h rfl) rfl ?_; clear h a; intro a h
    refine endL ?_
    refine then_n ?_
    refine retc ?_
    refine ret1 h hO Try.results23 (.tmp rfl .nil) ?_
    refine Ret.mk ?_
    exact ⟨congrArg Value.bool (ok_t hp1).symm, hO⟩
  · have hp1 := hb1
    try simp only [decide_eq_true_eq, decide_eq_false_iff_not, Bool.not_eq_true', Bool.not_eq_false', Int.not_lt, Int.not_le, ne_eq, Decidable.not_not] at hp1
    refine son h (j := 3) rfl rfl hb1 rfl ?_; clear h a; intro a h
    refine son h (j := 3) rfl rfl hb1 rfl ?_; clear h a; intro a h
    refine son h (j := 3) rfl rfl hb1 rfl ?_; clear h a; intro a h
    refine so h hO (yl_pick_f h rfl hb1 rfl) rfl ?_; clear h a; intro a h
    refine so h hO (yl_assign h rfl) rfl ?_; clear h a; intro a h
    refine endL ?_
    refine then_n ?_
    refine retc ?_
    refine ret1 h hO Try.results23 (.tmp rfl .nil) ?_
    refine Ret.mk ?_
    exact ⟨congrArg Value.bool (ok_f hp1).symm, hO⟩
set_option maxHeartbeats 4000000 in
theorem l7Good_spec (xs : List Int) {v : Value} {H : Nat → Obj → Prop} {w0 w : World} {L : List Ent} (hO : OwnE w0 w L) (hv : Rd I 1 H xs v) (hH : Val w0 L H) : Calls Try.prog 25 ⟨[v]⟩ w (Ret (fun v w => v = .bool (ok xs) ∧ OwnE w0 w L)) := by
  refine enter Try.func25 rfl Try.ntmps25 rfl ?_
  intro a h
  obtain ⟨A, c, rfl, hc, hr⟩ := hv
  refine seq ?_
  refine region ?_
  refine so h hO (yl_assign h rfl) rfl ?_; clear h a; intro a h
  refine endL ?_
  refine then_n ?_
  refine seq ?_
  refine seq ?_
  refine region ?_
  refine so h hO (yl_assign h rfl) rfl ?_; clear h a; intro a h
  refine endL ?_
  refine then_n ?_
  refine block ?_
  refine loop (fun (k : Nat) a w =>  k ≤ xs.length ∧ (∀ x ∈ xs.take k, -32767 ≤ x ∧ x ≤ 32767) ∧ St 19 [] [(0, .slice A xs.length c), (3, .int .i64 k)] a ∧ OwnE w0 w L) (fun k => xs.length - k) 0 ?_ ?_
  · exact ⟨Nat.zero_le _, by simp, h.weak (subB_cons rfl (subB_cons rfl (subB_nil))), hO⟩
  · clear h a hO w
    rintro k a w ⟨hk, hno, h, hO⟩
    refine seq ?_
    refine seq ?_
    refine region ?_
    refine so h hO (yl_move h rfl) rfl ?_; clear h a; intro a h
    refine so h hO (yl_move h rfl) rfl ?_; clear h a; intro a h
    refine so h hO (yl_len h rfl p0) rfl ?_; clear h a; intro a h
    refine so h hO (yl_lt h rfl rfl) rfl ?_; clear h a; intro a h
    refine endL ?_
    refine then_n ?_
    refine cond_s h rfl (fun hb1 => ?_) (fun hb1 => ?_)
    · have hp1 := hb1
      try simp only [decide_eq_true_eq, decide_eq_false_iff_not, Bool.not_eq_true', Bool.not_eq_false', Int.not_lt, Int.not_le, ne_eq, Decidable.not_not] at hp1
      refine skip ?_
      refine then_n ?_
      refine seq ?_
      refine block ?_
      refine seq ?_
      refine region ?_
      refine so h hO (yl_move h rfl) rfl ?_; clear h a; intro a h
      refine so h hO (yl_move h rfl) rfl ?_; clear h a; intro a h
      refine so h hO (yl_ix h rfl rfl p0 (by assumption) (by simp) (by omega)) rfl ?_; clear h a; intro a h
      refine so h hO (yl_ld1 h rfl p1 (by assumption) (by first | assumption | exact Val.sub (by assumption) (by repeat (first | with_reducible exact List.Sublist.refl _ | with_reducible refine List.Sublist.cons_cons _ ?_ | refine List.Sublist.cons _ ?_)) | with_reducible exact Val.ext _ _ | exact Val.ent (by first | with_reducible exact mem0 | with_reducible exact memS (mem0) | with_reducible exact memS (memS (mem0)) | with_reducible exact memS (memS (memS (mem0))) | with_reducible exact memS (memS (memS (memS (mem0)))) | with_reducible exact memS (memS (memS (memS (memS (mem0))))) | with_reducible exact memS (memS (memS (memS (memS (memS (mem0)))))) | with_reducible exact memS (memS (memS (memS (memS (memS (memS (mem0))))))) | with_reducible exact memS (memS (memS (memS (memS (memS (memS (memS (mem0)))))))) | with_reducible exact memS (memS (memS (memS (memS (memS (memS (memS (memS (mem0))))))))) | with_reducible exact memS (memS (memS (memS (memS (memS (memS (memS (memS (memS (mem0)))))))))) | with_reducible exact memS (memS (memS (memS (memS (memS (memS (memS (memS (memS (memS (mem0))))))))))) | with_reducible exact memS (memS (memS (memS (memS (memS (memS (memS (memS (memS (memS (memS (mem0)))))))))))) | with_reducible exact memS (memS (memS (memS (memS (memS (memS (memS (memS (memS (memS (memS (memS (mem0))))))))))))))) (by omega) (fun _ => rfl)) rfl ?_; clear h a; intro a h
      refine callR h rfl rfl p32 (l1In_spec _ _ _ hO) rfl ?_; clear h a hO w
      rintro _ w ⟨rfl, hO⟩ a h
      refine so h hO (yl_not h rfl) rfl ?_; clear h a; intro a h
      refine endL ?_
      refine then_n ?_
      refine cond_s h rfl (fun hb2 => ?_) (fun hb2 => ?_)
      · have hp2 := hb2
        try simp only [decide_eq_true_eq, decide_eq_false_iff_not, Bool.not_eq_true', Bool.not_eq_false', Int.not_lt, Int.not_le, ne_eq, Decidable.not_not] at hp2
        refine seq ?_
        refine region ?_
        refine so h hO (yl_assign h rfl) rfl ?_; clear h a; intro a h
        refine endL ?_
        refine then_n ?_
        refine retc ?_
        refine inB_r (then_r (then_r (inB_r (then_r (ret1 h hO Try.results25 (.tmp rfl .nil) ?_)))))
        refine Ret.mk ?_
        have hk1 : k < xs.length := by omega
        exact ⟨congrArg Value.bool (ok_not (getD_mem (xs := xs) (k := (k : Int).toNat) (by omega)) (by simpa using hp2)).symm, hO⟩
      · have hp2 := hb2
        try simp only [decide_eq_true_eq, decide_eq_false_iff_not, Bool.not_eq_true', Bool.not_eq_false', Int.not_lt, Int.not_le, ne_eq, Decidable.not_not] at hp2
        refine skip ?_
        refine inB_n ?_
        refine then_n ?_
        refine region ?_
        refine so h hO (yl_move h rfl) rfl ?_; clear h a; intro a h
        first | (refine so h hO (yl_add64 h rfl rfl (by omega)) rfl ?_) | (refine so h hO (yl_add h rfl rfl) rfl ?_)
        clear h a; intro a h
        refine so h hO (yl_assign h rfl) rfl ?_; clear h a; intro a h
        refine endL ?_
        refine then_n ?_
        have hk1 : k < xs.length := by omega
        try simp only [Int.toNat_natCast] at *
        have ht := getD_take_succ (xs := xs) hk1
        have hx2 : ∀ x ∈ xs.take (k + 1), -32767 ≤ x ∧ x ≤ 32767 := by
          rw [ht]; intro x hx
          rcases List.mem_append.1 hx with hx | hx
          · exact hno x hx
          · simp at hx; subst hx; simpa using hp2
        refine ⟨k + 1, by omega, by omega, hx2, h.weak (subB_cons rfl (subB_cons rfl (subB_nil))), hO⟩
    · have hp1 := hb1
      try simp only [decide_eq_true_eq, decide_eq_false_iff_not, Bool.not_eq_true', Bool.not_eq_false', Int.not_lt, Int.not_le, ne_eq, Decidable.not_not] at hp1
      refine exit_ ?_
      refine then_x ?_
      refine then_x ?_
      refine inB_same ?_
      refine then_n ?_
      refine seq ?_
      refine region ?_
      refine so h hO (yl_move h rfl) rfl ?_; clear h a; intro a h
      refine so h hO (yl_len h rfl p0) rfl ?_; clear h a; intro a h
      refine so h hO (yl_le h rfl rfl) rfl ?_; clear h a; intro a h
      refine so h hO (yl_assign h rfl) rfl ?_; clear h a; intro a h
      refine endL ?_
      refine then_n ?_
      refine retc ?_
      refine ret1 h hO Try.results25 (.tmp rfl .nil) ?_
      refine Ret.mk ?_
      have hk1 : k = xs.length := by omega
      subst hk1
      rw [List.take_length] at hno
      exact ⟨congrArg Value.bool (ok_all hno).symm, hO⟩
set_option maxHeartbeats 4000000 in
theorem left_spec (xs : List Int) {v : Value} {H : Nat → Obj → Prop} {w0 w : World} {L : List Ent} (hO : OwnE w0 w L) (hv : Rd I 1 H xs v) (hH : Val w0 L H) (hsm : ∀ x ∈ xs, -32767 ≤ x ∧ x ≤ 32767) (hb : xs.length ≤ 4294960000) : Calls Try.prog 24 ⟨[v]⟩ w (Ret (fun v w => ∃ e, Mu I 3 1 (opens xs) v e ∧ OwnE w0 w (e :: L))) := by
  refine enter Try.func24 rfl Try.ntmps24 rfl ?_
  intro a h
  have hv0 := hv
  obtain ⟨A, c, rfl, hc, hr⟩ := hv
  refine seq ?_
  refine region ?_
  refine so h hO (yl_assign h rfl) rfl ?_; clear h a; intro a h
  refine endL ?_
  refine then_n ?_
  refine seq ?_
  refine region ?_
  refine so h hO (yl_move h rfl) rfl ?_; clear h a; intro a h
  refine callR h rfl rfl p33 (books_spec _ hO (by assumption) (by first | assumption | exact Val.sub (by assumption) (by repeat (first | with_reducible exact List.Sublist.refl _ | with_reducible refine List.Sublist.cons_cons _ ?_ | refine List.Sublist.cons _ ?_)) | with_reducible exact Val.ext _ _ | exact Val.ent (by first | with_reducible exact mem0 | with_reducible exact memS (mem0) | with_reducible exact memS (memS (mem0)) | with_reducible exact memS (memS (memS (mem0))) | with_reducible exact memS (memS (memS (memS (mem0)))) | with_reducible exact memS (memS (memS (memS (memS (mem0))))) | with_reducible exact memS (memS (memS (memS (memS (memS (mem0)))))) | with_reducible exact memS (memS (memS (memS (memS (memS (memS (mem0))))))) | with_reducible exact memS (memS (memS (memS (memS (memS (memS (memS (mem0)))))))) | with_reducible exact memS (memS (memS (memS (memS (memS (memS (memS (memS (mem0))))))))) | with_reducible exact memS (memS (memS (memS (memS (memS (memS (memS (memS (memS (mem0)))))))))) | with_reducible exact memS (memS (memS (memS (memS (memS (memS (memS (memS (memS (memS (mem0))))))))))) | with_reducible exact memS (memS (memS (memS (memS (memS (memS (memS (memS (memS (memS (memS (mem0)))))))))))) | with_reducible exact memS (memS (memS (memS (memS (memS (memS (memS (memS (memS (memS (memS (memS (mem0))))))))))))))) (by assumption) (by omega)) rfl ?_; clear h a hO w
  rintro _ w ⟨v1, v2, e1, e2, rfl, hR, hMf, hO⟩ a h
  obtain ⟨hs, ⟨A1, c1, rfl, hc1, hr1⟩, hAll⟩ := hR
  obtain ⟨A2, c2, rfl, hc2⟩ := hMf.form
  have hl1 := hAll.length
  rw [rows_length] at hl1
  refine so h hO (yl_move h rfl) rfl ?_; clear h a; intro a h
  refine so h hO (yl_extract h rfl rfl) rfl ?_; clear h a; intro a h
  refine so h hO (yl_extract h rfl rfl) rfl ?_; clear h a; intro a h
  refine so h hO (yl_assign h rfl) rfl ?_; clear h a; intro a h
  refine so h hO (yl_assign h rfl) rfl ?_; clear h a; intro a h
  refine endL ?_
  refine then_n ?_
  refine seq ?_
  refine seq ?_
  refine region ?_
  refine so h hO (yl_move h rfl) rfl ?_; clear h a; intro a h
  refine so h hO (yl_len h rfl p24) rfl ?_; clear h a; intro a h
  refine so h hO (yl_eq h rfl rfl) rfl ?_; clear h a; intro a h
  refine endL ?_
  refine then_n ?_
  refine cond_s h rfl (fun hb1 => ?_) (fun hb1 => ?_)
  · have hp1 := hb1
    try simp only [decide_eq_true_eq, decide_eq_false_iff_not, Bool.not_eq_true', Bool.not_eq_false', Int.not_lt, Int.not_le, ne_eq, Decidable.not_not] at hp1
    refine seq ?_
    refine region ?_
    refine so h hO (yl_assign h rfl) rfl ?_; clear h a; intro a h
    refine endL ?_
    refine then_n ?_
    refine retc ?_
    refine then_r (ret1 h hO Try.results24 (.tmp rfl .nil) ?_)
    refine Ret.mk ?_
    have hn0 : xs = [] := List.eq_nil_of_length_eq_zero (by omega)
    subst hn0
    exact ⟨[], Mu.nil _ _ _, hO.drop.drop.nilE⟩
  · have hp1 := hb1
    try simp only [decide_eq_true_eq, decide_eq_false_iff_not, Bool.not_eq_true', Bool.not_eq_false', Int.not_lt, Int.not_le, ne_eq, Decidable.not_not] at hp1
    refine skip ?_
    refine then_n ?_
    refine seq ?_
    refine region ?_
    refine so h hO (yl_move h rfl) rfl ?_; clear h a; intro a h
    refine so h hO (yl_move h rfl) rfl ?_; clear h a; intro a h
    refine so h hO (yl_len h rfl p24) rfl ?_; clear h a; intro a h
    first | (refine so h hO (yl_sub64 h rfl rfl (by omega)) rfl ?_) | (refine so h hO (yl_sub h rfl rfl) rfl ?_)
    clear h a; intro a h
    have hn0 : 0 < xs.length := by omega
    obtain ⟨y, hy, hry⟩ := hAll.get (i := xs.length - 1) (x := opens xs) (by rw [List.getElem?_eq_some_iff]; refine ⟨by rw [rows_length]; omega, ?_⟩; have := rows_get xs (xs.length - 1) (by omega); rw [getD_eq (by rw [rows_length]; omega)] at this; rw [this, show xs.length - 1 + 1 = xs.length by omega, List.take_length])
    have hry0 := hry
    obtain ⟨A3, c3, rfl, hc3, hr3⟩ := hry
    refine so h hO (yl_ix h rfl rfl p24 (by assumption) (by simp) (by omega)) rfl ?_; clear h a; intro a h
    refine so h hO (yl_ldRow h rfl p34 (by assumption) (by first | assumption | exact Val.sub (by assumption) (by repeat (first | with_reducible exact List.Sublist.refl _ | with_reducible refine List.Sublist.cons_cons _ ?_ | refine List.Sublist.cons _ ?_)) | with_reducible exact Val.ext _ _ | exact Val.ent (by first | with_reducible exact mem0 | with_reducible exact memS (mem0) | with_reducible exact memS (memS (mem0)) | with_reducible exact memS (memS (memS (mem0))) | with_reducible exact memS (memS (memS (memS (mem0)))) | with_reducible exact memS (memS (memS (memS (memS (mem0))))) | with_reducible exact memS (memS (memS (memS (memS (memS (mem0)))))) | with_reducible exact memS (memS (memS (memS (memS (memS (memS (mem0))))))) | with_reducible exact memS (memS (memS (memS (memS (memS (memS (memS (mem0)))))))) | with_reducible exact memS (memS (memS (memS (memS (memS (memS (memS (memS (mem0))))))))) | with_reducible exact memS (memS (memS (memS (memS (memS (memS (memS (memS (memS (mem0)))))))))) | with_reducible exact memS (memS (memS (memS (memS (memS (memS (memS (memS (memS (memS (mem0))))))))))) | with_reducible exact memS (memS (memS (memS (memS (memS (memS (memS (memS (memS (memS (memS (mem0)))))))))))) | with_reducible exact memS (memS (memS (memS (memS (memS (memS (memS (memS (memS (memS (memS (memS (mem0))))))))))))))) (by rw [show ((hs.length : Int) - 1).toNat = xs.length - 1 by omega]; exact hy)) rfl ?_; clear h a; intro a h
    refine callR h rfl rfl p26 (Clone_spec _ hO (by assumption) (by first | assumption | exact Val.sub (by assumption) (by repeat (first | with_reducible exact List.Sublist.refl _ | with_reducible refine List.Sublist.cons_cons _ ?_ | refine List.Sublist.cons _ ?_)) | with_reducible exact Val.ext _ _ | exact Val.ent (by first | with_reducible exact mem0 | with_reducible exact memS (mem0) | with_reducible exact memS (memS (mem0)) | with_reducible exact memS (memS (memS (mem0))) | with_reducible exact memS (memS (memS (memS (mem0)))) | with_reducible exact memS (memS (memS (memS (memS (mem0))))) | with_reducible exact memS (memS (memS (memS (memS (memS (mem0)))))) | with_reducible exact memS (memS (memS (memS (memS (memS (memS (mem0))))))) | with_reducible exact memS (memS (memS (memS (memS (memS (memS (memS (mem0)))))))) | with_reducible exact memS (memS (memS (memS (memS (memS (memS (memS (memS (mem0))))))))) | with_reducible exact memS (memS (memS (memS (memS (memS (memS (memS (memS (memS (mem0)))))))))) | with_reducible exact memS (memS (memS (memS (memS (memS (memS (memS (memS (memS (memS (mem0))))))))))) | with_reducible exact memS (memS (memS (memS (memS (memS (memS (memS (memS (memS (memS (memS (mem0)))))))))))) | with_reducible exact memS (memS (memS (memS (memS (memS (memS (memS (memS (memS (memS (memS (memS (mem0))))))))))))))) (by have := opens_le xs; omega)) rfl ?_; clear h a hO w
    rintro _ w ⟨ed, hMd, hO⟩ a h
    refine so h hO (yl_assign h rfl) rfl ?_; clear h a; intro a h
    refine endL ?_
    refine then_n ?_
    refine retc ?_
    refine ret1 h hO Try.results24 (.tmp rfl .nil) ?_
    refine Ret.mk ?_
    exact ⟨_, hMd, (by exact hO.sub (by repeat (first | with_reducible exact List.Sublist.refl _ | with_reducible refine List.Sublist.cons_cons _ ?_ | refine List.Sublist.cons _ ?_)))⟩
set_option maxHeartbeats 4000000 in
theorem isTidy_spec (xs : List Int) {v : Value} {H : Nat → Obj → Prop} {w0 w : World} {L : List Ent} (hO : OwnE w0 w L) (hv : Rd I 1 H xs v) (hH : Val w0 L H) (hsm : ∀ x ∈ xs, -32767 ≤ x ∧ x ≤ 32767) (hb : xs.length ≤ 4294960000) : Calls Try.prog 28 ⟨[v]⟩ w (Ret (fun v w => v = .bool (tidy xs) ∧ OwnE w0 w L)) := by
  refine enter Try.func28 rfl Try.ntmps28 rfl ?_
  intro a h
  have hv0 := hv
  obtain ⟨A, c, rfl, hc, hr⟩ := hv
  refine seq ?_
  refine region ?_
  refine so h hO (yl_assign h rfl) rfl ?_; clear h a; intro a h
  refine endL ?_
  refine then_n ?_
  refine seq ?_
  refine region ?_
  refine so h hO (yl_move h rfl) rfl ?_; clear h a; intro a h
  refine callR h rfl rfl p33 (books_spec _ hO (by assumption) (by first | assumption | exact Val.sub (by assumption) (by repeat (first | with_reducible exact List.Sublist.refl _ | with_reducible refine List.Sublist.cons_cons _ ?_ | refine List.Sublist.cons _ ?_)) | with_reducible exact Val.ext _ _ | exact Val.ent (by first | with_reducible exact mem0 | with_reducible exact memS (mem0) | with_reducible exact memS (memS (mem0)) | with_reducible exact memS (memS (memS (mem0))) | with_reducible exact memS (memS (memS (memS (mem0)))) | with_reducible exact memS (memS (memS (memS (memS (mem0))))) | with_reducible exact memS (memS (memS (memS (memS (memS (mem0)))))) | with_reducible exact memS (memS (memS (memS (memS (memS (memS (mem0))))))) | with_reducible exact memS (memS (memS (memS (memS (memS (memS (memS (mem0)))))))) | with_reducible exact memS (memS (memS (memS (memS (memS (memS (memS (memS (mem0))))))))) | with_reducible exact memS (memS (memS (memS (memS (memS (memS (memS (memS (memS (mem0)))))))))) | with_reducible exact memS (memS (memS (memS (memS (memS (memS (memS (memS (memS (memS (mem0))))))))))) | with_reducible exact memS (memS (memS (memS (memS (memS (memS (memS (memS (memS (memS (memS (mem0)))))))))))) | with_reducible exact memS (memS (memS (memS (memS (memS (memS (memS (memS (memS (memS (memS (memS (mem0))))))))))))))) (by assumption) (by omega)) rfl ?_; clear h a hO w
  rintro _ w ⟨v1, v2, e1, e2, rfl, hR, hMf, hO⟩ a h
  obtain ⟨hs, ⟨A1, c1, rfl, hc1, hr1⟩, hAll⟩ := hR
  obtain ⟨A2, c2, rfl, hc2⟩ := hMf.form
  have hl1 := hAll.length
  rw [rows_length] at hl1
  refine so h hO (yl_move h rfl) rfl ?_; clear h a; intro a h
  refine so h hO (yl_extract h rfl rfl) rfl ?_; clear h a; intro a h
  refine so h hO (yl_extract h rfl rfl) rfl ?_; clear h a; intro a h
  refine so h hO (yl_assign h rfl) rfl ?_; clear h a; intro a h
  refine so h hO (yl_assign h rfl) rfl ?_; clear h a; intro a h
  refine endL ?_
  refine then_n ?_
  refine seq ?_
  refine region ?_
  refine so h hO (yl_move h rfl) rfl ?_; clear h a; intro a h
  refine so h hO (yl_len h rfl p0) rfl ?_; clear h a; intro a h
  refine so h hO (yl_eq h rfl rfl) rfl ?_; clear h a; intro a h
  refine so h hO (yl_move h rfl) rfl ?_; clear h a; intro a h
  refine split h 13 rfl (fun hb1 => ?_) (fun hb1 => ?_)
  · have hp1 := hb1
    try simp only [decide_eq_true_eq, decide_eq_false_iff_not, Bool.not_eq_true', Bool.not_eq_false', Int.not_lt, Int.not_le, ne_eq, Decidable.not_not] at hp1
    refine sog h hO (j := 3) rfl rfl hb1 (yl_move h rfl) rfl ?_; clear h a; intro a h
    refine callRg h (j := 3) rfl rfl hb1 rfl rfl p35 (left_spec _ hO (by assumption) (by first | assumption | exact Val.sub (by assumption) (by repeat (first | with_reducible exact List.Sublist.refl _ | with_reducible refine List.Sublist.cons_cons _ ?_ | refine List.Sublist.cons _ ?_)) | with_reducible exact Val.ext _ _ | exact Val.ent (by first | with_reducible exact mem0 | with_reducible exact memS (mem0) | with_reducible exact memS (memS (mem0)) | with_reducible exact memS (memS (memS (mem0))) | with_reducible exact memS (memS (memS (memS (mem0)))) | with_reducible exact memS (memS (memS (memS (memS (mem0))))) | with_reducible exact memS (memS (memS (memS (memS (memS (mem0)))))) | with_reducible exact memS (memS (memS (memS (memS (memS (memS (mem0))))))) | with_reducible exact memS (memS (memS (memS (memS (memS (memS (memS (mem0)))))))) | with_reducible exact memS (memS (memS (memS (memS (memS (memS (memS (memS (mem0))))))))) | with_reducible exact memS (memS (memS (memS (memS (memS (memS (memS (memS (memS (mem0)))))))))) | with_reducible exact memS (memS (memS (memS (memS (memS (memS (memS (memS (memS (memS (mem0))))))))))) | with_reducible exact memS (memS (memS (memS (memS (memS (memS (memS (memS (memS (memS (memS (mem0)))))))))))) | with_reducible exact memS (memS (memS (memS (memS (memS (memS (memS (memS (memS (memS (memS (memS (mem0))))))))))))))) (by assumption) (by omega)) rfl ?_; clear h a hO w
    rintro _ w ⟨el, hMl, hO⟩ a h
    obtain ⟨Al, cl, rfl, hcl⟩ := hMl.form
    have hrdl := hMl.rd
    refine sog h hO (j := 3) rfl rfl hb1 (yl_len h rfl p0) rfl ?_; clear h a; intro a h
    refine sog h hO (j := 3) rfl rfl hb1 (yl_eq h rfl rfl) rfl ?_; clear h a; intro a h
    refine so h hO (yl_pick_t h rfl hb1 rfl) rfl ?_; clear h a; intro a h
    refine so h hO (yl_assign h rfl) rfl ?_; clear h a; intro a h
    refine endL ?_
    refine then_n ?_
    refine retc ?_
    refine ret1 h hO Try.results28 (.tmp rfl .nil) ?_
    refine Ret.mk ?_
    refine ⟨congrArg Value.bool ?_, hO.sub (by repeat (first | with_reducible exact List.Sublist.refl _ | with_reducible refine List.Sublist.cons_cons _ ?_ | refine List.Sublist.cons _ ?_))⟩
    unfold tidy
    apply decide_eq_decide.2; simp at hp1 ⊢; simp [hp1]
  · have hp1 := hb1
    try simp only [decide_eq_true_eq, decide_eq_false_iff_not, Bool.not_eq_true', Bool.not_eq_false', Int.not_lt, Int.not_le, ne_eq, Decidable.not_not] at hp1
    refine son h (j := 3) rfl rfl hb1 rfl ?_; clear h a; intro a h
    refine son h (j := 3) rfl rfl hb1 rfl ?_; clear h a; intro a h
    refine son h (j := 3) rfl rfl hb1 rfl ?_; clear h a; intro a h
    refine son h (j := 3) rfl rfl hb1 rfl ?_; clear h a; intro a h
    refine so h hO (yl_pick_f h rfl hb1 rfl) rfl ?_; clear h a; intro a h
    refine so h hO (yl_assign h rfl) rfl ?_; clear h a; intro a h
    refine endL ?_
    refine then_n ?_
    refine retc ?_
    refine ret1 h hO Try.results28 (.tmp rfl .nil) ?_
    refine Ret.mk ?_
    refine ⟨congrArg Value.bool ?_, hO.sub (by repeat (first | with_reducible exact List.Sublist.refl _ | with_reducible refine List.Sublist.cons_cons _ ?_ | refine List.Sublist.cons _ ?_))⟩
    unfold tidy
    symm; apply decide_eq_false; intro hh; simp [hh.2] at hp1
set_option maxHeartbeats 4000000 in
theorem l7Tidy_spec (xs : List Int) {v : Value} {H : Nat → Obj → Prop} {w0 w : World} {L : List Ent} (hO : OwnE w0 w L) (hv : Rd I 1 H xs v) (hH : Val w0 L H) (hsm : ∀ x ∈ xs, -32767 ≤ x ∧ x ≤ 32767) (hb : xs.length ≤ 4294960000) : Calls Try.prog 29 ⟨[v]⟩ w (Ret (fun v w => v = .bool (tidy xs) ∧ OwnE w0 w L)) := by
  refine enter Try.func29 rfl Try.ntmps29 rfl ?_
  intro a h
  have hv0 := hv
  obtain ⟨A, c, rfl, hc, hr⟩ := hv
  refine seq ?_
  refine region ?_
  refine so h hO (yl_assign h rfl) rfl ?_; clear h a; intro a h
  refine endL ?_
  refine then_n ?_
  refine seq ?_
  refine region ?_
  refine so h hO (yl_move h rfl) rfl ?_; clear h a; intro a h
  refine callR h rfl rfl p36 (l7Read_spec _ hO (by assumption) (by first | assumption | exact Val.sub (by assumption) (by repeat (first | with_reducible exact List.Sublist.refl _ | with_reducible refine List.Sublist.cons_cons _ ?_ | refine List.Sublist.cons _ ?_)) | with_reducible exact Val.ext _ _ | exact Val.ent (by first | with_reducible exact mem0 | with_reducible exact memS (mem0) | with_reducible exact memS (memS (mem0)) | with_reducible exact memS (memS (memS (mem0))) | with_reducible exact memS (memS (memS (memS (mem0)))) | with_reducible exact memS (memS (memS (memS (memS (mem0))))) | with_reducible exact memS (memS (memS (memS (memS (memS (mem0)))))) | with_reducible exact memS (memS (memS (memS (memS (memS (memS (mem0))))))) | with_reducible exact memS (memS (memS (memS (memS (memS (memS (memS (mem0)))))))) | with_reducible exact memS (memS (memS (memS (memS (memS (memS (memS (memS (mem0))))))))) | with_reducible exact memS (memS (memS (memS (memS (memS (memS (memS (memS (memS (mem0)))))))))) | with_reducible exact memS (memS (memS (memS (memS (memS (memS (memS (memS (memS (memS (mem0))))))))))) | with_reducible exact memS (memS (memS (memS (memS (memS (memS (memS (memS (memS (memS (memS (mem0)))))))))))) | with_reducible exact memS (memS (memS (memS (memS (memS (memS (memS (memS (memS (memS (memS (memS (mem0))))))))))))))) (by assumption) (by omega)) rfl ?_; clear h a hO w
  rintro _ w ⟨v1, v2, e1, e2, rfl, hM1, hM2, hO⟩ a h
  obtain ⟨A1, c1, rfl, hc1⟩ := hM1.form
  obtain ⟨A2, c2, rfl, hc2⟩ := hM2.form
  have hrd1 := hM1.rd
  have hrd2 := hM2.rd
  have hr1 := hM1.rr
  have hr2 := hM2.rr
  refine so h hO (yl_move h rfl) rfl ?_; clear h a; intro a h
  refine so h hO (yl_extract h rfl rfl) rfl ?_; clear h a; intro a h
  refine so h hO (yl_extract h rfl rfl) rfl ?_; clear h a; intro a h
  refine so h hO (yl_assign h rfl) rfl ?_; clear h a; intro a h
  refine so h hO (yl_assign h rfl) rfl ?_; clear h a; intro a h
  refine endL ?_
  refine then_n ?_
  refine seq ?_
  refine region ?_
  refine so h hO (yl_move h rfl) rfl ?_; clear h a; intro a h
  refine so h hO (yl_len h rfl p0) rfl ?_; clear h a; intro a h
  refine so h hO (yl_eq h rfl rfl) rfl ?_; clear h a; intro a h
  refine so h hO (yl_move h rfl) rfl ?_; clear h a; intro a h
  refine split h 13 rfl (fun hb1 => ?_) (fun hb1 => ?_)
  · have hp1 := hb1
    try simp only [decide_eq_true_eq, decide_eq_false_iff_not, Bool.not_eq_true', Bool.not_eq_false', Int.not_lt, Int.not_le, ne_eq, Decidable.not_not] at hp1
    refine sog h hO (j := 3) rfl rfl hb1 (yl_move h rfl) rfl ?_; clear h a; intro a h
    refine sog h hO (j := 3) rfl rfl hb1 (yl_len h rfl p0) rfl ?_; clear h a; intro a h
    refine sog h hO (j := 3) rfl rfl hb1 (yl_eq h rfl rfl) rfl ?_; clear h a; intro a h
    refine so h hO (yl_pick_t h rfl hb1 rfl) rfl ?_; clear h a; intro a h
    refine so h hO (yl_assign h rfl) rfl ?_; clear h a; intro a h
    refine endL ?_
    refine then_n ?_
    refine retc ?_
    refine ret1 h hO Try.results29 (.tmp rfl .nil) ?_
    refine Ret.mk ?_
    refine ⟨congrArg Value.bool ?_, hO.sub (by repeat (first | with_reducible exact List.Sublist.refl _ | with_reducible refine List.Sublist.cons_cons _ ?_ | refine List.Sublist.cons _ ?_))⟩
    unfold tidy
    apply decide_eq_decide.2; simp at hp1 ⊢; simp [hp1]
  · have hp1 := hb1
    try simp only [decide_eq_true_eq, decide_eq_false_iff_not, Bool.not_eq_true', Bool.not_eq_false', Int.not_lt, Int.not_le, ne_eq, Decidable.not_not] at hp1
    refine son h (j := 3) rfl rfl hb1 rfl ?_; clear h a; intro a h
    refine son h (j := 3) rfl rfl hb1 rfl ?_; clear h a; intro a h
    refine son h (j := 3) rfl rfl hb1 rfl ?_; clear h a; intro a h
    refine so h hO (yl_pick_f h rfl hb1 rfl) rfl ?_; clear h a; intro a h
    refine so h hO (yl_assign h rfl) rfl ?_; clear h a; intro a h
    refine endL ?_
    refine then_n ?_
    refine retc ?_
    refine ret1 h hO Try.results29 (.tmp rfl .nil) ?_
    refine Ret.mk ?_
    refine ⟨congrArg Value.bool ?_, hO.sub (by repeat (first | with_reducible exact List.Sublist.refl _ | with_reducible refine List.Sublist.cons_cons _ ?_ | refine List.Sublist.cons _ ?_))⟩
    unfold tidy
    symm; apply decide_eq_false; intro hh; simp [hh.1] at hp1
set_option maxHeartbeats 4000000 in
theorem OpenAtEnd_i (xs : List Int) {v : Value} {H : Nat → Obj → Prop} {w0 w : World} {L : List Ent} (hO : OwnE w0 w L) (hv : Rd I 1 H xs v) (hH : Val w0 L H) : Calls Try.prog 6 ⟨[v]⟩ w (Ret (fun v w => ∃ v1 e, v = .tuple ⟨[v1, .bool (ok xs)]⟩ ∧ Rd I 1 (inE e) (if ok xs then opens xs else []) v1 ∧ OwnE w0 w (e :: L))) := by
  refine enter Try.func6 rfl Try.ntmps6 rfl ?_
  intro a h
  have hv0 := hv
  obtain ⟨A, c, rfl, hc, hr⟩ := hv
  refine seq ?_
  refine region ?_
  refine so h hO (yl_assign h rfl) rfl ?_; clear h a; intro a h
  refine so h hO (yl_assign h rfl) rfl ?_; clear h a; intro a h
  refine endL ?_
  refine then_n ?_
  refine seq ?_
  refine seq ?_
  refine region ?_
  refine so h hO (yl_move h rfl) rfl ?_; clear h a; intro a h
  refine callR h rfl rfl p37 (areEntries_spec _ hO (by assumption) (by first | assumption | exact Val.sub (by assumption) (by repeat (first | with_reducible exact List.Sublist.refl _ | with_reducible refine List.Sublist.cons_cons _ ?_ | refine List.Sublist.cons _ ?_)) | with_reducible exact Val.ext _ _ | exact Val.ent (by first | with_reducible exact mem0 | with_reducible exact memS (mem0) | with_reducible exact memS (memS (mem0)) | with_reducible exact memS (memS (memS (mem0))) | with_reducible exact memS (memS (memS (memS (mem0)))) | with_reducible exact memS (memS (memS (memS (memS (mem0))))) | with_reducible exact memS (memS (memS (memS (memS (memS (mem0)))))) | with_reducible exact memS (memS (memS (memS (memS (memS (memS (mem0))))))) | with_reducible exact memS (memS (memS (memS (memS (memS (memS (memS (mem0)))))))) | with_reducible exact memS (memS (memS (memS (memS (memS (memS (memS (memS (mem0))))))))) | with_reducible exact memS (memS (memS (memS (memS (memS (memS (memS (memS (memS (mem0)))))))))) | with_reducible exact memS (memS (memS (memS (memS (memS (memS (memS (memS (memS (memS (mem0))))))))))) | with_reducible exact memS (memS (memS (memS (memS (memS (memS (memS (memS (memS (memS (memS (mem0)))))))))))) | with_reducible exact memS (memS (memS (memS (memS (memS (memS (memS (memS (memS (memS (memS (memS (mem0)))))))))))))))) rfl ?_; clear h a hO w
  rintro _ w ⟨rfl, hO⟩ a h
  refine so h hO (yl_not h rfl) rfl ?_; clear h a; intro a h
  refine endL ?_
  refine then_n ?_
  refine cond_s h rfl (fun hb1 => ?_) (fun hb1 => ?_)
  · have hp1 := hb1
    try simp only [decide_eq_true_eq, decide_eq_false_iff_not, Bool.not_eq_true', Bool.not_eq_false', Int.not_lt, Int.not_le, ne_eq, Decidable.not_not] at hp1
    refine seq ?_
    refine region ?_
    refine so h hO (yl_assign h rfl) rfl ?_; clear h a; intro a h
    refine so h hO (yl_assign h rfl) rfl ?_; clear h a; intro a h
    refine endL ?_
    refine then_n ?_
    refine retc ?_
    refine then_r (ret2 h hO Try.results6 (.tmp rfl (.tmp rfl .nil)) ?_)
    refine Ret.mk ?_
    have hok : ok xs = false := by simpa using hb1
    rw [hok]
    exact ⟨_, [], rfl, Rd.nil _ _ _ _ (by decide), hO.nilE⟩
  · have hp1 := hb1
    try simp only [decide_eq_true_eq, decide_eq_false_iff_not, Bool.not_eq_true', Bool.not_eq_false', Int.not_lt, Int.not_le, ne_eq, Decidable.not_not] at hp1
    refine skip ?_
    refine then_n ?_
    refine seq ?_
    refine region ?_
    have hok : ok xs = true := by simpa using hb1
    have hsm := (ok_spec hok).2
    have hb := (ok_spec hok).1
    refine so h hO (yl_move h rfl) rfl ?_; clear h a; intro a h
    refine callR h rfl rfl p35 (left_spec _ hO (by assumption) (by first | assumption | exact Val.sub (by assumption) (by repeat (first | with_reducible exact List.Sublist.refl _ | with_reducible refine List.Sublist.cons_cons _ ?_ | refine List.Sublist.cons _ ?_)) | with_reducible exact Val.ext _ _ | exact Val.ent (by first | with_reducible exact mem0 | with_reducible exact memS (mem0) | with_reducible exact memS (memS (mem0)) | with_reducible exact memS (memS (memS (mem0))) | with_reducible exact memS (memS (memS (memS (mem0)))) | with_reducible exact memS (memS (memS (memS (memS (mem0))))) | with_reducible exact memS (memS (memS (memS (memS (memS (mem0)))))) | with_reducible exact memS (memS (memS (memS (memS (memS (memS (mem0))))))) | with_reducible exact memS (memS (memS (memS (memS (memS (memS (memS (mem0)))))))) | with_reducible exact memS (memS (memS (memS (memS (memS (memS (memS (memS (mem0))))))))) | with_reducible exact memS (memS (memS (memS (memS (memS (memS (memS (memS (memS (mem0)))))))))) | with_reducible exact memS (memS (memS (memS (memS (memS (memS (memS (memS (memS (memS (mem0))))))))))) | with_reducible exact memS (memS (memS (memS (memS (memS (memS (memS (memS (memS (memS (memS (mem0)))))))))))) | with_reducible exact memS (memS (memS (memS (memS (memS (memS (memS (memS (memS (memS (memS (memS (mem0))))))))))))))) (by assumption) (by omega)) rfl ?_; clear h a hO w
    rintro _ w ⟨el, hMl, hO⟩ a h
    obtain ⟨Al, cl, rfl, hcl⟩ := hMl.form
    have hrdl := hMl.rd
    refine so h hO (yl_assign h rfl) rfl ?_; clear h a; intro a h
    refine so h hO (yl_assign h rfl) rfl ?_; clear h a; intro a h
    refine endL ?_
    refine then_n ?_
    refine retc ?_
    refine ret2 h hO Try.results6 (.tmp rfl (.tmp rfl .nil)) ?_
    refine Ret.mk ?_
    rw [hok]
    exact ⟨_, _, rfl, hMl.rd, hO⟩
set_option maxHeartbeats 4000000 in
theorem OpenAtEnd_s (xs : List Int) {v : Value} {H : Nat → Obj → Prop} {w0 w : World} {L : List Ent} (hO : OwnE w0 w L) (hv : Rd I 1 H xs v) (hH : Val w0 L H) : Calls Try.prog 7 ⟨[v]⟩ w (Ret (fun v w => ∃ v1 e, v = .tuple ⟨[v1, .bool (ok xs)]⟩ ∧ Rd I 1 (inE e) (if ok xs then opens xs else []) v1 ∧ OwnE w0 w (e :: L))) := by
  refine enter Try.func7 rfl Try.ntmps7 rfl ?_
  intro a h
  have hv0 := hv
  obtain ⟨A, c, rfl, hc, hr⟩ := hv
  refine seq ?_
  refine region ?_
  refine so h hO (yl_assign h rfl) rfl ?_; clear h a; intro a h
  refine so h hO (yl_assign h rfl) rfl ?_; clear h a; intro a h
  refine endL ?_
  refine then_n ?_
  refine seq ?_
  refine seq ?_
  refine region ?_
  refine so h hO (yl_move h rfl) rfl ?_; clear h a; intro a h
  refine callR h rfl rfl p38 (l7Good_spec _ hO (by assumption) (by first | assumption | exact Val.sub (by assumption) (by repeat (first | with_reducible exact List.Sublist.refl _ | with_reducible refine List.Sublist.cons_cons _ ?_ | refine List.Sublist.cons _ ?_)) | with_reducible exact Val.ext _ _ | exact Val.ent (by first | with_reducible exact mem0 | with_reducible exact memS (mem0) | with_reducible exact memS (memS (mem0)) | with_reducible exact memS (memS (memS (mem0))) | with_reducible exact memS (memS (memS (memS (mem0)))) | with_reducible exact memS (memS (memS (memS (memS (mem0))))) | with_reducible exact memS (memS (memS (memS (memS (memS (mem0)))))) | with_reducible exact memS (memS (memS (memS (memS (memS (memS (mem0))))))) | with_reducible exact memS (memS (memS (memS (memS (memS (memS (memS (mem0)))))))) | with_reducible exact memS (memS (memS (memS (memS (memS (memS (memS (memS (mem0))))))))) | with_reducible exact memS (memS (memS (memS (memS (memS (memS (memS (memS (memS (mem0)))))))))) | with_reducible exact memS (memS (memS (memS (memS (memS (memS (memS (memS (memS (memS (mem0))))))))))) | with_reducible exact memS (memS (memS (memS (memS (memS (memS (memS (memS (memS (memS (memS (mem0)))))))))))) | with_reducible exact memS (memS (memS (memS (memS (memS (memS (memS (memS (memS (memS (memS (memS (mem0)))))))))))))))) rfl ?_; clear h a hO w
  rintro _ w ⟨rfl, hO⟩ a h
  refine so h hO (yl_not h rfl) rfl ?_; clear h a; intro a h
  refine endL ?_
  refine then_n ?_
  refine cond_s h rfl (fun hb1 => ?_) (fun hb1 => ?_)
  · have hp1 := hb1
    try simp only [decide_eq_true_eq, decide_eq_false_iff_not, Bool.not_eq_true', Bool.not_eq_false', Int.not_lt, Int.not_le, ne_eq, Decidable.not_not] at hp1
    refine seq ?_
    refine region ?_
    refine stepBuildAll (us := []) h hO rfl p0 rfl p4 rfl rfl rfl rfl rfl ?_; clear h hO a w; intro a b9 w h hO
    refine so h hO (yl_assign h rfl) rfl ?_; clear h a; intro a h
    refine so h hO (yl_assign h rfl) rfl ?_; clear h a; intro a h
    refine endL ?_
    refine then_n ?_
    refine retc ?_
    refine then_r (ret2 h hO Try.results7 (.tmp rfl (.tmp rfl .nil)) ?_)
    refine Ret.mk ?_
    have hok : ok xs = false := by simpa using hb1
    rw [hok]
    exact ⟨_, _, rfl, Rd.nil _ _ _ _ (by decide), hO⟩
  · have hp1 := hb1
    try simp only [decide_eq_true_eq, decide_eq_false_iff_not, Bool.not_eq_true', Bool.not_eq_false', Int.not_lt, Int.not_le, ne_eq, Decidable.not_not] at hp1
    refine skip ?_
    refine then_n ?_
    refine seq ?_
    refine region ?_
    have hok : ok xs = true := by simpa using hb1
    have hsm := (ok_spec hok).2
    have hb := (ok_spec hok).1
    refine so h hO (yl_move h rfl) rfl ?_; clear h a; intro a h
    refine callR h rfl rfl p36 (l7Read_spec _ hO (by assumption) (by first | assumption | exact Val.sub (by assumption) (by repeat (first | with_reducible exact List.Sublist.refl _ | with_reducible refine List.Sublist.cons_cons _ ?_ | refine List.Sublist.cons _ ?_)) | with_reducible exact Val.ext _ _ | exact Val.ent (by first | with_reducible exact mem0 | with_reducible exact memS (mem0) | with_reducible exact memS (memS (mem0)) | with_reducible exact memS (memS (memS (mem0))) | with_reducible exact memS (memS (memS (memS (mem0)))) | with_reducible exact memS (memS (memS (memS (memS (mem0))))) | with_reducible exact memS (memS (memS (memS (memS (memS (mem0)))))) | with_reducible exact memS (memS (memS (memS (memS (memS (memS (mem0))))))) | with_reducible exact memS (memS (memS (memS (memS (memS (memS (memS (mem0)))))))) | with_reducible exact memS (memS (memS (memS (memS (memS (memS (memS (memS (mem0))))))))) | with_reducible exact memS (memS (memS (memS (memS (memS (memS (memS (memS (memS (mem0)))))))))) | with_reducible exact memS (memS (memS (memS (memS (memS (memS (memS (memS (memS (memS (mem0))))))))))) | with_reducible exact memS (memS (memS (memS (memS (memS (memS (memS (memS (memS (memS (memS (mem0)))))))))))) | with_reducible exact memS (memS (memS (memS (memS (memS (memS (memS (memS (memS (memS (memS (memS (mem0))))))))))))))) (by assumption) (by omega)) rfl ?_; clear h a hO w
    rintro _ w ⟨v1, v2, e1, e2, rfl, hM1, hM2, hO⟩ a h
    obtain ⟨A1, c1, rfl, hc1⟩ := hM1.form
    obtain ⟨A2, c2, rfl, hc2⟩ := hM2.form
    have hrd1 := hM1.rd
    have hrd2 := hM2.rd
    have hr1 := hM1.rr
    have hr2 := hM2.rr
    refine so h hO (yl_move h rfl) rfl ?_; clear h a; intro a h
    refine so h hO (yl_extract h rfl rfl) rfl ?_; clear h a; intro a h
    refine so h hO (yl_extract h rfl rfl) rfl ?_; clear h a; intro a h
    refine so h hO (yl_assign h rfl) rfl ?_; clear h a; intro a h
    refine so h hO (yl_assign h rfl) rfl ?_; clear h a; intro a h
    refine endL ?_
    refine then_n ?_
    refine seq ?_
    refine region ?_
    refine so h hO (yl_move h rfl) rfl ?_; clear h a; intro a h
    refine so h hO (yl_assign h rfl) rfl ?_; clear h a; intro a h
    refine so h hO (yl_assign h rfl) rfl ?_; clear h a; intro a h
    refine endL ?_
    refine then_n ?_
    refine retc ?_
    refine ret2 h hO Try.results7 (.tmp rfl (.tmp rfl .nil)) ?_
    refine Ret.mk ?_
    rw [hok]
    exact ⟨_, _, rfl, hM1.rd, (by exact hO.sub (by repeat (first | with_reducible exact List.Sublist.refl _ | with_reducible refine List.Sublist.cons_cons _ ?_ | refine List.Sublist.cons _ ?_)))⟩
set_option maxHeartbeats 4000000 in
theorem FaultsOf_i (xs : List Int) {v : Value} {H : Nat → Obj → Prop} {w0 w : World} {L : List Ent} (hO : OwnE w0 w L) (hv : Rd I 1 H xs v) (hH : Val w0 L H) : Calls Try.prog 8 ⟨[v]⟩ w (Ret (fun v w => ∃ v1 e, v = .tuple ⟨[v1, .bool (ok xs)]⟩ ∧ Rd I 1 (inE e) (if ok xs then faults xs else []) v1 ∧ OwnE w0 w (e :: L))) := by
  refine enter Try.func8 rfl Try.ntmps8 rfl ?_
  intro a h
  have hv0 := hv
  obtain ⟨A, c, rfl, hc, hr⟩ := hv
  refine seq ?_
  refine region ?_
  refine so h hO (yl_assign h rfl) rfl ?_; clear h a; intro a h
  refine so h hO (yl_assign h rfl) rfl ?_; clear h a; intro a h
  refine endL ?_
  refine then_n ?_
  refine seq ?_
  refine seq ?_
  refine region ?_
  refine so h hO (yl_move h rfl) rfl ?_; clear h a; intro a h
  refine callR h rfl rfl p37 (areEntries_spec _ hO (by assumption) (by first | assumption | exact Val.sub (by assumption) (by repeat (first | with_reducible exact List.Sublist.refl _ | with_reducible refine List.Sublist.cons_cons _ ?_ | refine List.Sublist.cons _ ?_)) | with_reducible exact Val.ext _ _ | exact Val.ent (by first | with_reducible exact mem0 | with_reducible exact memS (mem0) | with_reducible exact memS (memS (mem0)) | with_reducible exact memS (memS (memS (mem0))) | with_reducible exact memS (memS (memS (memS (mem0)))) | with_reducible exact memS (memS (memS (memS (memS (mem0))))) | with_reducible exact memS (memS (memS (memS (memS (memS (mem0)))))) | with_reducible exact memS (memS (memS (memS (memS (memS (memS (mem0))))))) | with_reducible exact memS (memS (memS (memS (memS (memS (memS (memS (mem0)))))))) | with_reducible exact memS (memS (memS (memS (memS (memS (memS (memS (memS (mem0))))))))) | with_reducible exact memS (memS (memS (memS (memS (memS (memS (memS (memS (memS (mem0)))))))))) | with_reducible exact memS (memS (memS (memS (memS (memS (memS (memS (memS (memS (memS (mem0))))))))))) | with_reducible exact memS (memS (memS (memS (memS (memS (memS (memS (memS (memS (memS (memS (mem0)))))))))))) | with_reducible exact memS (memS (memS (memS (memS (memS (memS (memS (memS (memS (memS (memS (memS (mem0)))))))))))))))) rfl ?_; clear h a hO w
  rintro _ w ⟨rfl, hO⟩ a h
  refine so h hO (yl_not h rfl) rfl ?_; clear h a; intro a h
  refine endL ?_
  refine then_n ?_
  refine cond_s h rfl (fun hb1 => ?_) (fun hb1 => ?_)
  · have hp1 := hb1
    try simp only [decide_eq_true_eq, decide_eq_false_iff_not, Bool.not_eq_true', Bool.not_eq_false', Int.not_lt, Int.not_le, ne_eq, Decidable.not_not] at hp1
    refine seq ?_
    refine region ?_
    refine so h hO (yl_assign h rfl) rfl ?_; clear h a; intro a h
    refine so h hO (yl_assign h rfl) rfl ?_; clear h a; intro a h
    refine endL ?_
    refine then_n ?_
    refine retc ?_
    refine then_r (ret2 h hO Try.results8 (.tmp rfl (.tmp rfl .nil)) ?_)
    refine Ret.mk ?_
    have hok : ok xs = false := by simpa using hb1
    rw [hok]
    exact ⟨_, [], rfl, Rd.nil _ _ _ _ (by decide), hO.nilE⟩
  · have hp1 := hb1
    try simp only [decide_eq_true_eq, decide_eq_false_iff_not, Bool.not_eq_true', Bool.not_eq_false', Int.not_lt, Int.not_le, ne_eq, Decidable.not_not] at hp1
    refine skip ?_
    refine then_n ?_
    refine seq ?_
    refine region ?_
    have hok : ok xs = true := by simpa using hb1
    have hsm := (ok_spec hok).2
    have hb := (ok_spec hok).1
    refine so h hO (yl_move h rfl) rfl ?_; clear h a; intro a h
    refine callR h rfl rfl p33 (books_spec _ hO (by assumption) (by first | assumption | exact Val.sub (by assumption) (by repeat (first | with_reducible exact List.Sublist.refl _ | with_reducible refine List.Sublist.cons_cons _ ?_ | refine List.Sublist.cons _ ?_)) | with_reducible exact Val.ext _ _ | exact Val.ent (by first | with_reducible exact mem0 | with_reducible exact memS (mem0) | with_reducible exact memS (memS (mem0)) | with_reducible exact memS (memS (memS (mem0))) | with_reducible exact memS (memS (memS (memS (mem0)))) | with_reducible exact memS (memS (memS (memS (memS (mem0))))) | with_reducible exact memS (memS (memS (memS (memS (memS (mem0)))))) | with_reducible exact memS (memS (memS (memS (memS (memS (memS (mem0))))))) | with_reducible exact memS (memS (memS (memS (memS (memS (memS (memS (mem0)))))))) | with_reducible exact memS (memS (memS (memS (memS (memS (memS (memS (memS (mem0))))))))) | with_reducible exact memS (memS (memS (memS (memS (memS (memS (memS (memS (memS (mem0)))))))))) | with_reducible exact memS (memS (memS (memS (memS (memS (memS (memS (memS (memS (memS (mem0))))))))))) | with_reducible exact memS (memS (memS (memS (memS (memS (memS (memS (memS (memS (memS (memS (mem0)))))))))))) | with_reducible exact memS (memS (memS (memS (memS (memS (memS (memS (memS (memS (memS (memS (memS (mem0))))))))))))))) (by assumption) (by omega)) rfl ?_; clear h a hO w
    rintro _ w ⟨v1, v2, e1, e2, rfl, hR, hMf, hO⟩ a h
    obtain ⟨hs, ⟨A1, c1, rfl, hc1, hr1⟩, hAll⟩ := hR
    obtain ⟨A2, c2, rfl, hc2⟩ := hMf.form
    have hl1 := hAll.length
    rw [rows_length] at hl1
    refine so h hO (yl_move h rfl) rfl ?_; clear h a; intro a h
    refine so h hO (yl_extract h rfl rfl) rfl ?_; clear h a; intro a h
    refine so h hO (yl_extract h rfl rfl) rfl ?_; clear h a; intro a h
    refine so h hO (yl_assign h rfl) rfl ?_; clear h a; intro a h
    refine so h hO (yl_assign h rfl) rfl ?_; clear h a; intro a h
    refine endL ?_
    refine then_n ?_
    refine seq ?_
    refine region ?_
    refine so h hO (yl_move h rfl) rfl ?_; clear h a; intro a h
    refine so h hO (yl_assign h rfl) rfl ?_; clear h a; intro a h
    refine so h hO (yl_assign h rfl) rfl ?_; clear h a; intro a h
    refine endL ?_
    refine then_n ?_
    refine retc ?_
    refine ret2 h hO Try.results8 (.tmp rfl (.tmp rfl .nil)) ?_
    refine Ret.mk ?_
    rw [hok]
    exact ⟨_, _, rfl, hMf.rd, (by exact hO.sub (by repeat (first | with_reducible exact List.Sublist.refl _ | with_reducible refine List.Sublist.cons_cons _ ?_ | refine List.Sublist.cons _ ?_)))⟩
set_option maxHeartbeats 4000000 in
theorem FaultsOf_s (xs : List Int) {v : Value} {H : Nat → Obj → Prop} {w0 w : World} {L : List Ent} (hO : OwnE w0 w L) (hv : Rd I 1 H xs v) (hH : Val w0 L H) : Calls Try.prog 9 ⟨[v]⟩ w (Ret (fun v w => ∃ v1 e, v = .tuple ⟨[v1, .bool (ok xs)]⟩ ∧ Rd I 1 (inE e) (if ok xs then faults xs else []) v1 ∧ OwnE w0 w (e :: L))) := by
  refine enter Try.func9 rfl Try.ntmps9 rfl ?_
  intro a h
  have hv0 := hv
  obtain ⟨A, c, rfl, hc, hr⟩ := hv
  refine seq ?_
  refine region ?_
  refine so h hO (yl_assign h rfl) rfl ?_; clear h a; intro a h
  refine so h hO (yl_assign h rfl) rfl ?_; clear h a; intro a h
  refine endL ?_
  refine then_n ?_
  refine seq ?_
  refine seq ?_
  refine region ?_
  refine so h hO (yl_move h rfl) rfl ?_; clear h a; intro a h
  refine callR h rfl rfl p38 (l7Good_spec _ hO (by assumption) (by first | assumption | exact Val.sub (by assumption) (by repeat (first | with_reducible exact List.Sublist.refl _ | with_reducible refine List.Sublist.cons_cons _ ?_ | refine List.Sublist.cons _ ?_)) | with_reducible exact Val.ext _ _ | exact Val.ent (by first | with_reducible exact mem0 | with_reducible exact memS (mem0) | with_reducible exact memS (memS (mem0)) | with_reducible exact memS (memS (memS (mem0))) | with_reducible exact memS (memS (memS (memS (mem0)))) | with_reducible exact memS (memS (memS (memS (memS (mem0))))) | with_reducible exact memS (memS (memS (memS (memS (memS (mem0)))))) | with_reducible exact memS (memS (memS (memS (memS (memS (memS (mem0))))))) | with_reducible exact memS (memS (memS (memS (memS (memS (memS (memS (mem0)))))))) | with_reducible exact memS (memS (memS (memS (memS (memS (memS (memS (memS (mem0))))))))) | with_reducible exact memS (memS (memS (memS (memS (memS (memS (memS (memS (memS (mem0)))))))))) | with_reducible exact memS (memS (memS (memS (memS (memS (memS (memS (memS (memS (memS (mem0))))))))))) | with_reducible exact memS (memS (memS (memS (memS (memS (memS (memS (memS (memS (memS (memS (mem0)))))))))))) | with_reducible exact memS (memS (memS (memS (memS (memS (memS (memS (memS (memS (memS (memS (memS (mem0)))))))))))))))) rfl ?_; clear h a hO w
  rintro _ w ⟨rfl, hO⟩ a h
  refine so h hO (yl_not h rfl) rfl ?_; clear h a; intro a h
  refine endL ?_
  refine then_n ?_
  refine cond_s h rfl (fun hb1 => ?_) (fun hb1 => ?_)
  · have hp1 := hb1
    try simp only [decide_eq_true_eq, decide_eq_false_iff_not, Bool.not_eq_true', Bool.not_eq_false', Int.not_lt, Int.not_le, ne_eq, Decidable.not_not] at hp1
    refine seq ?_
    refine region ?_
    refine stepBuildAll (us := []) h hO rfl p0 rfl p4 rfl rfl rfl rfl rfl ?_; clear h hO a w; intro a b9 w h hO
    refine so h hO (yl_assign h rfl) rfl ?_; clear h a; intro a h
    refine so h hO (yl_assign h rfl) rfl ?_; clear h a; intro a h
    refine endL ?_
    refine then_n ?_
    refine retc ?_
    refine then_r (ret2 h hO Try.results9 (.tmp rfl (.tmp rfl .nil)) ?_)
    refine Ret.mk ?_
    have hok : ok xs = false := by simpa using hb1
    rw [hok]
    exact ⟨_, _, rfl, Rd.nil _ _ _ _ (by decide), hO⟩
  · have hp1 := hb1
    try simp only [decide_eq_true_eq, decide_eq_false_iff_not, Bool.not_eq_true', Bool.not_eq_false', Int.not_lt, Int.not_le, ne_eq, Decidable.not_not] at hp1
    refine skip ?_
    refine then_n ?_
    refine seq ?_
    refine region ?_
    have hok : ok xs = true := by simpa using hb1
    have hsm := (ok_spec hok).2
    have hb := (ok_spec hok).1
    refine so h hO (yl_move h rfl) rfl ?_; clear h a; intro a h
    refine callR h rfl rfl p36 (l7Read_spec _ hO (by assumption) (by first | assumption | exact Val.sub (by assumption) (by repeat (first | with_reducible exact List.Sublist.refl _ | with_reducible refine List.Sublist.cons_cons _ ?_ | refine List.Sublist.cons _ ?_)) | with_reducible exact Val.ext _ _ | exact Val.ent (by first | with_reducible exact mem0 | with_reducible exact memS (mem0) | with_reducible exact memS (memS (mem0)) | with_reducible exact memS (memS (memS (mem0))) | with_reducible exact memS (memS (memS (memS (mem0)))) | with_reducible exact memS (memS (memS (memS (memS (mem0))))) | with_reducible exact memS (memS (memS (memS (memS (memS (mem0)))))) | with_reducible exact memS (memS (memS (memS (memS (memS (memS (mem0))))))) | with_reducible exact memS (memS (memS (memS (memS (memS (memS (memS (mem0)))))))) | with_reducible exact memS (memS (memS (memS (memS (memS (memS (memS (memS (mem0))))))))) | with_reducible exact memS (memS (memS (memS (memS (memS (memS (memS (memS (memS (mem0)))))))))) | with_reducible exact memS (memS (memS (memS (memS (memS (memS (memS (memS (memS (memS (mem0))))))))))) | with_reducible exact memS (memS (memS (memS (memS (memS (memS (memS (memS (memS (memS (memS (mem0)))))))))))) | with_reducible exact memS (memS (memS (memS (memS (memS (memS (memS (memS (memS (memS (memS (memS (mem0))))))))))))))) (by assumption) (by omega)) rfl ?_; clear h a hO w
    rintro _ w ⟨v1, v2, e1, e2, rfl, hM1, hM2, hO⟩ a h
    obtain ⟨A1, c1, rfl, hc1⟩ := hM1.form
    obtain ⟨A2, c2, rfl, hc2⟩ := hM2.form
    have hrd1 := hM1.rd
    have hrd2 := hM2.rd
    have hr1 := hM1.rr
    have hr2 := hM2.rr
    refine so h hO (yl_move h rfl) rfl ?_; clear h a; intro a h
    refine so h hO (yl_extract h rfl rfl) rfl ?_; clear h a; intro a h
    refine so h hO (yl_extract h rfl rfl) rfl ?_; clear h a; intro a h
    refine so h hO (yl_assign h rfl) rfl ?_; clear h a; intro a h
    refine so h hO (yl_assign h rfl) rfl ?_; clear h a; intro a h
    refine endL ?_
    refine then_n ?_
    refine seq ?_
    refine region ?_
    refine so h hO (yl_move h rfl) rfl ?_; clear h a; intro a h
    refine so h hO (yl_assign h rfl) rfl ?_; clear h a; intro a h
    refine so h hO (yl_assign h rfl) rfl ?_; clear h a; intro a h
    refine endL ?_
    refine then_n ?_
    refine retc ?_
    refine ret2 h hO Try.results9 (.tmp rfl (.tmp rfl .nil)) ?_
    refine Ret.mk ?_
    rw [hok]
    exact ⟨_, _, rfl, hM2.rd, (by exact hO.sub (by repeat (first | with_reducible exact List.Sublist.refl _ | with_reducible refine List.Sublist.cons_cons _ ?_ | refine List.Sublist.cons _ ?_)))⟩
set_option maxHeartbeats 4000000 in
theorem IsTidy_i (xs : List Int) {v : Value} {H : Nat → Obj → Prop} {w0 w : World} {L : List Ent} (hO : OwnE w0 w L) (hv : Rd I 1 H xs v) (hH : Val w0 L H) : Calls Try.prog 10 ⟨[v]⟩ w (Ret (fun v w => v = .tuple ⟨[.bool (ok xs && tidy xs), .bool (ok xs)]⟩ ∧ OwnE w0 w L)) := by
  refine enter Try.func10 rfl Try.ntmps10 rfl ?_
  intro a h
  have hv0 := hv
  obtain ⟨A, c, rfl, hc, hr⟩ := hv
  refine seq ?_
  refine region ?_
  refine so h hO (yl_assign h rfl) rfl ?_; clear h a; intro a h
  refine so h hO (yl_assign h rfl) rfl ?_; clear h a; intro a h
  refine endL ?_
  refine then_n ?_
  refine seq ?_
  refine seq ?_
  refine region ?_
  refine so h hO (yl_move h rfl) rfl ?_; clear h a; intro a h
  refine callR h rfl rfl p37 (areEntries_spec _ hO (by assumption) (by first | assumption | exact Val.sub (by assumption) (by repeat (first | with_reducible exact List.Sublist.refl _ | with_reducible refine List.Sublist.cons_cons _ ?_ | refine List.Sublist.cons _ ?_)) | with_reducible exact Val.ext _ _ | exact Val.ent (by first | with_reducible exact mem0 | with_reducible exact memS (mem0) | with_reducible exact memS (memS (mem0)) | with_reducible exact memS (memS (memS (mem0))) | with_reducible exact memS (memS (memS (memS (mem0)))) | with_reducible exact memS (memS (memS (memS (memS (mem0))))) | with_reducible exact memS (memS (memS (memS (memS (memS (mem0)))))) | with_reducible exact memS (memS (memS (memS (memS (memS (memS (mem0))))))) | with_reducible exact memS (memS (memS (memS (memS (memS (memS (memS (mem0)))))))) | with_reducible exact memS (memS (memS (memS (memS (memS (memS (memS (memS (mem0))))))))) | with_reducible exact memS (memS (memS (memS (memS (memS (memS (memS (memS (memS (mem0)))))))))) | with_reducible exact memS (memS (memS (memS (memS (memS (memS (memS (memS (memS (memS (mem0))))))))))) | with_reducible exact memS (memS (memS (memS (memS (memS (memS (memS (memS (memS (memS (memS (mem0)))))))))))) | with_reducible exact memS (memS (memS (memS (memS (memS (memS (memS (memS (memS (memS (memS (memS (mem0)))))))))))))))) rfl ?_; clear h a hO w
  rintro _ w ⟨rfl, hO⟩ a h
  refine so h hO (yl_not h rfl) rfl ?_; clear h a; intro a h
  refine endL ?_
  refine then_n ?_
  refine cond_s h rfl (fun hb1 => ?_) (fun hb1 => ?_)
  · have hp1 := hb1
    try simp only [decide_eq_true_eq, decide_eq_false_iff_not, Bool.not_eq_true', Bool.not_eq_false', Int.not_lt, Int.not_le, ne_eq, Decidable.not_not] at hp1
    refine seq ?_
    refine region ?_
    refine so h hO (yl_assign h rfl) rfl ?_; clear h a; intro a h
    refine so h hO (yl_assign h rfl) rfl ?_; clear h a; intro a h
    refine endL ?_
    refine then_n ?_
    refine retc ?_
    refine then_r (ret2 h hO Try.results10 (.tmp rfl (.tmp rfl .nil)) ?_)
    refine Ret.mk ?_
    have hok : ok xs = false := by simpa using hb1
    rw [hok]
    exact ⟨rfl, hO⟩
  · have hp1 := hb1
    try simp only [decide_eq_true_eq, decide_eq_false_iff_not, Bool.not_eq_true', Bool.not_eq_false', Int.not_lt, Int.not_le, ne_eq, Decidable.not_not] at hp1
    refine skip ?_
    refine then_n ?_
    refine seq ?_
    refine region ?_
    have hok : ok xs = true := by simpa using hb1
    have hsm := (ok_spec hok).2
    have hb := (ok_spec hok).1
    refine so h hO (yl_move h rfl) rfl ?_; clear h a; intro a h
    refine callR h rfl rfl p39 (isTidy_spec _ hO (by assumption) (by first | assumption | exact Val.sub (by assumption) (by repeat (first | with_reducible exact List.Sublist.refl _ | with_reducible refine List.Sublist.cons_cons _ ?_ | refine List.Sublist.cons _ ?_)) | with_reducible exact Val.ext _ _ | exact Val.ent (by first | with_reducible exact mem0 | with_reducible exact memS (mem0) | with_reducible exact memS (memS (mem0)) | with_reducible exact memS (memS (memS (mem0))) | with_reducible exact memS (memS (memS (memS (mem0)))) | with_reducible exact memS (memS (memS (memS (memS (mem0))))) | with_reducible exact memS (memS (memS (memS (memS (memS (mem0)))))) | with_reducible exact memS (memS (memS (memS (memS (memS (memS (mem0))))))) | with_reducible exact memS (memS (memS (memS (memS (memS (memS (memS (mem0)))))))) | with_reducible exact memS (memS (memS (memS (memS (memS (memS (memS (memS (mem0))))))))) | with_reducible exact memS (memS (memS (memS (memS (memS (memS (memS (memS (memS (mem0)))))))))) | with_reducible exact memS (memS (memS (memS (memS (memS (memS (memS (memS (memS (memS (mem0))))))))))) | with_reducible exact memS (memS (memS (memS (memS (memS (memS (memS (memS (memS (memS (memS (mem0)))))))))))) | with_reducible exact memS (memS (memS (memS (memS (memS (memS (memS (memS (memS (memS (memS (memS (mem0))))))))))))))) (by assumption) (by omega)) rfl ?_; clear h a hO w
    rintro _ w ⟨rfl, hO⟩ a h
    refine so h hO (yl_assign h rfl) rfl ?_; clear h a; intro a h
    refine so h hO (yl_assign h rfl) rfl ?_; clear h a; intro a h
    refine endL ?_
    refine then_n ?_
    refine retc ?_
    refine ret2 h hO Try.results10 (.tmp rfl (.tmp rfl .nil)) ?_
    refine Ret.mk ?_
    rw [hok]
    exact ⟨rfl, hO⟩
set_option maxHeartbeats 4000000 in
theorem IsTidy_s (xs : List Int) {v : Value} {H : Nat → Obj → Prop} {w0 w : World} {L : List Ent} (hO : OwnE w0 w L) (hv : Rd I 1 H xs v) (hH : Val w0 L H) : Calls Try.prog 11 ⟨[v]⟩ w (Ret (fun v w => v = .tuple ⟨[.bool (ok xs && tidy xs), .bool (ok xs)]⟩ ∧ OwnE w0 w L)) := by
  refine enter Try.func11 rfl Try.ntmps11 rfl ?_
  intro a h
  have hv0 := hv
  obtain ⟨A, c, rfl, hc, hr⟩ := hv
  refine seq ?_
  refine region ?_
  refine so h hO (yl_assign h rfl) rfl ?_; clear h a; intro a h
  refine so h hO (yl_assign h rfl) rfl ?_; clear h a; intro a h
  refine endL ?_
  refine then_n ?_
  refine seq ?_
  refine seq ?_
  refine region ?_
  refine so h hO (yl_move h rfl) rfl ?_; clear h a; intro a h
  refine callR h rfl rfl p38 (l7Good_spec _ hO (by assumption) (by first | assumption | exact Val.sub (by assumption) (by repeat (first | with_reducible exact List.Sublist.refl _ | with_reducible refine List.Sublist.cons_cons _ ?_ | refine List.Sublist.cons _ ?_)) | with_reducible exact Val.ext _ _ | exact Val.ent (by first | with_reducible exact mem0 | with_reducible exact memS (mem0) | with_reducible exact memS (memS (mem0)) | with_reducible exact memS (memS (memS (mem0))) | with_reducible exact memS (memS (memS (memS (mem0)))) | with_reducible exact memS (memS (memS (memS (memS (mem0))))) | with_reducible exact memS (memS (memS (memS (memS (memS (mem0)))))) | with_reducible exact memS (memS (memS (memS (memS (memS (memS (mem0))))))) | with_reducible exact memS (memS (memS (memS (memS (memS (memS (memS (mem0)))))))) | with_reducible exact memS (memS (memS (memS (memS (memS (memS (memS (memS (mem0))))))))) | with_reducible exact memS (memS (memS (memS (memS (memS (memS (memS (memS (memS (mem0)))))))))) | with_reducible exact memS (memS (memS (memS (memS (memS (memS (memS (memS (memS (memS (mem0))))))))))) | with_reducible exact memS (memS (memS (memS (memS (memS (memS (memS (memS (memS (memS (memS (mem0)))))))))))) | with_reducible exact memS (memS (memS (memS (memS (memS (memS (memS (memS (memS (memS (memS (memS (mem0)))))))))))))))) rfl ?_; clear h a hO w
  rintro _ w ⟨rfl, hO⟩ a h
  refine so h hO (yl_not h rfl) rfl ?_; clear h a; intro a h
  refine endL ?_
  refine then_n ?_
  refine cond_s h rfl (fun hb1 => ?_) (fun hb1 => ?_)
  · have hp1 := hb1
    try simp only [decide_eq_true_eq, decide_eq_false_iff_not, Bool.not_eq_true', Bool.not_eq_false', Int.not_lt, Int.not_le, ne_eq, Decidable.not_not] at hp1
    refine seq ?_
    refine region ?_
    refine so h hO (yl_assign h rfl) rfl ?_; clear h a; intro a h
    refine so h hO (yl_assign h rfl) rfl ?_; clear h a; intro a h
    refine endL ?_
    refine then_n ?_
    refine retc ?_
    refine then_r (ret2 h hO Try.results11 (.tmp rfl (.tmp rfl .nil)) ?_)
    refine Ret.mk ?_
    have hok : ok xs = false := by simpa using hb1
    rw [hok]
    exact ⟨rfl, hO⟩
  · have hp1 := hb1
    try simp only [decide_eq_true_eq, decide_eq_false_iff_not, Bool.not_eq_true', Bool.not_eq_false', Int.not_lt, Int.not_le, ne_eq, Decidable.not_not] at hp1
    refine skip ?_
    refine then_n ?_
    refine seq ?_
    refine region ?_
    have hok : ok xs = true := by simpa using hb1
    have hsm := (ok_spec hok).2
    have hb := (ok_spec hok).1
    refine so h hO (yl_move h rfl) rfl ?_; clear h a; intro a h
    refine callR h rfl rfl p40 (l7Tidy_spec _ hO (by assumption) (by first | assumption | exact Val.sub (by assumption) (by repeat (first | with_reducible exact List.Sublist.refl _ | with_reducible refine List.Sublist.cons_cons _ ?_ | refine List.Sublist.cons _ ?_)) | with_reducible exact Val.ext _ _ | exact Val.ent (by first | with_reducible exact mem0 | with_reducible exact memS (mem0) | with_reducible exact memS (memS (mem0)) | with_reducible exact memS (memS (memS (mem0))) | with_reducible exact memS (memS (memS (memS (mem0)))) | with_reducible exact memS (memS (memS (memS (memS (mem0))))) | with_reducible exact memS (memS (memS (memS (memS (memS (mem0)))))) | with_reducible exact memS (memS (memS (memS (memS (memS (memS (mem0))))))) | with_reducible exact memS (memS (memS (memS (memS (memS (memS (memS (mem0)))))))) | with_reducible exact memS (memS (memS (memS (memS (memS (memS (memS (memS (mem0))))))))) | with_reducible exact memS (memS (memS (memS (memS (memS (memS (memS (memS (memS (mem0)))))))))) | with_reducible exact memS (memS (memS (memS (memS (memS (memS (memS (memS (memS (memS (mem0))))))))))) | with_reducible exact memS (memS (memS (memS (memS (memS (memS (memS (memS (memS (memS (memS (mem0)))))))))))) | with_reducible exact memS (memS (memS (memS (memS (memS (memS (memS (memS (memS (memS (memS (memS (mem0))))))))))))))) (by assumption) (by omega)) rfl ?_; clear h a hO w
    rintro _ w ⟨rfl, hO⟩ a h
    refine so h hO (yl_assign h rfl) rfl ?_; clear h a; intro a h
    refine so h hO (yl_assign h rfl) rfl ?_; clear h a; intro a h
    refine endL ?_
    refine then_n ?_
    refine retc ?_
    refine ret2 h hO Try.results11 (.tmp rfl (.tmp rfl .nil)) ?_
    refine Ret.mk ?_
    rw [hok]
    exact ⟨rfl, hO⟩
end Go.Proofs.Ytebfglbnemahiaa
