import Derived.Test.YtebfglbnemahiaaProg
import Derived.Test.YtebfglbnemahiaaE7
import Derived.Test.YtebfglbnemahiaaM1
namespace Go.Proofs.Ytebfglbnemahiaa
open Go.RowKit Go.E Go.Ents
set_option linter.unusedVariables false
set_option linter.unusedSimpArgs false
theorem p0 : sliceB Try.prog 24 3 1 = true := by kernel_rfl
theorem p1 : scalarB Try.prog 3 = true := by kernel_rfl
theorem p2 : ((Try.prog.funcs[33]?).any fun fn => fn.body.isSome && fn.name != "runtime.NumGoroutine") = true := by kernel_rfl
theorem p3 : ((Try.prog.funcs[50]?).any fun fn => fn.body.isSome && fn.name != "runtime.NumGoroutine") = true := by kernel_rfl
theorem p4 : (Try.prog.info? 3).bind (·.zero) = some (.int .i64 0) := by kernel_rfl
theorem p5 : appB Try.prog 24 3 1 = true := by kernel_rfl
theorem p6 : fieldB Try.prog 41 1 1 3 = true := by kernel_rfl
theorem p7 : fieldB Try.prog 41 0 0 22 = true := by kernel_rfl
theorem p8 : scalarB Try.prog 22 = true := by kernel_rfl
theorem p9 : sliceB Try.prog 22 5 1 = true := by kernel_rfl
theorem p10 : scalarB Try.prog 5 = true := by kernel_rfl
theorem p11 : intB Try.prog 5 .u8 = true := by kernel_rfl
theorem p12 : intB Try.prog 3 .i64 = true := by kernel_rfl
theorem p13 : sizeB Try.prog 3 1 = true := by kernel_rfl
theorem p14 : fieldB Try.prog 41 2 2 39 = true := by kernel_rfl
theorem p15 : scalarB Try.prog 39 = true := by kernel_rfl
theorem p16 : intB Try.prog 39 .u64 = true := by kernel_rfl
theorem p17 : sizeB Try.prog 39 1 = true := by kernel_rfl
theorem p18 : ((Try.prog.funcs[49]?).any fun fn => fn.body.isSome && fn.name != "runtime.NumGoroutine") = true := by kernel_rfl
theorem p19 : ((Try.prog.funcs[39]?).any fun fn => fn.body.isSome && fn.name != "runtime.NumGoroutine") = true := by kernel_rfl
theorem p20 : ((Try.prog.funcs[32]?).any fun fn => fn.body.isSome && fn.name != "runtime.NumGoroutine") = true := by kernel_rfl
theorem p21 : ((Try.prog.funcs[37]?).any fun fn => fn.body.isSome && fn.name != "runtime.NumGoroutine") = true := by kernel_rfl
theorem p22 : boolB Try.prog 4 = true := by kernel_rfl
theorem p23 : ((Try.prog.funcs[46]?).any fun fn => fn.body.isSome && fn.name != "runtime.NumGoroutine") = true := by kernel_rfl
theorem p24 : sliceB Try.prog 47 24 1 = true := by kernel_rfl
theorem p25 : (Try.prog.info? 24).bind (·.zero) = some (.slice none 0 0) := by kernel_rfl
theorem p26 : ((Try.prog.funcs[31]?).any fun fn => fn.body.isSome && fn.name != "runtime.NumGoroutine") = true := by kernel_rfl
theorem p27 : ((Try.prog.funcs[47]?).any fun fn => fn.body.isSome && fn.name != "runtime.NumGoroutine") = true := by kernel_rfl
theorem p28 : appB Try.prog 47 24 1 = true := by kernel_rfl
set_option maxHeartbeats 4000000 in
theorem l1In_spec (n lo hi : Int) {w0 w : World} {L : List Ent} (hO : OwnE w0 w L) : Calls Try.prog 45 ⟨[.int .i64 n, .int .i64 lo, .int .i64 hi]⟩ w (Ret (fun v w => v = .bool (decide (lo ≤ n ∧ n ≤ hi)) ∧ OwnE w0 w L)) := by
  refine enter Try.func45 rfl Try.ntmps45 rfl ?_
  intro a h
  refine seq ?_
  refine region ?_
  refine so h hO (yl_assign h rfl) rfl ?_; clear h a; intro a h
  refine endL ?_
  refine then_n ?_
  refine seq ?_
  refine region ?_
  refine so h hO (yl_move h rfl) rfl ?_; clear h a; intro a h
  refine so h hO (yl_move h rfl) rfl ?_; clear h a; intro a h
  refine so h hO (yl_ge h rfl rfl) rfl ?_; clear h a; intro a h
  refine so h hO (yl_move h rfl) rfl ?_; clear h a; intro a h
  refine split h 10 rfl (fun hb1 => ?_) (fun hb1 => ?_)
  · have hp1 := hb1
    try simp only [decide_eq_true_eq, decide_eq_false_iff_not, Bool.not_eq_true', Bool.not_eq_false', Int.not_lt, Int.not_le, ne_eq, Decidable.not_not] at hp1
    refine sog h hO (j := 3) rfl rfl hb1 (yl_move h rfl) rfl ?_; clear h a; intro a h
    refine sog h hO (j := 3) rfl rfl hb1 (yl_move h rfl) rfl ?_; clear h a; intro a h
    refine sog h hO (j := 3) rfl rfl hb1 (yl_le h rfl rfl) rfl ?_; clear h a; intro a h
    refine so h hO (yl_pick_t h rfl hb1 rfl) rfl ?_; clear h a; intro a h
    refine so h hO (yl_assign h rfl) rfl ?_; clear h a; intro a h
    refine endL ?_
    refine then_n ?_
    refine retc ?_
    refine ret1 h hO Try.results45 (.tmp rfl .nil) ?_
    refine Ret.mk ?_
    refine ⟨?_, hO⟩
    (first | exact congrArg Value.bool (decide_eq_decide.2 (by omega)) | exact congrArg Value.bool (decide_eq_true (by omega)).symm | exact congrArg Value.bool (decide_eq_false (by omega)).symm)
  · have hp1 := hb1
    try simp only [decide_eq_true_eq, decide_eq_false_iff_not, Bool.not_eq_true', Bool.not_eq_false', Int.not_lt, Int.not_le, ne_eq, Decidable.not_not] at hp1
    refine son h (j := 3) rfl rfl hb1 rfl ?_; clear h a; intro a h
    refine son h (j := 3) rfl rfl hb1 rfl ?_; clear h a; intro a h
    refine son h (j := 3) rfl rfl hb1 rfl ?_; clear h a; intro a h
    refine so h hO (yl_pick_f h rfl hb1 rfl) rfl ?_; clear h a; intro a h
    refine so h hO (yl_assign h rfl) rfl ?_; clear h a; intro a h
    refine endL ?_
    refine then_n ?_
    refine retc ?_
    refine ret1 h hO Try.results45 (.tmp rfl .nil) ?_
    refine Ret.mk ?_
    refine ⟨?_, hO⟩
    (first | exact congrArg Value.bool (decide_eq_decide.2 (by omega)) | exact congrArg Value.bool (decide_eq_true (by omega)).symm | exact congrArg Value.bool (decide_eq_false (by omega)).symm)
set_option maxHeartbeats 4000000 in
theorem in_spec (n lo hi : Int) {w0 w : World} {L : List Ent} (hO : OwnE w0 w L) : Calls Try.prog 44 ⟨[.int .i64 n, .int .i64 lo, .int .i64 hi]⟩ w (Ret (fun v w => v = .bool (decide (lo ≤ n ∧ n ≤ hi)) ∧ OwnE w0 w L)) := by
  refine enter Try.func44 rfl Try.ntmps44 rfl ?_
  intro a h
  refine seq ?_
  refine region ?_
  refine so h hO (yl_assign h rfl) rfl ?_; clear h a; intro a h
  refine endL ?_
  refine then_n ?_
  refine seq ?_
  refine region ?_
  refine so h hO (yl_move h rfl) rfl ?_; clear h a; intro a h
  refine so h hO (yl_move h rfl) rfl ?_; clear h a; intro a h
  refine so h hO (yl_le h rfl rfl) rfl ?_; clear h a; intro a h
  refine so h hO (yl_move h rfl) rfl ?_; clear h a; intro a h
  refine split h 10 rfl (fun hb1 => ?_) (fun hb1 => ?_)
  · have hp1 := hb1
    try simp only [decide_eq_true_eq, decide_eq_false_iff_not, Bool.not_eq_true', Bool.not_eq_false', Int.not_lt, Int.not_le, ne_eq, Decidable.not_not] at hp1
    refine sog h hO (j := 3) rfl rfl hb1 (yl_move h rfl) rfl ?_; clear h a; intro a h
    refine sog h hO (j := 3) rfl rfl hb1 (yl_move h rfl) rfl ?_; clear h a; intro a h
    refine sog h hO (j := 3) rfl rfl hb1 (yl_le h rfl rfl) rfl ?_; clear h a; intro a h
    refine so h hO (yl_pick_t h rfl hb1 rfl) rfl ?_; clear h a; intro a h
    refine so h hO (yl_assign h rfl) rfl ?_; clear h a; intro a h
    refine endL ?_
    refine then_n ?_
    refine retc ?_
    refine ret1 h hO Try.results44 (.tmp rfl .nil) ?_
    refine Ret.mk ?_
    refine ⟨?_, hO⟩
    (first | exact congrArg Value.bool (decide_eq_decide.2 (by omega)) | exact congrArg Value.bool (decide_eq_true (by omega)).symm | exact congrArg Value.bool (decide_eq_false (by omega)).symm)
  · have hp1 := hb1
    try simp only [decide_eq_true_eq, decide_eq_false_iff_not, Bool.not_eq_true', Bool.not_eq_false', Int.not_lt, Int.not_le, ne_eq, Decidable.not_not] at hp1
    refine son h (j := 3) rfl rfl hb1 rfl ?_; clear h a; intro a h
    refine son h (j := 3) rfl rfl hb1 rfl ?_; clear h a; intro a h
    refine son h (j := 3) rfl rfl hb1 rfl ?_; clear h a; intro a h
    refine so h hO (yl_pick_f h rfl hb1 rfl) rfl ?_; clear h a; intro a h
    refine so h hO (yl_assign h rfl) rfl ?_; clear h a; intro a h
    refine endL ?_
    refine then_n ?_
    refine retc ?_
    refine ret1 h hO Try.results44 (.tmp rfl .nil) ?_
    refine Ret.mk ?_
    refine ⟨?_, hO⟩
    (first | exact congrArg Value.bool (decide_eq_decide.2 (by omega)) | exact congrArg Value.bool (decide_eq_true (by omega)).symm | exact congrArg Value.bool (decide_eq_false (by omega)).symm)
set_option maxHeartbeats 4000000 in
theorem l1Most_spec (a b : Int) {w0 w : World} {L : List Ent} (hO : OwnE w0 w L) : Calls Try.prog 32 ⟨[.int .i64 a, .int .i64 b]⟩ w (Ret (fun v w => v = .int .i64 (max a b) ∧ OwnE w0 w L)) := by
  refine enter Try.func32 rfl Try.ntmps32 rfl ?_
  intro a h
  refine seq ?_
  refine region ?_
  refine so h hO (yl_assign h rfl) rfl ?_; clear h a; intro a h
  refine endL ?_
  refine then_n ?_
  refine seq ?_
  refine seq ?_
  refine region ?_
  refine so h hO (yl_move h rfl) rfl ?_; clear h a; intro a h
  refine so h hO (yl_move h rfl) rfl ?_; clear h a; intro a h
  refine so h hO (yl_gt h rfl rfl) rfl ?_; clear h a; intro a h
  refine endL ?_
  refine then_n ?_
  refine cond_s h rfl (fun hb1 => ?_) (fun hb1 => ?_)
  · have hp1 := hb1
    try simp only [decide_eq_true_eq, decide_eq_false_iff_not, Bool.not_eq_true', Bool.not_eq_false', Int.not_lt, Int.not_le, ne_eq, Decidable.not_not] at hp1
    refine seq ?_
    refine region ?_
    refine so h hO (yl_move h rfl) rfl ?_; clear h a; intro a h
    refine so h hO (yl_assign h rfl) rfl ?_; clear h a; intro a h
    refine endL ?_
    refine then_n ?_
    refine retc ?_
    refine then_r (ret1 h hO Try.results32 (.tmp rfl .nil) ?_)
    refine Ret.mk ?_
    exact ⟨by congr 1; omega, hO⟩
  · have hp1 := hb1
    try simp only [decide_eq_true_eq, decide_eq_false_iff_not, Bool.not_eq_true', Bool.not_eq_false', Int.not_lt, Int.not_le, ne_eq, Decidable.not_not] at hp1
    refine skip ?_
    refine then_n ?_
    refine seq ?_
    refine region ?_
    refine so h hO (yl_move h rfl) rfl ?_; clear h a; intro a h
    refine so h hO (yl_assign h rfl) rfl ?_; clear h a; intro a h
    refine endL ?_
    refine then_n ?_
    refine retc ?_
    refine ret1 h hO Try.results32 (.tmp rfl .nil) ?_
    refine Ret.mk ?_
    exact ⟨by congr 1; omega, hO⟩
set_option maxHeartbeats 4000000 in
theorem l1Least_spec (a b : Int) {w0 w : World} {L : List Ent} (hO : OwnE w0 w L) : Calls Try.prog 41 ⟨[.int .i64 a, .int .i64 b]⟩ w (Ret (fun v w => v = .int .i64 (min a b) ∧ OwnE w0 w L)) := by
  refine enter Try.func41 rfl Try.ntmps41 rfl ?_
  intro a h
  refine seq ?_
  refine region ?_
  refine so h hO (yl_assign h rfl) rfl ?_; clear h a; intro a h
  refine endL ?_
  refine then_n ?_
  refine seq ?_
  refine seq ?_
  refine region ?_
  refine so h hO (yl_move h rfl) rfl ?_; clear h a; intro a h
  refine so h hO (yl_move h rfl) rfl ?_; clear h a; intro a h
  refine so h hO (yl_lt h rfl rfl) rfl ?_; clear h a; intro a h
  refine endL ?_
  refine then_n ?_
  refine cond_s h rfl (fun hb1 => ?_) (fun hb1 => ?_)
  · have hp1 := hb1
    try simp only [decide_eq_true_eq, decide_eq_false_iff_not, Bool.not_eq_true', Bool.not_eq_false', Int.not_lt, Int.not_le, ne_eq, Decidable.not_not] at hp1
    refine seq ?_
    refine region ?_
    refine so h hO (yl_move h rfl) rfl ?_; clear h a; intro a h
    refine so h hO (yl_assign h rfl) rfl ?_; clear h a; intro a h
    refine endL ?_
    refine then_n ?_
    refine retc ?_
    refine then_r (ret1 h hO Try.results41 (.tmp rfl .nil) ?_)
    refine Ret.mk ?_
    exact ⟨by congr 1; omega, hO⟩
  · have hp1 := hb1
    try simp only [decide_eq_true_eq, decide_eq_false_iff_not, Bool.not_eq_true', Bool.not_eq_false', Int.not_lt, Int.not_le, ne_eq, Decidable.not_not] at hp1
    refine skip ?_
    refine then_n ?_
    refine seq ?_
    refine region ?_
    refine so h hO (yl_move h rfl) rfl ?_; clear h a; intro a h
    refine so h hO (yl_assign h rfl) rfl ?_; clear h a; intro a h
    refine endL ?_
    refine then_n ?_
    refine retc ?_
    refine ret1 h hO Try.results41 (.tmp rfl .nil) ?_
    refine Ret.mk ?_
    exact ⟨by congr 1; omega, hO⟩
set_option maxHeartbeats 4000000 in
theorem l1Has_spec (n : Int) (xs : List Int) {v : Value} {H : Nat → Obj → Prop} {w0 w : World} {L : List Ent} (hO : OwnE w0 w L) (hv : Rd I 1 H xs v) (hH : Val w0 L H) : Calls Try.prog 37 ⟨[v, .int .i64 n]⟩ w (Ret (fun v w => v = .bool (decide (n ∈ xs)) ∧ OwnE w0 w L)) := by
  refine enter Try.func37 rfl Try.ntmps37 rfl ?_
  intro a h
  obtain ⟨A, c, rfl, hc, hr⟩ := hv
  refine seq ?_
  refine region ?_
  refine so h hO (yl_assign h rfl) rfl ?_; clear h a; intro a h
  refine endL ?_
  refine then_n ?_
  refine seq ?_
  refine seq ?_
  refine region ?_
  refine so h hO (yl_assign h rfl) rfl ?_; clear h a; intro a h
  refine endL ?_
  refine then_n ?_
  refine block ?_
  refine loop (fun (k : Nat) a w =>  k ≤ xs.length ∧ (∀ x ∈ xs.take k, x ≠ n) ∧ St 18 [] [(0, .slice A xs.length c), (1, .int .i64 n), (5, .int .i64 k)] a ∧ OwnE w0 w L) (fun k => xs.length - k) 0 ?_ ?_
  · exact ⟨Nat.zero_le _, by simp, h.weak (subB_cons rfl (subB_cons rfl (subB_cons rfl (subB_nil)))), hO⟩
  · clear h a hO w
    rintro k a w ⟨hk, hno, h, hO⟩
    refine seq ?_
    refine seq ?_
    refine region ?_
    refine so h hO (yl_move h rfl) rfl ?_; clear h a; intro a h
    refine so h hO (yl_move h rfl) rfl ?_; clear h a; intro a h
    refine so h hO (yl_len h rfl p0) rfl ?_; clear h a; intro a h
    refine so h hO (yl_lt h rfl rfl) rfl ?_; clear h a; intro a h
    refine endL ?_
    refine then_n ?_
    refine cond_s h rfl (fun hb1 => ?_) (fun hb1 => ?_)
    · have hp1 := hb1
      try simp only [decide_eq_true_eq, decide_eq_false_iff_not, Bool.not_eq_true', Bool.not_eq_false', Int.not_lt, Int.not_le, ne_eq, Decidable.not_not] at hp1
      refine skip ?_
      refine then_n ?_
      refine seq ?_
      refine block ?_
      refine seq ?_
      refine region ?_
      refine so h hO (yl_move h rfl) rfl ?_; clear h a; intro a h
      refine so h hO (yl_move h rfl) rfl ?_; clear h a; intro a h
      refine so h hO (yl_ix h rfl rfl p0 (by assumption) (by simp) (by omega)) rfl ?_; clear h a; intro a h
      refine so h hO (yl_ld1 h rfl p1 (by assumption) (by first | assumption | exact Val.sub (by assumption) (by repeat (first | with_reducible exact List.Sublist.refl _ | with_reducible refine List.Sublist.cons_cons _ ?_ | refine List.Sublist.cons _ ?_)) | with_reducible exact Val.ext _ _ | exact Val.ent (by first | with_reducible exact mem0 | with_reducible exact memS (mem0) | with_reducible exact memS (memS (mem0)) | with_reducible exact memS (memS (memS (mem0))) | with_reducible exact memS (memS (memS (memS (mem0)))) | with_reducible exact memS (memS (memS (memS (memS (mem0))))) | with_reducible exact memS (memS (memS (memS (memS (memS (mem0)))))) | with_reducible exact memS (memS (memS (memS (memS (memS (memS (mem0))))))) | with_reducible exact memS (memS (memS (memS (memS (memS (memS (memS (mem0)))))))) | with_reducible exact memS (memS (memS (memS (memS (memS (memS (memS (memS (mem0))))))))) | with_reducible exact memS (memS (memS (memS (memS (memS (memS (memS (memS (memS (mem0)))))))))) | with_reducible exact memS (memS (memS (memS (memS (memS (memS (memS (memS (memS (memS (mem0))))))))))) | with_reducible exact memS (memS (memS (memS (memS (memS (memS (memS (memS (memS (memS (memS (mem0)))))))))))) | with_reducible exact memS (memS (memS (memS (memS (memS (memS (memS (memS (memS (memS (memS (memS (mem0))))))))))))))) (by omega) (fun _ => rfl)) rfl ?_; clear h a; intro a h
      refine so h hO (yl_move h rfl) rfl ?_; clear h a; intro a h
      refine so h hO (yl_eq h rfl rfl) rfl ?_; clear h a; intro a h
      refine endL ?_
      refine then_n ?_
      refine cond_s h rfl (fun hb2 => ?_) (fun hb2 => ?_)
      · have hp2 := hb2
        try simp only [decide_eq_true_eq, decide_eq_false_iff_not, Bool.not_eq_true', Bool.not_eq_false', Int.not_lt, Int.not_le, ne_eq, Decidable.not_not] at hp2
        refine seq ?_
        refine region ?_
        refine so h hO (yl_assign h rfl) rfl ?_; clear h a; intro a h
        refine endL ?_
        refine then_n ?_
        refine retc ?_
        refine inB_r (then_r (then_r (inB_r (then_r (ret1 h hO Try.results37 (.tmp rfl .nil) ?_)))))
        refine Ret.mk ?_
        have hk1 : k < xs.length := by omega
        try simp only [Int.toNat_natCast] at *
        have hget := getD_eq (xs := xs) hk1
        refine ⟨congrArg Value.bool (decide_eq_true ?_).symm, hO⟩
        rw [← hp2, hget]; exact List.getElem_mem _
      · have hp2 := hb2
        try simp only [decide_eq_true_eq, decide_eq_false_iff_not, Bool.not_eq_true', Bool.not_eq_false', Int.not_lt, Int.not_le, ne_eq, Decidable.not_not] at hp2
        refine skip ?_
        refine inB_n ?_
        refine then_n ?_
        refine region ?_
        refine so h hO (yl_move h rfl) rfl ?_; clear h a; intro a h
        first | (refine so h hO (yl_add64 h rfl rfl (by omega)) rfl ?_) | (refine so h hO (yl_add h rfl rfl) rfl ?_)
        clear h a; intro a h
        refine so h hO (yl_assign h rfl) rfl ?_; clear h a; intro a h
        refine endL ?_
        refine then_n ?_
        have hk1 : k < xs.length := by omega
        try simp only [Int.toNat_natCast] at *
        have ht := getD_take_succ (xs := xs) hk1
        refine ⟨k + 1, by omega, by omega, ?_, h.weak (subB_cons rfl (subB_cons rfl (subB_cons rfl (subB_nil)))), hO⟩
        rw [ht]; intro x hx
        rcases List.mem_append.1 hx with hx | hx
        · exact hno x hx
        · simp at hx; subst hx; simpa using hp2
    · have hp1 := hb1
      try simp only [decide_eq_true_eq, decide_eq_false_iff_not, Bool.not_eq_true', Bool.not_eq_false', Int.not_lt, Int.not_le, ne_eq, Decidable.not_not] at hp1
      refine exit_ ?_
      refine then_x ?_
      refine then_x ?_
      refine inB_same ?_
      refine then_n ?_
      refine seq ?_
      refine region ?_
      refine so h hO (yl_assign h rfl) rfl ?_; clear h a; intro a h
      refine endL ?_
      refine then_n ?_
      refine retc ?_
      refine ret1 h hO Try.results37 (.tmp rfl .nil) ?_
      refine Ret.mk ?_
      have hk1 : k = xs.length := by omega
      subst hk1
      rw [List.take_length] at hno
      exact ⟨congrArg Value.bool (decide_eq_false fun hh => hno n hh rfl).symm, hO⟩
set_option maxHeartbeats 4000000 in
theorem Index_spec (n : Int) (xs : List Int) {v : Value} {H : Nat → Obj → Prop} {w0 w : World} {L : List Ent} (hO : OwnE w0 w L) (hv : Rd I 1 H xs v) (hH : Val w0 L H) : Calls Try.prog 33 ⟨[v, .int .i64 n]⟩ w (Ret (fun v w => v = .int .i64 (idx xs n) ∧ OwnE w0 w L)) := by
  refine enter Try.func33 rfl Try.ntmps33 rfl ?_
  intro a h
  obtain ⟨A, c, rfl, hc, hr⟩ := hv
  refine seq ?_
  refine region ?_
  refine so h hO (yl_assign h rfl) rfl ?_; clear h a; intro a h
  refine endL ?_
  refine then_n ?_
  refine seq ?_
  refine seq ?_
  refine region ?_
  refine so h hO (yl_move h rfl) rfl ?_; clear h a; intro a h
  refine so h hO (yl_len h rfl p0) rfl ?_; clear h a; intro a h
  refine so h hO (yl_move h rfl) rfl ?_; clear h a; intro a h
  refine endL ?_
  refine then_n ?_
  refine block ?_
  refine loop (fun (k : Nat) a w =>  k ≤ xs.length ∧ (∀ x ∈ xs.take k, x ≠ n) ∧ St 19 [] [(0, .slice A xs.length c), (1, .int .i64 n), (7, .int .i64 xs.length), (8, .int .i64 k)] a ∧ OwnE w0 w L) (fun k => xs.length - k) 0 ?_ ?_
  · exact ⟨Nat.zero_le _, by simp, h.weak (subB_cons rfl (subB_cons rfl (subB_cons rfl (subB_cons rfl (subB_nil))))), hO⟩
  · clear h a hO w
    rintro k a w ⟨hk, hno, h, hO⟩
    refine seq ?_
    refine region ?_
    refine so h hO (yl_lt h rfl rfl) rfl ?_; clear h a; intro a h
    refine endL ?_
    refine then_n ?_
    refine seq ?_
    refine cond_s h rfl (fun hb1 => ?_) (fun hb1 => ?_)
    · have hp1 := hb1
      try simp only [decide_eq_true_eq, decide_eq_false_iff_not, Bool.not_eq_true', Bool.not_eq_false', Int.not_lt, Int.not_le, ne_eq, Decidable.not_not] at hp1
      refine skip ?_
      refine then_n ?_
      refine seq ?_
      refine block ?_
      refine seq ?_
      refine region ?_
      refine so h hO (yl_move h rfl) rfl ?_; clear h a; intro a h
      refine so h hO (yl_assign h rfl) rfl ?_; clear h a; intro a h
      refine endL ?_
      refine then_n ?_
      refine seq ?_
      refine region ?_
      refine so h hO (yl_move h rfl) rfl ?_; clear h a; intro a h
      refine so h hO (yl_move h rfl) rfl ?_; clear h a; intro a h
      refine so h hO (yl_move h rfl) rfl ?_; clear h a; intro a h
      refine so h hO (yl_ix h rfl rfl p0 (by assumption) (by simp) (by omega)) rfl ?_; clear h a; intro a h
      refine so h hO (yl_ld1 h rfl p1 (by assumption) (by first | assumption | exact Val.sub (by assumption) (by repeat (first | with_reducible exact List.Sublist.refl _ | with_reducible refine List.Sublist.cons_cons _ ?_ | refine List.Sublist.cons _ ?_)) | with_reducible exact Val.ext _ _ | exact Val.ent (by first | with_reducible exact mem0 | with_reducible exact memS (mem0) | with_reducible exact memS (memS (mem0)) | with_reducible exact memS (memS (memS (mem0))) | with_reducible exact memS (memS (memS (memS (mem0)))) | with_reducible exact memS (memS (memS (memS (memS (mem0))))) | with_reducible exact memS (memS (memS (memS (memS (memS (mem0)))))) | with_reducible exact memS (memS (memS (memS (memS (memS (memS (mem0))))))) | with_reducible exact memS (memS (memS (memS (memS (memS (memS (memS (mem0)))))))) | with_reducible exact memS (memS (memS (memS (memS (memS (memS (memS (memS (mem0))))))))) | with_reducible exact memS (memS (memS (memS (memS (memS (memS (memS (memS (memS (mem0)))))))))) | with_reducible exact memS (memS (memS (memS (memS (memS (memS (memS (memS (memS (memS (mem0))))))))))) | with_reducible exact memS (memS (memS (memS (memS (memS (memS (memS (memS (memS (memS (memS (mem0)))))))))))) | with_reducible exact memS (memS (memS (memS (memS (memS (memS (memS (memS (memS (memS (memS (memS (mem0))))))))))))))) (by omega) (fun _ => rfl)) rfl ?_; clear h a; intro a h
      refine so h hO (yl_eq h rfl rfl) rfl ?_; clear h a; intro a h
      refine endL ?_
      refine then_n ?_
      refine cond_s h rfl (fun hb2 => ?_) (fun hb2 => ?_)
      · have hp2 := hb2
        try simp only [decide_eq_true_eq, decide_eq_false_iff_not, Bool.not_eq_true', Bool.not_eq_false', Int.not_lt, Int.not_le, ne_eq, Decidable.not_not] at hp2
        refine seq ?_
        refine region ?_
        refine so h hO (yl_move h rfl) rfl ?_; clear h a; intro a h
        refine so h hO (yl_assign h rfl) rfl ?_; clear h a; intro a h
        refine endL ?_
        refine then_n ?_
        refine retc ?_
        refine inB_r (then_r (then_r (inB_r (then_r (ret1 h hO Try.results33 (.tmp rfl .nil) ?_)))))
        refine Ret.mk ?_
        have hk1 : k < xs.length := by omega
        try simp only [Int.toNat_natCast] at *
        have hget := getD_eq (xs := xs) hk1
        refine ⟨congrArg (Value.int .i64) ?_, hO⟩
        have hm : n ∈ xs := by rw [hp2, hget]; exact List.getElem_mem _
        unfold idx; rw [if_pos hm]
        rw [hp2, hget] at hno ⊢
        have := idxOf_first xs k hk1 hno
        omega
      · have hp2 := hb2
        try simp only [decide_eq_true_eq, decide_eq_false_iff_not, Bool.not_eq_true', Bool.not_eq_false', Int.not_lt, Int.not_le, ne_eq, Decidable.not_not] at hp2
        refine skip ?_
        refine inB_n ?_
        refine then_n ?_
        refine region ?_
        first | (refine so h hO (yl_add64 h rfl rfl (by omega)) rfl ?_) | (refine so h hO (yl_add h rfl rfl) rfl ?_)
        clear h a; intro a h
        refine so h hO (yl_move h rfl) rfl ?_; clear h a; intro a h
        refine endL ?_
        refine then_n ?_
        have hk1 : k < xs.length := by omega
        try simp only [Int.toNat_natCast] at *
        have ht := getD_take_succ (xs := xs) hk1
        refine ⟨k + 1, by omega, by omega, ?_, h.weak (subB_cons rfl (subB_cons rfl (subB_cons rfl (subB_cons rfl (subB_nil))))), hO⟩
        rw [ht]; intro x hx
        rcases List.mem_append.1 hx with hx | hx
        · exact hno x hx
        · simp at hx; subst hx; exact fun e => hp2 e.symm
    · have hp1 := hb1
      try simp only [decide_eq_true_eq, decide_eq_false_iff_not, Bool.not_eq_true', Bool.not_eq_false', Int.not_lt, Int.not_le, ne_eq, Decidable.not_not] at hp1
      refine exit_ ?_
      refine then_x ?_
      refine then_x ?_
      refine inB_same ?_
      refine then_n ?_
      refine seq ?_
      refine region ?_
      refine so h hO (yl_assign h rfl) rfl ?_; clear h a; intro a h
      refine endL ?_
      refine then_n ?_
      refine retc ?_
      refine ret1 h hO Try.results33 (.tmp rfl .nil) ?_
      refine Ret.mk ?_
      have hk1 : k = xs.length := by omega
      subst hk1
      rw [List.take_length] at hno
      refine ⟨congrArg (Value.int .i64) ?_, hO⟩
      unfold idx; rw [if_neg fun hh => hno n hh rfl]
set_option maxHeartbeats 4000000 in
theorem Contains_spec (n : Int) (xs : List Int) {v : Value} {H : Nat → Obj → Prop} {w0 w : World} {L : List Ent} (hO : OwnE w0 w L) (hv : Rd I 1 H xs v) (hH : Val w0 L H) : Calls Try.prog 35 ⟨[v, .int .i64 n]⟩ w (Ret (fun v w => v = .bool (decide (n ∈ xs)) ∧ OwnE w0 w L)) := by
  refine enter Try.func35 rfl Try.ntmps35 rfl ?_
  intro a h
  refine seq ?_
  refine region ?_
  refine so h hO (yl_assign h rfl) rfl ?_; clear h a; intro a h
  refine endL ?_
  refine then_n ?_
  refine seq ?_
  refine region ?_
  refine so h hO (yl_move h rfl) rfl ?_; clear h a; intro a h
  refine so h hO (yl_move h rfl) rfl ?_; clear h a; intro a h
  refine callR h rfl rfl p2 (Index_spec _ _ hO hv hH) rfl ?_; clear h a hO w
  rintro _ w ⟨rfl, hO⟩ a h
  refine so h hO (yl_ge h rfl rfl) rfl ?_; clear h a; intro a h
  refine so h hO (yl_assign h rfl) rfl ?_; clear h a; intro a h
  refine endL ?_
  refine then_n ?_
  refine retc ?_
  refine ret1 h hO Try.results35 (.tmp rfl .nil) ?_
  refine Ret.mk ?_
  exact ⟨congrArg Value.bool (decide_eq_decide.2 idx_lt), hO⟩
set_option maxHeartbeats 4000000 in
theorem IndexFunc_spec (p : Int → Bool) {kf : FuncId} {caps : List Value} (xs : List Int) {v : Value} {H : Nat → Obj → Prop} {w0 w : World} {L : List Ent} (hO : OwnE w0 w L) (hv : Rd I 1 H xs v) (hH : Val w0 L H) (hk0 : ((Try.prog.funcs[kf]?).any fun fn => fn.body.isSome && fn.name != "runtime.NumGoroutine") = true) (hf : ∀ x ∈ xs, ∀ w, OwnE w0 w L → Calls Try.prog kf ⟨[.int .i64 x] ++ caps⟩ w (Ret fun v w => v = .bool (p x) ∧ OwnE w0 w L)) : Calls Try.prog 50 ⟨[v, .func (.func kf) #[] ⟨caps⟩]⟩ w (Ret (fun v w => v = .int .i64 (idxF p xs) ∧ OwnE w0 w L)) := by
  refine enter Try.func50 rfl Try.ntmps50 rfl ?_
  intro a h
  obtain ⟨A, c, rfl, hc, hr⟩ := hv
  refine seq ?_
  refine region ?_
  refine so h hO (yl_assign h rfl) rfl ?_; clear h a; intro a h
  refine endL ?_
  refine then_n ?_
  refine seq ?_
  refine seq ?_
  refine region ?_
  refine so h hO (yl_move h rfl) rfl ?_; clear h a; intro a h
  refine so h hO (yl_len h rfl p0) rfl ?_; clear h a; intro a h
  refine so h hO (yl_move h rfl) rfl ?_; clear h a; intro a h
  refine endL ?_
  refine then_n ?_
  refine block ?_
  refine loop (fun (k : Nat) a w =>  k ≤ xs.length ∧ (∀ x ∈ xs.take k, p x = false) ∧ St 19 [] [(0, .slice A xs.length c), (1, .func (.func kf) #[] ⟨caps⟩), (7, .int .i64 xs.length), (8, .int .i64 k)] a ∧ OwnE w0 w L) (fun k => xs.length - k) 0 ?_ ?_
  · exact ⟨Nat.zero_le _, by simp, h.weak (subB_cons rfl (subB_cons rfl (subB_cons rfl (subB_cons rfl (subB_nil))))), hO⟩
  · clear h a hO w
    rintro k a w ⟨hk, hno, h, hO⟩
    refine seq ?_
    refine region ?_
    refine so h hO (yl_lt h rfl rfl) rfl ?_; clear h a; intro a h
    refine endL ?_
    refine then_n ?_
    refine seq ?_
    refine cond_s h rfl (fun hb1 => ?_) (fun hb1 => ?_)
    · have hp1 := hb1
      try simp only [decide_eq_true_eq, decide_eq_false_iff_not, Bool.not_eq_true', Bool.not_eq_false', Int.not_lt, Int.not_le, ne_eq, Decidable.not_not] at hp1
      refine skip ?_
      refine then_n ?_
      refine seq ?_
      refine block ?_
      refine seq ?_
      refine region ?_
      refine so h hO (yl_move h rfl) rfl ?_; clear h a; intro a h
      refine so h hO (yl_assign h rfl) rfl ?_; clear h a; intro a h
      refine endL ?_
      refine then_n ?_
      refine seq ?_
      refine region ?_
      refine so h hO (yl_move h rfl) rfl ?_; clear h a; intro a h
      refine so h hO (yl_move h rfl) rfl ?_; clear h a; intro a h
      refine so h hO (yl_move h rfl) rfl ?_; clear h a; intro a h
      refine so h hO (yl_ix h rfl rfl p0 (by assumption) (by simp) (by omega)) rfl ?_; clear h a; intro a h
      refine so h hO (yl_ld1 h rfl p1 (by assumption) (by first | assumption | exact Val.sub (by assumption) (by repeat (first | with_reducible exact List.Sublist.refl _ | with_reducible refine List.Sublist.cons_cons _ ?_ | refine List.Sublist.cons _ ?_)) | with_reducible exact Val.ext _ _ | exact Val.ent (by first | with_reducible exact mem0 | with_reducible exact memS (mem0) | with_reducible exact memS (memS (mem0)) | with_reducible exact memS (memS (memS (mem0))) | with_reducible exact memS (memS (memS (memS (mem0)))) | with_reducible exact memS (memS (memS (memS (memS (mem0))))) | with_reducible exact memS (memS (memS (memS (memS (memS (mem0)))))) | with_reducible exact memS (memS (memS (memS (memS (memS (memS (mem0))))))) | with_reducible exact memS (memS (memS (memS (memS (memS (memS (memS (mem0)))))))) | with_reducible exact memS (memS (memS (memS (memS (memS (memS (memS (memS (mem0))))))))) | with_reducible exact memS (memS (memS (memS (memS (memS (memS (memS (memS (memS (mem0)))))))))) | with_reducible exact memS (memS (memS (memS (memS (memS (memS (memS (memS (memS (memS (mem0))))))))))) | with_reducible exact memS (memS (memS (memS (memS (memS (memS (memS (memS (memS (memS (memS (mem0)))))))))))) | with_reducible exact memS (memS (memS (memS (memS (memS (memS (memS (memS (memS (memS (memS (memS (mem0))))))))))))))) (by omega) (fun _ => rfl)) rfl ?_; clear h a; intro a h
      try simp only [Int.toNat_natCast] at *
      refine callR h rfl rfl hk0 (hf (xs.getD k default) (getD_mem (by omega)) _ hO) rfl ?_; clear h a hO w
      rintro _ w ⟨rfl, hO⟩ a h
      refine endL ?_
      refine then_n ?_
      refine cond_s h rfl (fun hb2 => ?_) (fun hb2 => ?_)
      · have hp2 := hb2
        try simp only [decide_eq_true_eq, decide_eq_false_iff_not, Bool.not_eq_true', Bool.not_eq_false', Int.not_lt, Int.not_le, ne_eq, Decidable.not_not] at hp2
        refine seq ?_
        refine region ?_
        refine so h hO (yl_move h rfl) rfl ?_; clear h a; intro a h
        refine so h hO (yl_assign h rfl) rfl ?_; clear h a; intro a h
        refine endL ?_
        refine then_n ?_
        refine retc ?_
        refine inB_r (then_r (then_r (inB_r (then_r (ret1 h hO Try.results50 (.tmp rfl .nil) ?_)))))
        refine Ret.mk ?_
        have hk1 : k < xs.length := by omega
        try simp only [Int.toNat_natCast] at *
        have hget := getD_eq (xs := xs) hk1
        refine ⟨congrArg (Value.int .i64) ?_, hO⟩
        exact idxF_at hk1 hno (by rw [← hget]; exact hb2)
      · have hp2 := hb2
        try simp only [decide_eq_true_eq, decide_eq_false_iff_not, Bool.not_eq_true', Bool.not_eq_false', Int.not_lt, Int.not_le, ne_eq, Decidable.not_not] at hp2
        refine skip ?_
        refine inB_n ?_
        refine then_n ?_
        refine region ?_
        first | (refine so h hO (yl_add64 h rfl rfl (by omega)) rfl ?_) | (refine so h hO (yl_add h rfl rfl) rfl ?_)
        clear h a; intro a h
        refine so h hO (yl_move h rfl) rfl ?_; clear h a; intro a h
        refine endL ?_
        refine then_n ?_
        have hk1 : k < xs.length := by omega
        try simp only [Int.toNat_natCast] at *
        have ht := getD_take_succ (xs := xs) hk1
        refine ⟨k + 1, by omega, by omega, ?_, h.weak (subB_cons rfl (subB_cons rfl (subB_cons rfl (subB_cons rfl (subB_nil))))), hO⟩
        rw [ht]; intro x hx
        rcases List.mem_append.1 hx with hx | hx
        · exact hno x hx
        · simp at hx; subst hx; exact hb2
    · have hp1 := hb1
      try simp only [decide_eq_true_eq, decide_eq_false_iff_not, Bool.not_eq_true', Bool.not_eq_false', Int.not_lt, Int.not_le, ne_eq, Decidable.not_not] at hp1
      refine exit_ ?_
      refine then_x ?_
      refine then_x ?_
      refine inB_same ?_
      refine then_n ?_
      refine seq ?_
      refine region ?_
      refine so h hO (yl_assign h rfl) rfl ?_; clear h a; intro a h
      refine endL ?_
      refine then_n ?_
      refine retc ?_
      refine ret1 h hO Try.results50 (.tmp rfl .nil) ?_
      refine Ret.mk ?_
      have hk1 : k = xs.length := by omega
      subst hk1
      rw [List.take_length] at hno
      exact ⟨congrArg (Value.int .i64) (idxF_none hno), hO⟩
set_option maxHeartbeats 4000000 in
theorem ContainsFunc_spec (p : Int → Bool) {kf : FuncId} {caps : List Value} (xs : List Int) {v : Value} {H : Nat → Obj → Prop} {w0 w : World} {L : List Ent} (hO : OwnE w0 w L) (hv : Rd I 1 H xs v) (hH : Val w0 L H) (hk0 : ((Try.prog.funcs[kf]?).any fun fn => fn.body.isSome && fn.name != "runtime.NumGoroutine") = true) (hf : ∀ x ∈ xs, ∀ w, OwnE w0 w L → Calls Try.prog kf ⟨[.int .i64 x] ++ caps⟩ w (Ret fun v w => v = .bool (p x) ∧ OwnE w0 w L)) : Calls Try.prog 42 ⟨[v, .func (.func kf) #[] ⟨caps⟩]⟩ w (Ret (fun v w => v = .bool (xs.any p) ∧ OwnE w0 w L)) := by
  refine enter Try.func42 rfl Try.ntmps42 rfl ?_
  intro a h
  refine seq ?_
  refine region ?_
  refine so h hO (yl_assign h rfl) rfl ?_; clear h a; intro a h
  refine endL ?_
  refine then_n ?_
  refine seq ?_
  refine region ?_
  refine so h hO (yl_move h rfl) rfl ?_; clear h a; intro a h
  refine so h hO (yl_move h rfl) rfl ?_; clear h a; intro a h
  refine callR h rfl rfl p3 (IndexFunc_spec p _ hO hv hH hk0 hf) rfl ?_; clear h a hO w
  rintro _ w ⟨rfl, hO⟩ a h
  refine so h hO (yl_ge h rfl rfl) rfl ?_; clear h a; intro a h
  refine so h hO (yl_assign h rfl) rfl ?_; clear h a; intro a h
  refine endL ?_
  refine then_n ?_
  refine retc ?_
  refine ret1 h hO Try.results42 (.tmp rfl .nil) ?_
  refine Ret.mk ?_
  exact ⟨congrArg Value.bool (idxF_ge p xs), hO⟩
set_option maxHeartbeats 4000000 in
theorem vInts_spec (xs ys : List Int) {v u : Value} {H G : Nat → Obj → Prop} {w0 w : World} {L : List Ent} (hO : OwnE w0 w L) (hv : Rd I 1 H xs v) (hH : Val w0 L H) (hu : Rd I 1 G ys u) (hG : Val w0 L G) : Calls Try.prog 20 ⟨[v, u]⟩ w (Ret (fun v w => v = .bool (decide (xs = ys)) ∧ OwnE w0 w L)) := by
  refine enter Try.func20 rfl Try.ntmps20 rfl ?_
  intro a h
  obtain ⟨A, c, rfl, hc, hr⟩ := hv
  obtain ⟨B, d, rfl, hd, hq⟩ := hu
  refine seq ?_
  refine region ?_
  refine so h hO (yl_assign h rfl) rfl ?_; clear h a; intro a h
  refine endL ?_
  refine then_n ?_
  refine seq ?_
  refine seq ?_
  refine region ?_
  refine so h hO (yl_move h rfl) rfl ?_; clear h a; intro a h
  refine so h hO (yl_len h rfl p0) rfl ?_; clear h a; intro a h
  refine so h hO (yl_move h rfl) rfl ?_; clear h a; intro a h
  refine so h hO (yl_len h rfl p0) rfl ?_; clear h a; intro a h
  refine so h hO (yl_ne h rfl rfl) rfl ?_; clear h a; intro a h
  refine endL ?_
  refine then_n ?_
  refine cond_s h rfl (fun hb1 => ?_) (fun hb1 => ?_)
  · have hp1 := hb1
    try simp only [decide_eq_true_eq, decide_eq_false_iff_not, Bool.not_eq_true', Bool.not_eq_false', Int.not_lt, Int.not_le, ne_eq, Decidable.not_not] at hp1
    refine seq ?_
    refine region ?_
    refine so h hO (yl_assign h rfl) rfl ?_; clear h a; intro a h
    refine endL ?_
    refine then_n ?_
    refine retc ?_
    refine then_r (ret1 h hO Try.results20 (.tmp rfl .nil) ?_)
    refine Ret.mk ?_
    exact ⟨congrArg Value.bool (decide_eq_false fun hh => by subst hh; omega).symm, hO⟩
  · have hp1 := hb1
    try simp only [decide_eq_true_eq, decide_eq_false_iff_not, Bool.not_eq_true', Bool.not_eq_false', Int.not_lt, Int.not_le, ne_eq, Decidable.not_not] at hp1
    refine skip ?_
    refine then_n ?_
    refine seq ?_
    refine seq ?_
    refine region ?_
    refine so h hO (yl_assign h rfl) rfl ?_; clear h a; intro a h
    refine endL ?_
    refine then_n ?_
    refine block ?_
    refine loop (fun (k : Nat) a w =>  k ≤ xs.length ∧ (xs.take k = ys.take k) ∧ St 26 [] [(0, .slice A xs.length c), (1, .slice B ys.length d), (5, .int .i64 k)] a ∧ OwnE w0 w L) (fun k => xs.length - k) 0 ?_ ?_
    · exact ⟨Nat.zero_le _, by simp, h.weak (subB_cons rfl (subB_cons rfl (subB_cons rfl (subB_nil)))), hO⟩
    · clear h a hO w
      rintro k a w ⟨hk, heq, h, hO⟩
      refine seq ?_
      refine seq ?_
      refine region ?_
      refine so h hO (yl_move h rfl) rfl ?_; clear h a; intro a h
      refine so h hO (yl_move h rfl) rfl ?_; clear h a; intro a h
      refine so h hO (yl_len h rfl p0) rfl ?_; clear h a; intro a h
      refine so h hO (yl_lt h rfl rfl) rfl ?_; clear h a; intro a h
      refine endL ?_
      refine then_n ?_
      refine cond_s h rfl (fun hb2 => ?_) (fun hb2 => ?_)
      · have hp2 := hb2
        try simp only [decide_eq_true_eq, decide_eq_false_iff_not, Bool.not_eq_true', Bool.not_eq_false', Int.not_lt, Int.not_le, ne_eq, Decidable.not_not] at hp2
        refine skip ?_
        refine then_n ?_
        refine seq ?_
        refine block ?_
        refine seq ?_
        refine regionQ (C := fun w => OwnE w0 w _) (by kernel_rfl) (by kernel_rfl) hO.drew ?_
        clear hO w
        refine stepQ h (yl_move h rfl) rfl ?_; clear h a; intro a h
        refine stepQ h (yl_move h rfl) rfl ?_; clear h a; intro a h
        refine stepQ h (yl_ix h rfl rfl p0 (by assumption) (by simp) (by omega)) rfl ?_; clear h a; intro a h
        refine stepQ h (yl_ld1 h rfl p1 (by assumption) (by first | assumption | exact Val.sub (by assumption) (by repeat (first | with_reducible exact List.Sublist.refl _ | with_reducible refine List.Sublist.cons_cons _ ?_ | refine List.Sublist.cons _ ?_)) | with_reducible exact Val.ext _ _ | exact Val.ent (by first | with_reducible exact mem0 | with_reducible exact memS (mem0) | with_reducible exact memS (memS (mem0)) | with_reducible exact memS (memS (memS (mem0))) | with_reducible exact memS (memS (memS (memS (mem0)))) | with_reducible exact memS (memS (memS (memS (memS (mem0))))) | with_reducible exact memS (memS (memS (memS (memS (memS (mem0)))))) | with_reducible exact memS (memS (memS (memS (memS (memS (memS (mem0))))))) | with_reducible exact memS (memS (memS (memS (memS (memS (memS (memS (mem0)))))))) | with_reducible exact memS (memS (memS (memS (memS (memS (memS (memS (memS (mem0))))))))) | with_reducible exact memS (memS (memS (memS (memS (memS (memS (memS (memS (memS (mem0)))))))))) | with_reducible exact memS (memS (memS (memS (memS (memS (memS (memS (memS (memS (memS (mem0))))))))))) | with_reducible exact memS (memS (memS (memS (memS (memS (memS (memS (memS (memS (memS (memS (mem0)))))))))))) | with_reducible exact memS (memS (memS (memS (memS (memS (memS (memS (memS (memS (memS (memS (memS (mem0))))))))))))))) (by omega) (fun _ => rfl)) rfl ?_; clear h a; intro a h
        refine stepQ h (yl_move h rfl) rfl ?_; clear h a; intro a h
        refine stepQ h (yl_move h rfl) rfl ?_; clear h a; intro a h
        refine stepQ h (yl_ix h rfl rfl p0 (by assumption) (by simp) (by omega)) rfl ?_; clear h a; intro a h
        refine stepQ h (yl_ld1 h rfl p1 (by assumption) (by first | assumption | exact Val.sub (by assumption) (by repeat (first | with_reducible exact List.Sublist.refl _ | with_reducible refine List.Sublist.cons_cons _ ?_ | refine List.Sublist.cons _ ?_)) | with_reducible exact Val.ext _ _ | exact Val.ent (by first | with_reducible exact mem0 | with_reducible exact memS (mem0) | with_reducible exact memS (memS (mem0)) | with_reducible exact memS (memS (memS (mem0))) | with_reducible exact memS (memS (memS (memS (mem0)))) | with_reducible exact memS (memS (memS (memS (memS (mem0))))) | with_reducible exact memS (memS (memS (memS (memS (memS (mem0)))))) | with_reducible exact memS (memS (memS (memS (memS (memS (memS (mem0))))))) | with_reducible exact memS (memS (memS (memS (memS (memS (memS (memS (mem0)))))))) | with_reducible exact memS (memS (memS (memS (memS (memS (memS (memS (memS (mem0))))))))) | with_reducible exact memS (memS (memS (memS (memS (memS (memS (memS (memS (memS (mem0)))))))))) | with_reducible exact memS (memS (memS (memS (memS (memS (memS (memS (memS (memS (memS (mem0))))))))))) | with_reducible exact memS (memS (memS (memS (memS (memS (memS (memS (memS (memS (memS (memS (mem0)))))))))))) | with_reducible exact memS (memS (memS (memS (memS (memS (memS (memS (memS (memS (memS (memS (memS (mem0))))))))))))))) (by omega) (fun _ => rfl)) rfl ?_; clear h a; intro a h
        refine stepQ h (yl_ne h rfl rfl) rfl ?_; clear h a; intro a h
        refine endQ ?_; intro w hO
        refine then_n ?_
        refine cond_s h rfl (fun hb3 => ?_) (fun hb3 => ?_)
        · have hp3 := hb3
          try simp only [decide_eq_true_eq, decide_eq_false_iff_not, Bool.not_eq_true', Bool.not_eq_false', Int.not_lt, Int.not_le, ne_eq, Decidable.not_not] at hp3
          refine seq ?_
          refine region ?_
          refine so h hO (yl_assign h rfl) rfl ?_; clear h a; intro a h
          refine endL ?_
          refine then_n ?_
          refine retc ?_
          refine inB_r (then_r (then_r (inB_r (then_r (ret1 h hO Try.results20 (.tmp rfl .nil) ?_)))))
          refine Ret.mk ?_
          refine ⟨congrArg Value.bool (decide_eq_false fun hh => ?_).symm, hO⟩
          subst hh
          exact hp3 rfl
        · have hp3 := hb3
          try simp only [decide_eq_true_eq, decide_eq_false_iff_not, Bool.not_eq_true', Bool.not_eq_false', Int.not_lt, Int.not_le, ne_eq, Decidable.not_not] at hp3
          refine skip ?_
          refine inB_n ?_
          refine then_n ?_
          refine region ?_
          refine so h hO (yl_move h rfl) rfl ?_; clear h a; intro a h
          first | (refine so h hO (yl_add64 h rfl rfl (by omega)) rfl ?_) | (refine so h hO (yl_add h rfl rfl) rfl ?_)
          clear h a; intro a h
          refine so h hO (yl_assign h rfl) rfl ?_; clear h a; intro a h
          refine endL ?_
          refine then_n ?_
          have hk1 : k < xs.length := by omega
          try simp only [Int.toNat_natCast] at *
          have ht := getD_take_succ (xs := xs) hk1
          refine ⟨k + 1, by omega, by omega, ?_, h.weak (subB_cons rfl (subB_cons rfl (subB_cons rfl (subB_nil)))), hO⟩
          rw [ht, getD_take_succ (show k < ys.length by omega), heq]; first | rw [hp3] | rw [Decidable.not_not.1 hp3]
      · have hp2 := hb2
        try simp only [decide_eq_true_eq, decide_eq_false_iff_not, Bool.not_eq_true', Bool.not_eq_false', Int.not_lt, Int.not_le, ne_eq, Decidable.not_not] at hp2
        refine exit_ ?_
        refine then_x ?_
        refine then_x ?_
        refine inB_same ?_
        refine then_n ?_
        refine seq ?_
        refine region ?_
        refine so h hO (yl_assign h rfl) rfl ?_; clear h a; intro a h
        refine endL ?_
        refine then_n ?_
        refine retc ?_
        refine ret1 h hO Try.results20 (.tmp rfl .nil) ?_
        refine Ret.mk ?_
        rw [List.take_of_length_le (by omega), List.take_of_length_le (by omega)] at heq
        exact ⟨congrArg Value.bool (decide_eq_true heq).symm, hO⟩
set_option maxHeartbeats 4000000 in
theorem Equal_spec (xs ys : List Int) {v u : Value} {H G : Nat → Obj → Prop} {w0 w : World} {L : List Ent} (hO : OwnE w0 w L) (hv : Rd I 1 H xs v) (hH : Val w0 L H) (hu : Rd I 1 G ys u) (hG : Val w0 L G) : Calls Try.prog 30 ⟨[v, u]⟩ w (Ret (fun v w => v = .bool (decide (xs = ys)) ∧ OwnE w0 w L)) := by
  refine enter Try.func30 rfl Try.ntmps30 rfl ?_
  intro a h
  obtain ⟨A, c, rfl, hc, hr⟩ := hv
  obtain ⟨B, d, rfl, hd, hq⟩ := hu
  refine seq ?_
  refine region ?_
  refine so h hO (yl_assign h rfl) rfl ?_; clear h a; intro a h
  refine endL ?_
  refine then_n ?_
  refine seq ?_
  refine seq ?_
  refine region ?_
  refine so h hO (yl_move h rfl) rfl ?_; clear h a; intro a h
  refine so h hO (yl_len h rfl p0) rfl ?_; clear h a; intro a h
  refine so h hO (yl_move h rfl) rfl ?_; clear h a; intro a h
  refine so h hO (yl_len h rfl p0) rfl ?_; clear h a; intro a h
  refine so h hO (yl_ne h rfl rfl) rfl ?_; clear h a; intro a h
  refine endL ?_
  refine then_n ?_
  refine cond_s h rfl (fun hb1 => ?_) (fun hb1 => ?_)
  · have hp1 := hb1
    try simp only [decide_eq_true_eq, decide_eq_false_iff_not, Bool.not_eq_true', Bool.not_eq_false', Int.not_lt, Int.not_le, ne_eq, Decidable.not_not] at hp1
    refine seq ?_
    refine region ?_
    refine so h hO (yl_assign h rfl) rfl ?_; clear h a; intro a h
    refine endL ?_
    refine then_n ?_
    refine retc ?_
    refine then_r (ret1 h hO Try.results30 (.tmp rfl .nil) ?_)
    refine Ret.mk ?_
    exact ⟨congrArg Value.bool (decide_eq_false fun hh => by subst hh; omega).symm, hO⟩
  · have hp1 := hb1
    try simp only [decide_eq_true_eq, decide_eq_false_iff_not, Bool.not_eq_true', Bool.not_eq_false', Int.not_lt, Int.not_le, ne_eq, Decidable.not_not] at hp1
    refine skip ?_
    refine then_n ?_
    refine seq ?_
    refine seq ?_
    refine region ?_
    refine so h hO (yl_move h rfl) rfl ?_; clear h a; intro a h
    refine so h hO (yl_len h rfl p0) rfl ?_; clear h a; intro a h
    refine so h hO (yl_move h rfl) rfl ?_; clear h a; intro a h
    refine endL ?_
    refine then_n ?_
    refine block ?_
    refine loop (fun (k : Nat) a w =>  k ≤ xs.length ∧ (xs.take k = ys.take k) ∧ St 26 [] [(0, .slice A xs.length c), (1, .slice B ys.length d), (12, .int .i64 xs.length), (13, .int .i64 k)] a ∧ OwnE w0 w L) (fun k => xs.length - k) 0 ?_ ?_
    · exact ⟨Nat.zero_le _, by simp, h.weak (subB_cons rfl (subB_cons rfl (subB_cons rfl (subB_cons rfl (subB_nil))))), hO⟩
    · clear h a hO w
      rintro k a w ⟨hk, heq, h, hO⟩
      refine seq ?_
      refine region ?_
      refine so h hO (yl_lt h rfl rfl) rfl ?_; clear h a; intro a h
      refine endL ?_
      refine then_n ?_
      refine seq ?_
      refine cond_s h rfl (fun hb2 => ?_) (fun hb2 => ?_)
      · have hp2 := hb2
        try simp only [decide_eq_true_eq, decide_eq_false_iff_not, Bool.not_eq_true', Bool.not_eq_false', Int.not_lt, Int.not_le, ne_eq, Decidable.not_not] at hp2
        refine skip ?_
        refine then_n ?_
        refine seq ?_
        refine block ?_
        refine seq ?_
        refine region ?_
        refine so h hO (yl_move h rfl) rfl ?_; clear h a; intro a h
        refine so h hO (yl_assign h rfl) rfl ?_; clear h a; intro a h
        refine endL ?_
        refine then_n ?_
        refine seq ?_
        refine regionQ (C := fun w => OwnE w0 w _) (by kernel_rfl) (by kernel_rfl) hO.drew ?_
        clear hO w
        refine stepQ h (yl_move h rfl) rfl ?_; clear h a; intro a h
        refine stepQ h (yl_move h rfl) rfl ?_; clear h a; intro a h
        refine stepQ h (yl_ix h rfl rfl p0 (by assumption) (by simp) (by omega)) rfl ?_; clear h a; intro a h
        refine stepQ h (yl_ld1 h rfl p1 (by assumption) (by first | assumption | exact Val.sub (by assumption) (by repeat (first | with_reducible exact List.Sublist.refl _ | with_reducible refine List.Sublist.cons_cons _ ?_ | refine List.Sublist.cons _ ?_)) | with_reducible exact Val.ext _ _ | exact Val.ent (by first | with_reducible exact mem0 | with_reducible exact memS (mem0) | with_reducible exact memS (memS (mem0)) | with_reducible exact memS (memS (memS (mem0))) | with_reducible exact memS (memS (memS (memS (mem0)))) | with_reducible exact memS (memS (memS (memS (memS (mem0))))) | with_reducible exact memS (memS (memS (memS (memS (memS (mem0)))))) | with_reducible exact memS (memS (memS (memS (memS (memS (memS (mem0))))))) | with_reducible exact memS (memS (memS (memS (memS (memS (memS (memS (mem0)))))))) | with_reducible exact memS (memS (memS (memS (memS (memS (memS (memS (memS (mem0))))))))) | with_reducible exact memS (memS (memS (memS (memS (memS (memS (memS (memS (memS (mem0)))))))))) | with_reducible exact memS (memS (memS (memS (memS (memS (memS (memS (memS (memS (memS (mem0))))))))))) | with_reducible exact memS (memS (memS (memS (memS (memS (memS (memS (memS (memS (memS (memS (mem0)))))))))))) | with_reducible exact memS (memS (memS (memS (memS (memS (memS (memS (memS (memS (memS (memS (memS (mem0))))))))))))))) (by omega) (fun _ => rfl)) rfl ?_; clear h a; intro a h
        refine stepQ h (yl_move h rfl) rfl ?_; clear h a; intro a h
        refine stepQ h (yl_move h rfl) rfl ?_; clear h a; intro a h
        refine stepQ h (yl_ix h rfl rfl p0 (by assumption) (by simp) (by omega)) rfl ?_; clear h a; intro a h
        refine stepQ h (yl_ld1 h rfl p1 (by assumption) (by first | assumption | exact Val.sub (by assumption) (by repeat (first | with_reducible exact List.Sublist.refl _ | with_reducible refine List.Sublist.cons_cons _ ?_ | refine List.Sublist.cons _ ?_)) | with_reducible exact Val.ext _ _ | exact Val.ent (by first | with_reducible exact mem0 | with_reducible exact memS (mem0) | with_reducible exact memS (memS (mem0)) | with_reducible exact memS (memS (memS (mem0))) | with_reducible exact memS (memS (memS (memS (mem0)))) | with_reducible exact memS (memS (memS (memS (memS (mem0))))) | with_reducible exact memS (memS (memS (memS (memS (memS (mem0)))))) | with_reducible exact memS (memS (memS (memS (memS (memS (memS (mem0))))))) | with_reducible exact memS (memS (memS (memS (memS (memS (memS (memS (mem0)))))))) | with_reducible exact memS (memS (memS (memS (memS (memS (memS (memS (memS (mem0))))))))) | with_reducible exact memS (memS (memS (memS (memS (memS (memS (memS (memS (memS (mem0)))))))))) | with_reducible exact memS (memS (memS (memS (memS (memS (memS (memS (memS (memS (memS (mem0))))))))))) | with_reducible exact memS (memS (memS (memS (memS (memS (memS (memS (memS (memS (memS (memS (mem0)))))))))))) | with_reducible exact memS (memS (memS (memS (memS (memS (memS (memS (memS (memS (memS (memS (memS (mem0))))))))))))))) (by omega) (fun _ => rfl)) rfl ?_; clear h a; intro a h
        refine stepQ h (yl_ne h rfl rfl) rfl ?_; clear h a; intro a h
        refine endQ ?_; intro w hO
        refine then_n ?_
        refine cond_s h rfl (fun hb3 => ?_) (fun hb3 => ?_)
        · have hp3 := hb3
          try simp only [decide_eq_true_eq, decide_eq_false_iff_not, Bool.not_eq_true', Bool.not_eq_false', Int.not_lt, Int.not_le, ne_eq, Decidable.not_not] at hp3
          refine seq ?_
          refine region ?_
          refine so h hO (yl_assign h rfl) rfl ?_; clear h a; intro a h
          refine endL ?_
          refine then_n ?_
          refine retc ?_
          refine inB_r (then_r (then_r (inB_r (then_r (ret1 h hO Try.results30 (.tmp rfl .nil) ?_)))))
          refine Ret.mk ?_
          refine ⟨congrArg Value.bool (decide_eq_false fun hh => ?_).symm, hO⟩
          subst hh
          exact hp3 rfl
        · have hp3 := hb3
          try simp only [decide_eq_true_eq, decide_eq_false_iff_not, Bool.not_eq_true', Bool.not_eq_false', Int.not_lt, Int.not_le, ne_eq, Decidable.not_not] at hp3
          refine skip ?_
          refine inB_n ?_
          refine then_n ?_
          refine region ?_
          first | (refine so h hO (yl_add64 h rfl rfl (by omega)) rfl ?_) | (refine so h hO (yl_add h rfl rfl) rfl ?_)
          clear h a; intro a h
          refine so h hO (yl_move h rfl) rfl ?_; clear h a; intro a h
          refine endL ?_
          refine then_n ?_
          have hk1 : k < xs.length := by omega
          try simp only [Int.toNat_natCast] at *
          have ht := getD_take_succ (xs := xs) hk1
          refine ⟨k + 1, by omega, by omega, ?_, h.weak (subB_cons rfl (subB_cons rfl (subB_cons rfl (subB_cons rfl (subB_nil))))), hO⟩
          rw [ht, getD_take_succ (show k < ys.length by omega), heq]; first | rw [hp3] | rw [Decidable.not_not.1 hp3]
      · have hp2 := hb2
        try simp only [decide_eq_true_eq, decide_eq_false_iff_not, Bool.not_eq_true', Bool.not_eq_false', Int.not_lt, Int.not_le, ne_eq, Decidable.not_not] at hp2
        refine exit_ ?_
        refine then_x ?_
        refine then_x ?_
        refine inB_same ?_
        refine then_n ?_
        refine seq ?_
        refine region ?_
        refine so h hO (yl_assign h rfl) rfl ?_; clear h a; intro a h
        refine endL ?_
        refine then_n ?_
        refine retc ?_
        refine ret1 h hO Try.results30 (.tmp rfl .nil) ?_
        refine Ret.mk ?_
        rw [List.take_of_length_le (by omega), List.take_of_length_le (by omega)] at heq
        exact ⟨congrArg Value.bool (decide_eq_true heq).symm, hO⟩
set_option maxHeartbeats 4000000 in
theorem Clone_nil (xs : List Int) {v : Value} {H : Nat → Obj → Prop} {w0 w : World} {L : List Ent} (hO : OwnE w0 w L) (hv : Rd I 1 H xs v) (hH : Val w0 L H) (hn : xs = []) : Calls Try.prog 31 ⟨[v]⟩ w (Ret (fun v w => ∃ e, Mu I 3 1 xs v e ∧ OwnE w0 w (e :: L))) := by
  refine enter Try.func31 rfl Try.ntmps31 rfl ?_
  intro a h
  obtain ⟨A, c, rfl, hc, hr⟩ := hv
  subst hn
  refine seq ?_
  refine region ?_
  refine so h hO (yl_assign h rfl) rfl ?_; clear h a; intro a h
  refine endL ?_
  refine then_n ?_
  refine seq ?_
  refine seq ?_
  refine region ?_
  refine so h hO (yl_move h rfl) rfl ?_; clear h a; intro a h
  refine so h hO (yl_nilS h rfl p0) rfl ?_; clear h a; intro a h
  refine endL ?_
  refine then_n ?_
  refine cond_s h rfl (fun hb1 => ?_) (fun hb1 => ?_)
  · have hp1 := hb1
    try simp only [decide_eq_true_eq, decide_eq_false_iff_not, Bool.not_eq_true', Bool.not_eq_false', Int.not_lt, Int.not_le, ne_eq, Decidable.not_not] at hp1
    refine seq ?_
    refine region ?_
    refine so h hO (yl_assign h rfl) rfl ?_; clear h a; intro a h
    refine endL ?_
    refine then_n ?_
    refine retc ?_
    refine then_r (ret1 h hO Try.results31 (.tmp rfl .nil) ?_)
    refine Ret.mk ?_
    exact ⟨[], Mu.nil _ _ _, hO.nilE⟩
  · have hp1 := hb1
    try simp only [decide_eq_true_eq, decide_eq_false_iff_not, Bool.not_eq_true', Bool.not_eq_false', Int.not_lt, Int.not_le, ne_eq, Decidable.not_not] at hp1
    refine skip ?_
    refine then_n ?_
    refine seq ?_
    refine region ?_
    refine stepBuildAll (us := []) h hO rfl p0 rfl p4 rfl rfl rfl rfl rfl ?_; clear h hO a w; intro a b5 w h hO
    refine so h hO (yl_move h rfl) rfl ?_; clear h a; intro a h
    refine so h hO (yl_appE h rfl (Nat.le_refl _) rfl p5) rfl ?_; clear h a; intro a h
    refine so h hO (yl_assign h rfl) rfl ?_; clear h a; intro a h
    refine endL ?_
    refine then_n ?_
    refine retc ?_
    refine ret1 h hO Try.results31 (.tmp rfl .nil) ?_
    refine Ret.mk ?_
    exact ⟨_, Mu.nil' _ _ _ b5, hO⟩
set_option maxHeartbeats 4000000 in
theorem Clone_cons (xs : List Int) {v : Value} {H : Nat → Obj → Prop} {w0 w : World} {L : List Ent} (hO : OwnE w0 w L) (hv : Rd I 1 H xs v) (hH : Val w0 L H) (hn : xs ≠ []) (hb : xs.length ≤ 4294967296) : Calls Try.prog 31 ⟨[v]⟩ w (Ret (fun v w => ∃ e, Mu I 3 1 xs v e ∧ OwnE w0 w (e :: L))) := by
  refine enter Try.func31 rfl Try.ntmps31 rfl ?_
  intro a h
  obtain ⟨A, c, rfl, hc, hr⟩ := hv
  refine seq ?_
  refine region ?_
  refine so h hO (yl_assign h rfl) rfl ?_; clear h a; intro a h
  refine endL ?_
  refine then_n ?_
  refine seq ?_
  refine seq ?_
  refine region ?_
  refine so h hO (yl_move h rfl) rfl ?_; clear h a; intro a h
  refine so h hO (yl_nilS h rfl p0) rfl ?_; clear h a; intro a h
  refine endL ?_
  refine then_n ?_
  refine cond_s h rfl (fun hb1 => ?_) (fun hb1 => ?_)
  · have hp1 := hb1
    try simp only [decide_eq_true_eq, decide_eq_false_iff_not, Bool.not_eq_true', Bool.not_eq_false', Int.not_lt, Int.not_le, ne_eq, Decidable.not_not] at hp1
    refine seq ?_
    refine region ?_
    refine so h hO (yl_assign h rfl) rfl ?_; clear h a; intro a h
    refine endL ?_
    refine then_n ?_
    refine retc ?_
    refine then_r (ret1 h hO Try.results31 (.tmp rfl .nil) ?_)
    refine Ret.mk ?_
    rcases hr with hr | ⟨_, _, _, _, _, rfl, _⟩
    · simp at hr; exact absurd hr hn
    · simp at hb1
  · have hp1 := hb1
    try simp only [decide_eq_true_eq, decide_eq_false_iff_not, Bool.not_eq_true', Bool.not_eq_false', Int.not_lt, Int.not_le, ne_eq, Decidable.not_not] at hp1
    refine skip ?_
    refine then_n ?_
    refine seq ?_
    refine region ?_
    refine stepBuildAll (us := []) h hO rfl p0 rfl p4 rfl rfl rfl rfl rfl ?_; clear h hO a w; intro a b5 w h hO
    refine so h hO (yl_move h rfl) rfl ?_; clear h a; intro a h
    refine stepAppS h hO rfl rfl p5 rfl (Mu.nil' I _ 1 b5) ⟨A, c, rfl, hc, hr⟩ (fun w hO => hH w hO.drop) hn len_I (by simpa using hb) (fun e_ => .here) rfl ?_
    clear h hO a w; intro a v7 e7 w h hM7 hO
    refine so h hO (yl_assign h rfl) rfl ?_; clear h a; intro a h
    refine endL ?_
    refine then_n ?_
    refine retc ?_
    refine ret1 h hO Try.results31 (.tmp rfl .nil) ?_
    refine Ret.mk ?_
    exact ⟨_, hM7, hO⟩
theorem Clone_spec (xs : List Int) {v : Value} {H : Nat → Obj → Prop} {w0 w : World} {L : List Ent} (hO : OwnE w0 w L) (hv : Rd I 1 H xs v) (hH : Val w0 L H) (hb : xs.length ≤ 4294967296) : Calls Try.prog 31 ⟨[v]⟩ w (Ret (fun v w => ∃ e, Mu I 3 1 xs v e ∧ OwnE w0 w (e :: L))) := by
  by_cases hn : xs = []
  · exact Clone_nil xs hO hv hH hn
  · exact Clone_cons xs hO hv hH hn hb
set_option maxHeartbeats 4000000 in
theorem Delete_spec (k : Nat) {xs : List Int} {v : Value} {e : Ent} {w0 w : World} {L : List Ent} (hO : OwnE w0 w (e :: L)) (hM : Mu I 3 1 xs v e) (hk : k < xs.length) : Calls Try.prog 47 ⟨[v, .int .i64 (k : Int), .int .i64 ((k : Int) + 1)]⟩ w (Ret (fun v w => ∃ e', Mu I 3 1 (xs.eraseIdx k) v e' ∧ OwnE w0 w (e' :: L))) := by
  refine enter Try.func47 rfl Try.ntmps47 rfl ?_
  intro a h
  obtain ⟨hall, hM⟩ := hM
  rcases hM with ⟨rfl, hx, rfl⟩ | ⟨g, cap, cur, hv, rfl, hcap, hmax, hlen, htk⟩
  · simp at hx; simp [hx] at hk
  rw [List.length_map] at hv; subst hv
  simp only [List.length_map, Nat.mul_one, flat_I] at hcap htk hlen
  simp only [maxLen] at hmax
  refine seq ?_
  refine region ?_
  refine so h hO (yl_assign h rfl) rfl ?_; clear h a; intro a h
  refine endL ?_
  refine then_n ?_
  refine seq ?_
  refine region ?_
  refine so h hO (yl_move h rfl) rfl ?_; clear h a; intro a h
  refine so h hO (yl_move h rfl) rfl ?_; clear h a; intro a h
  refine so h hO (yl_move h rfl) rfl ?_; clear h a; intro a h
  refine so h hO (yl_move h rfl) rfl ?_; clear h a; intro a h
  refine so h hO (yl_len h rfl p0) rfl ?_; clear h a; intro a h
  refine so h hO (yl_cut3 h rfl rfl rfl rfl p0 (by omega)) rfl ?_; clear h a; intro a h
  refine endL ?_
  refine then_n ?_
  refine seq ?_
  refine seq ?_
  refine region ?_
  refine so h hO (yl_move h rfl) rfl ?_; clear h a; intro a h
  refine so h hO (yl_move h rfl) rfl ?_; clear h a; intro a h
  refine so h hO (yl_eq h rfl rfl) rfl ?_; clear h a; intro a h
  refine endL ?_
  refine then_n ?_
  refine cond_s h rfl (fun hb1 => ?_) (fun hb1 => ?_)
  · have hp1 := hb1
    try simp only [decide_eq_true_eq, decide_eq_false_iff_not, Bool.not_eq_true', Bool.not_eq_false', Int.not_lt, Int.not_le, ne_eq, Decidable.not_not] at hp1
    omega
  · have hp1 := hb1
    try simp only [decide_eq_true_eq, decide_eq_false_iff_not, Bool.not_eq_true', Bool.not_eq_false', Int.not_lt, Int.not_le, ne_eq, Decidable.not_not] at hp1
    refine skip ?_
    refine then_n ?_
    refine seq ?_
    refine region ?_
    refine so h hO (yl_move h rfl) rfl ?_; clear h a; intro a h
    refine so h hO (yl_len h rfl p0) rfl ?_; clear h a; intro a h
    refine so h hO (yl_assign h rfl) rfl ?_; clear h a; intro a h
    refine endL ?_
    refine then_n ?_
    refine seq ?_
    refine regionT 6 (by kernel_rfl) (by kernel_rfl) ?_; have hO := hO.drew; generalize w.drew = w at hO ⊢
    refine ss h hO (yl_move h rfl) rfl ?_; clear h a; intro a h
    refine ss h hO (yl_move h rfl) rfl ?_; clear h a; intro a h
    refine ss h hO (yl_sliceHi h rfl rfl p0 (by omega)) rfl ?_; clear h a; intro a h
    refine ss h hO (yl_move h rfl) rfl ?_; clear h a; intro a h
    refine ss h hO (yl_move h rfl) rfl ?_; clear h a; intro a h
    refine ss h hO (yl_cutLo h (k + 1) rfl rfl p0 (by omega) (by omega)) rfl ?_; clear h a; intro a h
    refine endS ?_
    refine stepAppRoom (cur := cur) (us := (xs.drop (k + 1)).map I) (L' := [(g, row 3 (spl cur k ((xs.drop (k + 1)).map I)))] :: L) h hO rfl rfl p5 (by simp) ?hc (by rw [List.all_eq_true]; intro u hu; obtain ⟨i, _, rfl⟩ := List.mem_map.1 hu; rfl) ?hr ?hf ?hu rfl ?_
    case hc =>
      intro j u hj
      have hj' : j < xs.length - (k + 1) := by
        have := (List.getElem?_eq_some_iff.1 hj).1; simpa using this
      rw [if_neg (by omega), Nat.mul_one, hO.cell (memF mem0)]
      have := congrArg (fun l : List Value => l[k + 1 + j]?) htk
      simp only [List.getElem?_take, if_pos (show k + 1 + j < xs.length by omega)] at this
      simp only [List.getElem?_map, List.getElem?_drop] at hj
      simpa [← hj] using this
    case hr => simp only [Int.toNat_natCast]; omega
    case hf => simp only [Int.toNat_natCast, List.length_map, List.length_drop]; omega
    case hu => simp only [Int.toNat_natCast, Nat.mul_one]; exact .here
    clear h hO a w; intro a w h hO
    refine so h hO (yl_assign h rfl) rfl ?_; clear h a; intro a h
    refine endL ?_
    refine then_n ?_
    refine seq ?_
    refine region ?_
    refine so h hO (yl_move h rfl) rfl ?_; clear h a; intro a h
    refine so h hO (yl_move h rfl) rfl ?_; clear h a; intro a h
    refine so h hO (yl_len h rfl p0) rfl ?_; clear h a; intro a h
    refine so h hO (yl_move h rfl) rfl ?_; clear h a; intro a h
    refine so h hO (yl_cut h (xs.length - 1) 1 rfl rfl rfl p0 (by omega) (by omega) (by omega)) rfl ?_; clear h a; intro a h
    refine stepClear (cur := spl cur k ((xs.drop (k + 1)).map I)) (m := 0) (zs := [.int .i64 0]) (L' := [(g, row 3 (spl (spl cur k ((xs.drop (k + 1)).map I)) (xs.length - 1) [.int .i64 0]))] :: L) h hO rfl p5 p4 (by kernel_rfl) rfl ?hf ?hu ?_
    case hf => rw [spl_length (by simp; omega)]; simp; omega
    case hu => simp only [Nat.mul_one]; exact .here
    clear h hO a w; intro a w h hO
    refine endL ?_
    refine then_n ?_
    refine seq ?_
    refine region ?_
    refine so h hO (yl_move h rfl) rfl ?_; clear h a; intro a h
    refine so h hO (yl_assign h rfl) rfl ?_; clear h a; intro a h
    refine endL ?_
    refine then_n ?_
    refine retc ?_
    refine ret1 h hO Try.results47 (.tmp rfl .nil) ?_
    refine Ret.mk ?_
    refine ⟨_, ⟨by intro u hu; obtain ⟨i, _, rfl⟩ := List.mem_map.1 hu; exact len_I i, .inr ⟨g, cap, _, ?_, rfl, ?_, by simpa [maxLen] using hmax, ?_, ?_⟩⟩, hO⟩
    · simp [List.length_eraseIdx, hk]; omega
    · simp [List.length_eraseIdx, hk]; omega
    · rw [spl_length (by rw [spl_length (by simp; omega)]; simp; omega), spl_length (by simp; omega), hlen, Nat.mul_one]
    · rw [flat_I, List.length_map, List.length_eraseIdx, if_pos hk, Nat.mul_one]; exact cut_row hk (by omega) htk
set_option maxHeartbeats 4000000 in
theorem next_spec {bc N : Nat} {e : Ent} {w0 w : World} {L : List Ent} (hO : OwnE w0 w (e :: L)) (hC : CurAt w0 41 bc N e) (hN : N ≤ 4000000001000000) : Calls Try.prog 49 ⟨[.pointer (some ⟨bc, 0, none⟩)]⟩ w (Ret (fun v w => ∃ e', ((∃ r : Int, v = .int .i64 r ∧ 0 ≤ r ∧ r ≤ 255) ∧ CurAt w0 41 bc (N + 1) e') ∧ OwnE w0 w (e' :: L))) := by
  refine enter Try.func49 rfl Try.ntmps49 rfl ?_
  intro a h
  obtain ⟨xs, A, c, at_, seed, rfl, hc, hr, h8, hat⟩ := hC
  refine seq ?_
  refine region ?_
  refine so h hO (yl_assign h rfl) rfl ?_; clear h a; intro a h
  refine endL ?_
  refine then_n ?_
  refine seq ?_
  refine region ?_
  refine so h hO (yl_assign h rfl) rfl ?_; clear h a; intro a h
  refine endL ?_
  refine then_n ?_
  refine seq_cut (R := fun a w => ∃ b : Int, (0 ≤ b ∧ b ≤ 255) ∧ St 62 [] [(0, .pointer (some ⟨bc, 0, none⟩)), (3, .int .i64 b)] a ∧ OwnE w0 w ([(bc, row 41 [.slice A xs.length c, .int .i64 at_, .int .u64 seed])] :: L)) ?_ ?_
  · skip
    refine seq ?_
    refine regionQ (C := fun w => OwnE w0 w _) (by kernel_rfl) (by kernel_rfl) hO.drew ?_
    clear hO w
    refine stepQ h (yl_move h rfl) rfl ?_; clear h a; intro a h
    refine stepQ h (yl_nilCheck h rfl) rfl ?_; clear h a; intro a h
    refine stepQ h (yl_fieldAddr h rfl p6) rfl ?_; clear h a; intro a h
    refine stepQ h (yl_load_e h rfl p1 (by first | with_reducible exact mem0 | with_reducible exact memS (mem0) | with_reducible exact memS (memS (mem0)) | with_reducible exact memS (memS (memS (mem0))) | with_reducible exact memS (memS (memS (memS (mem0)))) | with_reducible exact memS (memS (memS (memS (memS (mem0))))) | with_reducible exact memS (memS (memS (memS (memS (memS (mem0)))))) | with_reducible exact memS (memS (memS (memS (memS (memS (memS (mem0))))))) | with_reducible exact memS (memS (memS (memS (memS (memS (memS (memS (mem0)))))))) | with_reducible exact memS (memS (memS (memS (memS (memS (memS (memS (memS (mem0))))))))) | with_reducible exact memS (memS (memS (memS (memS (memS (memS (memS (memS (memS (mem0)))))))))) | with_reducible exact memS (memS (memS (memS (memS (memS (memS (memS (memS (memS (memS (mem0))))))))))) | with_reducible exact memS (memS (memS (memS (memS (memS (memS (memS (memS (memS (memS (memS (mem0)))))))))))) | with_reducible exact memS (memS (memS (memS (memS (memS (memS (memS (memS (memS (memS (memS (memS (mem0)))))))))))))) (by rfl)) rfl ?_; clear h a; intro a h
    refine stepQ h (yl_move h rfl) rfl ?_; clear h a; intro a h
    refine stepQ h (yl_nilCheck h rfl) rfl ?_; clear h a; intro a h
    refine stepQ h (yl_fieldAddr h rfl p7) rfl ?_; clear h a; intro a h
    refine stepQ h (yl_load_e h rfl p8 (by first | with_reducible exact mem0 | with_reducible exact memS (mem0) | with_reducible exact memS (memS (mem0)) | with_reducible exact memS (memS (memS (mem0))) | with_reducible exact memS (memS (memS (memS (mem0)))) | with_reducible exact memS (memS (memS (memS (memS (mem0))))) | with_reducible exact memS (memS (memS (memS (memS (memS (mem0)))))) | with_reducible exact memS (memS (memS (memS (memS (memS (memS (mem0))))))) | with_reducible exact memS (memS (memS (memS (memS (memS (memS (memS (mem0)))))))) | with_reducible exact memS (memS (memS (memS (memS (memS (memS (memS (memS (mem0))))))))) | with_reducible exact memS (memS (memS (memS (memS (memS (memS (memS (memS (memS (mem0)))))))))) | with_reducible exact memS (memS (memS (memS (memS (memS (memS (memS (memS (memS (memS (mem0))))))))))) | with_reducible exact memS (memS (memS (memS (memS (memS (memS (memS (memS (memS (memS (memS (mem0)))))))))))) | with_reducible exact memS (memS (memS (memS (memS (memS (memS (memS (memS (memS (memS (memS (memS (mem0)))))))))))))) (by rfl)) rfl ?_; clear h a; intro a h
    refine stepQ h (yl_len h rfl p9) rfl ?_; clear h a; intro a h
    refine stepQ h (yl_lt h rfl rfl) rfl ?_; clear h a; intro a h
    refine endQ ?_; intro w hO
    refine then_n ?_
    refine cond_s h rfl (fun hb1 => ?_) (fun hb1 => ?_)
    · have hp1 := hb1
      try simp only [decide_eq_true_eq, decide_eq_false_iff_not, Bool.not_eq_true', Bool.not_eq_false', Int.not_lt, Int.not_le, ne_eq, Decidable.not_not] at hp1
      refine regionQ (C := fun w => OwnE w0 w _) (by kernel_rfl) (by kernel_rfl) hO.drew ?_
      clear hO w
      refine stepQ h (yl_move h rfl) rfl ?_; clear h a; intro a h
      refine stepQ h (yl_nilCheck h rfl) rfl ?_; clear h a; intro a h
      refine stepQ h (yl_fieldAddr h rfl p7) rfl ?_; clear h a; intro a h
      refine stepQ h (yl_load_e h rfl p8 (by first | with_reducible exact mem0 | with_reducible exact memS (mem0) | with_reducible exact memS (memS (mem0)) | with_reducible exact memS (memS (memS (mem0))) | with_reducible exact memS (memS (memS (memS (mem0)))) | with_reducible exact memS (memS (memS (memS (memS (mem0))))) | with_reducible exact memS (memS (memS (memS (memS (memS (mem0)))))) | with_reducible exact memS (memS (memS (memS (memS (memS (memS (mem0))))))) | with_reducible exact memS (memS (memS (memS (memS (memS (memS (memS (mem0)))))))) | with_reducible exact memS (memS (memS (memS (memS (memS (memS (memS (memS (mem0))))))))) | with_reducible exact memS (memS (memS (memS (memS (memS (memS (memS (memS (memS (mem0)))))))))) | with_reducible exact memS (memS (memS (memS (memS (memS (memS (memS (memS (memS (memS (mem0))))))))))) | with_reducible exact memS (memS (memS (memS (memS (memS (memS (memS (memS (memS (memS (memS (mem0)))))))))))) | with_reducible exact memS (memS (memS (memS (memS (memS (memS (memS (memS (memS (memS (memS (memS (mem0)))))))))))))) (by rfl)) rfl ?_; clear h a; intro a h
      refine stepQ h (yl_move h rfl) rfl ?_; clear h a; intro a h
      refine stepQ h (yl_nilCheck h rfl) rfl ?_; clear h a; intro a h
      refine stepQ h (yl_fieldAddr h rfl p6) rfl ?_; clear h a; intro a h
      refine stepQ h (yl_load_e h rfl p1 (by first | with_reducible exact mem0 | with_reducible exact memS (mem0) | with_reducible exact memS (memS (mem0)) | with_reducible exact memS (memS (memS (mem0))) | with_reducible exact memS (memS (memS (memS (mem0)))) | with_reducible exact memS (memS (memS (memS (memS (mem0))))) | with_reducible exact memS (memS (memS (memS (memS (memS (mem0)))))) | with_reducible exact memS (memS (memS (memS (memS (memS (memS (mem0))))))) | with_reducible exact memS (memS (memS (memS (memS (memS (memS (memS (mem0)))))))) | with_reducible exact memS (memS (memS (memS (memS (memS (memS (memS (memS (mem0))))))))) | with_reducible exact memS (memS (memS (memS (memS (memS (memS (memS (memS (memS (mem0)))))))))) | with_reducible exact memS (memS (memS (memS (memS (memS (memS (memS (memS (memS (memS (mem0))))))))))) | with_reducible exact memS (memS (memS (memS (memS (memS (memS (memS (memS (memS (memS (memS (mem0)))))))))))) | with_reducible exact memS (memS (memS (memS (memS (memS (memS (memS (memS (memS (memS (memS (memS (mem0)))))))))))))) (by rfl)) rfl ?_; clear h a; intro a h
      refine stepQ h (yl_ix h rfl rfl p9 (by assumption) (by simp) (by omega)) rfl ?_; clear h a; intro a h
      have hx8 := h8 _ (getD_mem (xs := xs) (k := at_.toNat) (by omega))
      refine stepQ h (yl_ld1 h rfl p10 (by assumption) (by first | assumption | exact Val.sub (by assumption) (by repeat (first | with_reducible exact List.Sublist.refl _ | with_reducible refine List.Sublist.cons_cons _ ?_ | refine List.Sublist.cons _ ?_)) | with_reducible exact Val.ext _ _ | exact Val.ent (by first | with_reducible exact mem0 | with_reducible exact memS (mem0) | with_reducible exact memS (memS (mem0)) | with_reducible exact memS (memS (memS (mem0))) | with_reducible exact memS (memS (memS (memS (mem0)))) | with_reducible exact memS (memS (memS (memS (memS (mem0))))) | with_reducible exact memS (memS (memS (memS (memS (memS (mem0)))))) | with_reducible exact memS (memS (memS (memS (memS (memS (memS (mem0))))))) | with_reducible exact memS (memS (memS (memS (memS (memS (memS (memS (mem0)))))))) | with_reducible exact memS (memS (memS (memS (memS (memS (memS (memS (memS (mem0))))))))) | with_reducible exact memS (memS (memS (memS (memS (memS (memS (memS (memS (memS (mem0)))))))))) | with_reducible exact memS (memS (memS (memS (memS (memS (memS (memS (memS (memS (memS (mem0))))))))))) | with_reducible exact memS (memS (memS (memS (memS (memS (memS (memS (memS (memS (memS (memS (mem0)))))))))))) | with_reducible exact memS (memS (memS (memS (memS (memS (memS (memS (memS (memS (memS (memS (memS (mem0))))))))))))))) (by omega) (fun _ => rfl)) rfl ?_; clear h a; intro a h
      refine stepQ h (yl_conv64 h rfl p11 p12 (by omega)) rfl ?_; clear h a; intro a h
      refine stepQ h (yl_assign h rfl) rfl ?_; clear h a; intro a h
      refine endQ ?_; intro w hO
      refine then_n ?_
      exact ⟨_, hx8, h.weak (subB_cons rfl (subB_cons rfl (subB_nil))), hO⟩
    · have hp1 := hb1
      try simp only [decide_eq_true_eq, decide_eq_false_iff_not, Bool.not_eq_true', Bool.not_eq_false', Int.not_lt, Int.not_le, ne_eq, Decidable.not_not] at hp1
      refine skip ?_
      refine then_n ?_
      exact ⟨_, by omega, h.weak (subB_cons rfl (subB_cons rfl (subB_nil))), hO⟩
  · clear h hO a w
    rintro a w ⟨b, hb, h, hO⟩
    refine seq ?_
    refine region ?_
    refine so h hO (yl_move h rfl) rfl ?_; clear h a; intro a h
    refine so h hO (yl_nilCheck h rfl) rfl ?_; clear h a; intro a h
    refine so h hO (yl_fieldAddr h rfl p6) rfl ?_; clear h a; intro a h
    refine so h hO (yl_load_e h rfl p1 (by first | with_reducible exact mem0 | with_reducible exact memS (mem0) | with_reducible exact memS (memS (mem0)) | with_reducible exact memS (memS (memS (mem0))) | with_reducible exact memS (memS (memS (memS (mem0)))) | with_reducible exact memS (memS (memS (memS (memS (mem0))))) | with_reducible exact memS (memS (memS (memS (memS (memS (mem0)))))) | with_reducible exact memS (memS (memS (memS (memS (memS (memS (mem0))))))) | with_reducible exact memS (memS (memS (memS (memS (memS (memS (memS (mem0)))))))) | with_reducible exact memS (memS (memS (memS (memS (memS (memS (memS (memS (mem0))))))))) | with_reducible exact memS (memS (memS (memS (memS (memS (memS (memS (memS (memS (mem0)))))))))) | with_reducible exact memS (memS (memS (memS (memS (memS (memS (memS (memS (memS (memS (mem0))))))))))) | with_reducible exact memS (memS (memS (memS (memS (memS (memS (memS (memS (memS (memS (memS (mem0)))))))))))) | with_reducible exact memS (memS (memS (memS (memS (memS (memS (memS (memS (memS (memS (memS (memS (mem0)))))))))))))) (by rfl)) rfl ?_; clear h a; intro a h
    first | (refine so h hO (yl_add64 h rfl rfl (by omega)) rfl ?_) | (refine so h hO (yl_add h rfl rfl) rfl ?_)
    clear h a; intro a h
    refine so h hO (yl_nilCheck h rfl) rfl ?_; clear h a; intro a h
    refine so h hO (yl_fieldAddr h rfl p6) rfl ?_; clear h a; intro a h
    refine stepStore h hO rfl rfl p13 rfl (by first | with_reducible exact .here | with_reducible exact .there (.here) | with_reducible exact .there (.there (.here)) | with_reducible exact .there (.there (.there (.here))) | with_reducible exact .there (.there (.there (.there (.here)))) | with_reducible exact .there (.there (.there (.there (.there (.here))))) | with_reducible exact .there (.there (.there (.there (.there (.there (.here)))))) | with_reducible exact .there (.there (.there (.there (.there (.there (.there (.here))))))) | with_reducible exact .there (.there (.there (.there (.there (.there (.there (.there (.here)))))))) | with_reducible exact .there (.there (.there (.there (.there (.there (.there (.there (.there (.here))))))))) | with_reducible exact .there (.there (.there (.there (.there (.there (.there (.there (.there (.there (.here)))))))))) | with_reducible exact .there (.there (.there (.there (.there (.there (.there (.there (.there (.there (.there (.here))))))))))) | with_reducible exact .there (.there (.there (.there (.there (.there (.there (.there (.there (.there (.there (.there (.here)))))))))))) | with_reducible exact .there (.there (.there (.there (.there (.there (.there (.there (.there (.there (.there (.there (.there (.here)))))))))))))) (by exact Nat.le_of_ble_eq_true rfl) ?_; clear h hO a w; intro a w h hO
    refine endL ?_
    refine then_n ?_
    refine seq ?_
    refine region ?_
    refine so h hO (yl_move h rfl) rfl ?_; clear h a; intro a h
    refine so h hO (yl_move h rfl) rfl ?_; clear h a; intro a h
    refine so h hO (yl_nilCheck h rfl) rfl ?_; clear h a; intro a h
    refine so h hO (yl_fieldAddr h rfl p14) rfl ?_; clear h a; intro a h
    refine so h hO (yl_load_e h rfl p15 (by first | with_reducible exact mem0 | with_reducible exact memS (mem0) | with_reducible exact memS (memS (mem0)) | with_reducible exact memS (memS (memS (mem0))) | with_reducible exact memS (memS (memS (memS (mem0)))) | with_reducible exact memS (memS (memS (memS (memS (mem0))))) | with_reducible exact memS (memS (memS (memS (memS (memS (mem0)))))) | with_reducible exact memS (memS (memS (memS (memS (memS (memS (mem0))))))) | with_reducible exact memS (memS (memS (memS (memS (memS (memS (memS (mem0)))))))) | with_reducible exact memS (memS (memS (memS (memS (memS (memS (memS (memS (mem0))))))))) | with_reducible exact memS (memS (memS (memS (memS (memS (memS (memS (memS (memS (mem0)))))))))) | with_reducible exact memS (memS (memS (memS (memS (memS (memS (memS (memS (memS (memS (mem0))))))))))) | with_reducible exact memS (memS (memS (memS (memS (memS (memS (memS (memS (memS (memS (memS (mem0)))))))))))) | with_reducible exact memS (memS (memS (memS (memS (memS (memS (memS (memS (memS (memS (memS (memS (mem0)))))))))))))) (by rfl)) rfl ?_; clear h a; intro a h
    refine so h hO (yl_mulK h rfl rfl) rfl ?_; clear h a; intro a h
    refine so h hO (yl_move h rfl) rfl ?_; clear h a; intro a h
    refine so h hO (yl_conv h rfl p12 p16) rfl ?_; clear h a; intro a h
    refine so h hO (yl_addK h rfl rfl) rfl ?_; clear h a; intro a h
    refine so h hO (yl_addK h rfl rfl) rfl ?_; clear h a; intro a h
    refine so h hO (yl_nilCheck h rfl) rfl ?_; clear h a; intro a h
    refine so h hO (yl_fieldAddr h rfl p14) rfl ?_; clear h a; intro a h
    refine stepStore h hO rfl rfl p17 rfl (by first | with_reducible exact .here | with_reducible exact .there (.here) | with_reducible exact .there (.there (.here)) | with_reducible exact .there (.there (.there (.here))) | with_reducible exact .there (.there (.there (.there (.here)))) | with_reducible exact .there (.there (.there (.there (.there (.here))))) | with_reducible exact .there (.there (.there (.there (.there (.there (.here)))))) | with_reducible exact .there (.there (.there (.there (.there (.there (.there (.here))))))) | with_reducible exact .there (.there (.there (.there (.there (.there (.there (.there (.here)))))))) | with_reducible exact .there (.there (.there (.there (.there (.there (.there (.there (.there (.here))))))))) | with_reducible exact .there (.there (.there (.there (.there (.there (.there (.there (.there (.there (.here)))))))))) | with_reducible exact .there (.there (.there (.there (.there (.there (.there (.there (.there (.there (.there (.here))))))))))) | with_reducible exact .there (.there (.there (.there (.there (.there (.there (.there (.there (.there (.there (.there (.here)))))))))))) | with_reducible exact .there (.there (.there (.there (.there (.there (.there (.there (.there (.there (.there (.there (.there (.here)))))))))))))) (by exact Nat.le_of_ble_eq_true rfl) ?_; clear h hO a w; intro a w h hO
    refine endL ?_
    refine then_n ?_
    refine seq ?_
    refine seq ?_
    refine regionQ (C := fun w => OwnE w0 w _) (by kernel_rfl) (by kernel_rfl) hO.drew ?_
    clear hO w
    refine stepQ h (yl_move h rfl) rfl ?_; clear h a; intro a h
    refine stepQ h (yl_nilCheck h rfl) rfl ?_; clear h a; intro a h
    refine stepQ h (yl_fieldAddr h rfl p6) rfl ?_; clear h a; intro a h
    refine stepQ h (yl_load_e h rfl p1 (by first | with_reducible exact mem0 | with_reducible exact memS (mem0) | with_reducible exact memS (memS (mem0)) | with_reducible exact memS (memS (memS (mem0))) | with_reducible exact memS (memS (memS (memS (mem0)))) | with_reducible exact memS (memS (memS (memS (memS (mem0))))) | with_reducible exact memS (memS (memS (memS (memS (memS (mem0)))))) | with_reducible exact memS (memS (memS (memS (memS (memS (memS (mem0))))))) | with_reducible exact memS (memS (memS (memS (memS (memS (memS (memS (mem0)))))))) | with_reducible exact memS (memS (memS (memS (memS (memS (memS (memS (memS (mem0))))))))) | with_reducible exact memS (memS (memS (memS (memS (memS (memS (memS (memS (memS (mem0)))))))))) | with_reducible exact memS (memS (memS (memS (memS (memS (memS (memS (memS (memS (memS (mem0))))))))))) | with_reducible exact memS (memS (memS (memS (memS (memS (memS (memS (memS (memS (memS (memS (mem0)))))))))))) | with_reducible exact memS (memS (memS (memS (memS (memS (memS (memS (memS (memS (memS (memS (memS (mem0)))))))))))))) (by rfl)) rfl ?_; clear h a; intro a h
    refine stepQ h (yl_move h rfl) rfl ?_; clear h a; intro a h
    refine stepQ h (yl_nilCheck h rfl) rfl ?_; clear h a; intro a h
    refine stepQ h (yl_fieldAddr h rfl p7) rfl ?_; clear h a; intro a h
    refine stepQ h (yl_load_e h rfl p8 (by first | with_reducible exact mem0 | with_reducible exact memS (mem0) | with_reducible exact memS (memS (mem0)) | with_reducible exact memS (memS (memS (mem0))) | with_reducible exact memS (memS (memS (memS (mem0)))) | with_reducible exact memS (memS (memS (memS (memS (mem0))))) | with_reducible exact memS (memS (memS (memS (memS (memS (mem0)))))) | with_reducible exact memS (memS (memS (memS (memS (memS (memS (mem0))))))) | with_reducible exact memS (memS (memS (memS (memS (memS (memS (memS (mem0)))))))) | with_reducible exact memS (memS (memS (memS (memS (memS (memS (memS (memS (mem0))))))))) | with_reducible exact memS (memS (memS (memS (memS (memS (memS (memS (memS (memS (mem0)))))))))) | with_reducible exact memS (memS (memS (memS (memS (memS (memS (memS (memS (memS (memS (mem0))))))))))) | with_reducible exact memS (memS (memS (memS (memS (memS (memS (memS (memS (memS (memS (memS (mem0)))))))))))) | with_reducible exact memS (memS (memS (memS (memS (memS (memS (memS (memS (memS (memS (memS (memS (mem0)))))))))))))) (by rfl)) rfl ?_; clear h a; intro a h
    refine stepQ h (yl_len h rfl p9) rfl ?_; clear h a; intro a h
    refine stepQ h (yl_le h rfl rfl) rfl ?_; clear h a; intro a h
    refine endQ ?_; intro w hO
    refine then_n ?_
    refine cond_s h rfl (fun hb2 => ?_) (fun hb2 => ?_)
    · have hp2 := hb2
      try simp only [decide_eq_true_eq, decide_eq_false_iff_not, Bool.not_eq_true', Bool.not_eq_false', Int.not_lt, Int.not_le, ne_eq, Decidable.not_not] at hp2
      refine seq ?_
      refine region ?_
      refine so h hO (yl_move h rfl) rfl ?_; clear h a; intro a h
      refine so h hO (yl_assign h rfl) rfl ?_; clear h a; intro a h
      refine endL ?_
      refine then_n ?_
      refine retc ?_
      refine then_r (ret1 h hO Try.results49 (.tmp rfl .nil) ?_)
      refine Ret.mk ?_
      exact ⟨_, ⟨⟨_, rfl, by omega, by omega⟩, xs, A, c, at_ + 1, _, rfl, hc, hr, h8, by omega, by omega⟩, hO⟩
    · have hp2 := hb2
      try simp only [decide_eq_true_eq, decide_eq_false_iff_not, Bool.not_eq_true', Bool.not_eq_false', Int.not_lt, Int.not_le, ne_eq, Decidable.not_not] at hp2
      refine skip ?_
      refine then_n ?_
      refine seq ?_
      refine region ?_
      refine so h hO (yl_move h rfl) rfl ?_; clear h a; intro a h
      refine so h hO (yl_nilCheck h rfl) rfl ?_; clear h a; intro a h
      refine so h hO (yl_fieldAddr h rfl p14) rfl ?_; clear h a; intro a h
      refine so h hO (yl_load_e h rfl p15 (by first | with_reducible exact mem0 | with_reducible exact memS (mem0) | with_reducible exact memS (memS (mem0)) | with_reducible exact memS (memS (memS (mem0))) | with_reducible exact memS (memS (memS (memS (mem0)))) | with_reducible exact memS (memS (memS (memS (memS (mem0))))) | with_reducible exact memS (memS (memS (memS (memS (memS (mem0)))))) | with_reducible exact memS (memS (memS (memS (memS (memS (memS (mem0))))))) | with_reducible exact memS (memS (memS (memS (memS (memS (memS (memS (mem0)))))))) | with_reducible exact memS (memS (memS (memS (memS (memS (memS (memS (memS (mem0))))))))) | with_reducible exact memS (memS (memS (memS (memS (memS (memS (memS (memS (memS (mem0)))))))))) | with_reducible exact memS (memS (memS (memS (memS (memS (memS (memS (memS (memS (memS (mem0))))))))))) | with_reducible exact memS (memS (memS (memS (memS (memS (memS (memS (memS (memS (memS (memS (mem0)))))))))))) | with_reducible exact memS (memS (memS (memS (memS (memS (memS (memS (memS (memS (memS (memS (memS (mem0)))))))))))))) (by rfl)) rfl ?_; clear h a; intro a h
      refine so h hO (yl_shrK h rfl rfl (by decide)) rfl ?_; clear h a; intro a h
      obtain ⟨r60, hrr60, hyy60⟩ := yl_and255 (P := Try.prog) (C := fun w => OwnE w0 w _) (ty := 39) h (t := 39) (t' := 39) (x := .tmp 59) (y := .const (.int .u64 255)) rfl rfl
      refine so h hO hyy60 rfl ?_; clear hyy60 h a; intro a h
      refine so h hO (yl_conv64 h rfl p16 p12 (by omega)) rfl ?_; clear h a; intro a h
      refine so h hO (yl_assign h rfl) rfl ?_; clear h a; intro a h
      refine endL ?_
      refine then_n ?_
      refine retc ?_
      refine ret1 h hO Try.results49 (.tmp rfl .nil) ?_
      refine Ret.mk ?_
      exact ⟨_, ⟨⟨_, rfl, by omega, by omega⟩, xs, A, c, at_ + 1, _, rfl, hc, hr, h8, by omega, by omega⟩, hO⟩
set_option maxHeartbeats 4000000 in
theorem pick_spec (n : Int) {bc N : Nat} {e : Ent} {w0 w : World} {L : List Ent} (hO : OwnE w0 w (e :: L)) (hC : CurAt w0 41 bc N e) (hN : N ≤ 4000000000900000) : Calls Try.prog 39 ⟨[.pointer (some ⟨bc, 0, none⟩), .int .i64 n]⟩ w (Ret (fun v w => ∃ e', ((∃ r : Int, v = .int .i64 r ∧ 0 ≤ r ∧ (r < n ∨ (n ≤ 1 ∧ r = 0))) ∧ CurAt w0 41 bc (N + 2) e') ∧ OwnE w0 w (e' :: L))) := by
  refine enter Try.func39 rfl Try.ntmps39 rfl ?_
  intro a h
  refine seq ?_
  refine region ?_
  refine so h hO (yl_assign h rfl) rfl ?_; clear h a; intro a h
  refine endL ?_
  refine then_n ?_
  refine seq ?_
  refine seq ?_
  refine region ?_
  refine so h hO (yl_move h rfl) rfl ?_; clear h a; intro a h
  refine so h hO (yl_le h rfl rfl) rfl ?_; clear h a; intro a h
  refine endL ?_
  refine then_n ?_
  refine cond_s h rfl (fun hb1 => ?_) (fun hb1 => ?_)
  · have hp1 := hb1
    try simp only [decide_eq_true_eq, decide_eq_false_iff_not, Bool.not_eq_true', Bool.not_eq_false', Int.not_lt, Int.not_le, ne_eq, Decidable.not_not] at hp1
    refine seq ?_
    refine region ?_
    refine so h hO (yl_assign h rfl) rfl ?_; clear h a; intro a h
    refine endL ?_
    refine then_n ?_
    refine retc ?_
    refine then_r (ret1 h hO Try.results39 (.tmp rfl .nil) ?_)
    refine Ret.mk ?_
    exact ⟨_, ⟨⟨_, rfl, by omega, by omega⟩, hC.mono (by omega)⟩, hO⟩
  · have hp1 := hb1
    try simp only [decide_eq_true_eq, decide_eq_false_iff_not, Bool.not_eq_true', Bool.not_eq_false', Int.not_lt, Int.not_le, ne_eq, Decidable.not_not] at hp1
    refine skip ?_
    refine then_n ?_
    refine seq ?_
    refine region ?_
    refine so h hO (yl_move h rfl) rfl ?_; clear h a; intro a h
    refine callR h rfl rfl p18 (lift0 (fun M hk_ hO => next_spec (N := _) hO (by assumption) (by omega)) hO (by intro e_; first | with_reducible exact .here | with_reducible exact .there (.here) | with_reducible exact .there (.there (.here)) | with_reducible exact .there (.there (.there (.here))) | with_reducible exact .there (.there (.there (.there (.here)))) | with_reducible exact .there (.there (.there (.there (.there (.here))))) | with_reducible exact .there (.there (.there (.there (.there (.there (.here)))))) | with_reducible exact .there (.there (.there (.there (.there (.there (.there (.here))))))) | with_reducible exact .there (.there (.there (.there (.there (.there (.there (.there (.here)))))))) | with_reducible exact .there (.there (.there (.there (.there (.there (.there (.there (.there (.here))))))))) | with_reducible exact .there (.there (.there (.there (.there (.there (.there (.there (.there (.there (.here)))))))))) | with_reducible exact .there (.there (.there (.there (.there (.there (.there (.there (.there (.there (.there (.here))))))))))) | with_reducible exact .there (.there (.there (.there (.there (.there (.there (.there (.there (.there (.there (.there (.here)))))))))))) | with_reducible exact .there (.there (.there (.there (.there (.there (.there (.there (.there (.there (.there (.there (.there (.here))))))))))))))) rfl ?_; clear h a hO w
    rintro _ w ⟨ec, ⟨⟨r, rfl, hr0, hr1⟩, hC⟩, hO⟩ a h
    refine so h hO (yl_assign h rfl) rfl ?_; clear h a; intro a h
    refine endL ?_
    refine then_n ?_
    refine seq_cut (R := fun a w => ∃ (x : Int) (e2 : Ent), 0 ≤ x ∧ CurAt w0 41 bc (N + 2) e2 ∧ St 20 [] [(0, .pointer (some ⟨bc, 0, none⟩)), (1, .int .i64 n), (5, .int .i64 x)] a ∧ OwnE w0 w (e2 :: L)) ?_ ?_
    · skip
      refine seq ?_
      refine region ?_
      refine so h hO (yl_move h rfl) rfl ?_; clear h a; intro a h
      refine so h hO (yl_gt h rfl rfl) rfl ?_; clear h a; intro a h
      refine endL ?_
      refine then_n ?_
      refine cond_s h rfl (fun hb2 => ?_) (fun hb2 => ?_)
      · have hp2 := hb2
        try simp only [decide_eq_true_eq, decide_eq_false_iff_not, Bool.not_eq_true', Bool.not_eq_false', Int.not_lt, Int.not_le, ne_eq, Decidable.not_not] at hp2
        refine region ?_
        refine so h hO (yl_move h rfl) rfl ?_; clear h a; intro a h
        first | (refine so h hO (yl_mul64 h rfl rfl (by omega)) rfl ?_) | (refine so h hO (yl_mul h rfl rfl) rfl ?_)
        clear h a; intro a h
        refine so h hO (yl_move h rfl) rfl ?_; clear h a; intro a h
        refine callR h rfl rfl p18 (lift0 (fun M hk_ hO => next_spec (N := _) hO (by assumption) (by omega)) hO (by intro e_; first | with_reducible exact .here | with_reducible exact .there (.here) | with_reducible exact .there (.there (.here)) | with_reducible exact .there (.there (.there (.here))) | with_reducible exact .there (.there (.there (.there (.here)))) | with_reducible exact .there (.there (.there (.there (.there (.here))))) | with_reducible exact .there (.there (.there (.there (.there (.there (.here)))))) | with_reducible exact .there (.there (.there (.there (.there (.there (.there (.here))))))) | with_reducible exact .there (.there (.there (.there (.there (.there (.there (.there (.here)))))))) | with_reducible exact .there (.there (.there (.there (.there (.there (.there (.there (.there (.here))))))))) | with_reducible exact .there (.there (.there (.there (.there (.there (.there (.there (.there (.there (.here)))))))))) | with_reducible exact .there (.there (.there (.there (.there (.there (.there (.there (.there (.there (.there (.here))))))))))) | with_reducible exact .there (.there (.there (.there (.there (.there (.there (.there (.there (.there (.there (.there (.here)))))))))))) | with_reducible exact .there (.there (.there (.there (.there (.there (.there (.there (.there (.there (.there (.there (.there (.here))))))))))))))) rfl ?_; clear h a hO w
        rintro _ w ⟨ec, ⟨⟨r, rfl, hr0, hr1⟩, hC⟩, hO⟩ a h
        first | (refine so h hO (yl_add64 h rfl rfl (by omega)) rfl ?_) | (refine so h hO (yl_add h rfl rfl) rfl ?_)
        clear h a; intro a h
        refine so h hO (yl_assign h rfl) rfl ?_; clear h a; intro a h
        refine endL ?_
        refine then_n ?_
        exact ⟨_, _, by omega, hC, h.weak (subB_cons rfl (subB_cons rfl (subB_cons rfl (subB_nil)))), hO⟩
      · have hp2 := hb2
        try simp only [decide_eq_true_eq, decide_eq_false_iff_not, Bool.not_eq_true', Bool.not_eq_false', Int.not_lt, Int.not_le, ne_eq, Decidable.not_not] at hp2
        refine skip ?_
        refine then_n ?_
        exact ⟨_, _, by omega, hC.mono (by omega), h.weak (subB_cons rfl (subB_cons rfl (subB_cons rfl (subB_nil)))), hO⟩
    · clear h hO a w
      rintro a w ⟨x, e2, hx, hC, h, hO⟩
      refine seq ?_
      refine region ?_
      refine so h hO (yl_move h rfl) rfl ?_; clear h a; intro a h
      refine so h hO (yl_move h rfl) rfl ?_; clear h a; intro a h
      refine so h hO (yl_rem h rfl rfl (by omega)) rfl ?_; clear h a; intro a h
      refine so h hO (yl_assign h rfl) rfl ?_; clear h a; intro a h
      refine endL ?_
      refine then_n ?_
      refine retc ?_
      refine ret1 h hO Try.results39 (.tmp rfl .nil) ?_
      refine Ret.mk ?_
      exact ⟨_, ⟨⟨_, rfl, Int.tmod_nonneg _ hx, .inl (Int.tmod_lt_of_pos _ (by omega))⟩, hC⟩, hO⟩
set_option maxHeartbeats 4000000 in
theorem one_spec (n : Int) {bc N : Nat} {e : Ent} {w0 w : World} {L : List Ent} (hO : OwnE w0 w (e :: L)) (hC : CurAt w0 41 bc N e) (hN : N ≤ 4000000000900000) : Calls Try.prog 40 ⟨[.pointer (some ⟨bc, 0, none⟩), .int .i64 n]⟩ w (Ret (fun v w => ∃ e', ((∃ b : Bool, v = .bool b) ∧ CurAt w0 41 bc (N + 2) e') ∧ OwnE w0 w (e' :: L))) := by
  refine enter Try.func40 rfl Try.ntmps40 rfl ?_
  intro a h
  refine seq ?_
  refine region ?_
  refine so h hO (yl_assign h rfl) rfl ?_; clear h a; intro a h
  refine endL ?_
  refine then_n ?_
  refine seq ?_
  refine region ?_
  refine so h hO (yl_move h rfl) rfl ?_; clear h a; intro a h
  refine so h hO (yl_move h rfl) rfl ?_; clear h a; intro a h
  refine callR h rfl rfl p19 (lift0 (fun M hk_ hO => pick_spec _ (N := _) hO (by assumption) (by omega)) hO (by intro e_; first | with_reducible exact .here | with_reducible exact .there (.here) | with_reducible exact .there (.there (.here)) | with_reducible exact .there (.there (.there (.here))) | with_reducible exact .there (.there (.there (.there (.here)))) | with_reducible exact .there (.there (.there (.there (.there (.here))))) | with_reducible exact .there (.there (.there (.there (.there (.there (.here)))))) | with_reducible exact .there (.there (.there (.there (.there (.there (.there (.here))))))) | with_reducible exact .there (.there (.there (.there (.there (.there (.there (.there (.here)))))))) | with_reducible exact .there (.there (.there (.there (.there (.there (.there (.there (.there (.here))))))))) | with_reducible exact .there (.there (.there (.there (.there (.there (.there (.there (.there (.there (.here)))))))))) | with_reducible exact .there (.there (.there (.there (.there (.there (.there (.there (.there (.there (.there (.here))))))))))) | with_reducible exact .there (.there (.there (.there (.there (.there (.there (.there (.there (.there (.there (.there (.here)))))))))))) | with_reducible exact .there (.there (.there (.there (.there (.there (.there (.there (.there (.there (.there (.there (.there (.here))))))))))))))) rfl ?_; clear h a hO w
  rintro _ w ⟨ec, ⟨⟨r, rfl, hr0, hr1⟩, hC⟩, hO⟩ a h
  refine so h hO (yl_eq h rfl rfl) rfl ?_; clear h a; intro a h
  refine so h hO (yl_assign h rfl) rfl ?_; clear h a; intro a h
  refine endL ?_
  refine then_n ?_
  refine retc ?_
  refine ret1 h hO Try.results40 (.tmp rfl .nil) ?_
  refine Ret.mk ?_
  exact ⟨_, ⟨⟨_, rfl⟩, hC⟩, hO⟩
set_option maxHeartbeats 4000000 in
theorem among_spec (xs : List Int) {v : Value} {H : Nat → Obj → Prop} {bc N : Nat} {e : Ent} {w0 w : World} {L : List Ent} (hO : OwnE w0 w (e :: L)) (hv : Rd I 1 H xs v) (hH : Val w0 L H) (hne : xs ≠ []) (hC : CurAt w0 41 bc N e) (hN : N ≤ 4000000000900000) : Calls Try.prog 38 ⟨[.pointer (some ⟨bc, 0, none⟩), v]⟩ w (Ret (fun v w => ∃ e', ((∃ n ∈ xs, v = .int .i64 n) ∧ CurAt w0 41 bc (N + 2) e') ∧ OwnE w0 w (e' :: L))) := by
  refine enter Try.func38 rfl Try.ntmps38 rfl ?_
  intro a h
  obtain ⟨A, c, rfl, hc, hr⟩ := hv
  refine seq ?_
  refine region ?_
  refine so h hO (yl_assign h rfl) rfl ?_; clear h a; intro a h
  refine endL ?_
  refine then_n ?_
  refine seq ?_
  refine region ?_
  refine so h hO (yl_move h rfl) rfl ?_; clear h a; intro a h
  refine so h hO (yl_move h rfl) rfl ?_; clear h a; intro a h
  refine so h hO (yl_move h rfl) rfl ?_; clear h a; intro a h
  refine so h hO (yl_len h rfl p0) rfl ?_; clear h a; intro a h
  refine callR h rfl rfl p19 (lift0 (fun M hk_ hO => pick_spec _ (N := _) hO (by assumption) (by omega)) hO (by intro e_; first | with_reducible exact .here | with_reducible exact .there (.here) | with_reducible exact .there (.there (.here)) | with_reducible exact .there (.there (.there (.here))) | with_reducible exact .there (.there (.there (.there (.here)))) | with_reducible exact .there (.there (.there (.there (.there (.here))))) | with_reducible exact .there (.there (.there (.there (.there (.there (.here)))))) | with_reducible exact .there (.there (.there (.there (.there (.there (.there (.here))))))) | with_reducible exact .there (.there (.there (.there (.there (.there (.there (.there (.here)))))))) | with_reducible exact .there (.there (.there (.there (.there (.there (.there (.there (.there (.here))))))))) | with_reducible exact .there (.there (.there (.there (.there (.there (.there (.there (.there (.there (.here)))))))))) | with_reducible exact .there (.there (.there (.there (.there (.there (.there (.there (.there (.there (.there (.here))))))))))) | with_reducible exact .there (.there (.there (.there (.there (.there (.there (.there (.there (.there (.there (.there (.here)))))))))))) | with_reducible exact .there (.there (.there (.there (.there (.there (.there (.there (.there (.there (.there (.there (.there (.here))))))))))))))) rfl ?_; clear h a hO w
  rintro _ w ⟨ec, ⟨⟨r, rfl, hr0, hr1⟩, hC⟩, hO⟩ a h
  have hl0 : 0 < xs.length := List.length_pos_iff.2 hne
  refine so h hO (yl_ix h rfl rfl p0 (by assumption) (by simp) (by omega)) rfl ?_; clear h a; intro a h
  refine so h hO (yl_ld1 h rfl p1 (by assumption) (by first | assumption | exact Val.sub (by assumption) (by repeat (first | with_reducible exact List.Sublist.refl _ | with_reducible refine List.Sublist.cons_cons _ ?_ | refine List.Sublist.cons _ ?_)) | with_reducible exact Val.ext _ _ | exact Val.ent (by first | with_reducible exact mem0 | with_reducible exact memS (mem0) | with_reducible exact memS (memS (mem0)) | with_reducible exact memS (memS (memS (mem0))) | with_reducible exact memS (memS (memS (memS (mem0)))) | with_reducible exact memS (memS (memS (memS (memS (mem0))))) | with_reducible exact memS (memS (memS (memS (memS (memS (mem0)))))) | with_reducible exact memS (memS (memS (memS (memS (memS (memS (mem0))))))) | with_reducible exact memS (memS (memS (memS (memS (memS (memS (memS (mem0)))))))) | with_reducible exact memS (memS (memS (memS (memS (memS (memS (memS (memS (mem0))))))))) | with_reducible exact memS (memS (memS (memS (memS (memS (memS (memS (memS (memS (mem0)))))))))) | with_reducible exact memS (memS (memS (memS (memS (memS (memS (memS (memS (memS (memS (mem0))))))))))) | with_reducible exact memS (memS (memS (memS (memS (memS (memS (memS (memS (memS (memS (memS (mem0)))))))))))) | with_reducible exact memS (memS (memS (memS (memS (memS (memS (memS (memS (memS (memS (memS (memS (mem0))))))))))))))) (by omega) (fun _ => rfl)) rfl ?_; clear h a; intro a h
  refine so h hO (yl_assign h rfl) rfl ?_; clear h a; intro a h
  refine endL ?_
  refine then_n ?_
  refine retc ?_
  refine ret1 h hO Try.results38 (.tmp rfl .nil) ?_
  refine Ret.mk ?_
  exact ⟨_, ⟨⟨_, getD_mem (by omega), rfl⟩, hC⟩, hO⟩
set_option maxHeartbeats 4000000 in
theorem l7Drop_spec (n : Int) (xs : List Int) {v : Value} {H : Nat → Obj → Prop} {w0 w : World} {L : List Ent} (hO : OwnE w0 w L) (hv : Rd I 1 H xs v) (hH : Val w0 L H) (hb : xs.length ≤ 4294967000) : Calls Try.prog 46 ⟨[v, .int .i64 n]⟩ w (Ret (fun v w => ∃ e, Mu I 3 1 (xs.filter fun x => decide (x ≠ n)) v e ∧ OwnE w0 w (e :: L))) := by
  refine enter Try.func46 rfl Try.ntmps46 rfl ?_
  intro a h
  obtain ⟨A, c, rfl, hc, hr⟩ := hv
  refine seq ?_
  refine region ?_
  refine so h hO (yl_assign h rfl) rfl ?_; clear h a; intro a h
  refine endL ?_
  refine then_n ?_
  refine seq ?_
  refine region ?_
  refine stepBuildAll (us := []) h hO rfl p0 rfl p4 rfl rfl rfl rfl rfl ?_; clear h hO a w; intro a b7 w h hO
  refine so h hO (yl_assign h rfl) rfl ?_; clear h a; intro a h
  refine endL ?_
  refine then_n ?_
  refine seq ?_
  refine seq ?_
  refine region ?_
  refine so h hO (yl_assign h rfl) rfl ?_; clear h a; intro a h
  refine endL ?_
  refine then_n ?_
  refine block ?_
  refine loop (fun (k : Nat) a w => ∃ (u : Value) (e : Ent), k ≤ xs.length ∧ (Mu I 3 1 ((xs.take k).filter fun x => decide (x ≠ n)) u e) ∧ St 28 [] [(0, .slice A xs.length c), (1, .int .i64 n), (5, u), (6, .int .i64 k)] a ∧ OwnE w0 w (e :: L)) (fun k => xs.length - k) 0 ?_ ?_
  · exact ⟨_, _, Nat.zero_le _, Mu.nil' _ _ _ _, h.weak (subB_cons rfl (subB_cons rfl (subB_cons rfl (subB_cons rfl (subB_nil))))), hO⟩
  · clear h a hO w
    rintro k a w ⟨u, e, hk, hM, h, hO⟩
    obtain ⟨A1, c1, rfl, hc1⟩ := hM.form
    have hfl := List.length_filter_le (fun x => decide (x ≠ n)) (xs.take k)
    have htl := List.length_take_le k xs
    refine seq ?_
    refine seq ?_
    refine region ?_
    refine so h hO (yl_move h rfl) rfl ?_; clear h a; intro a h
    refine so h hO (yl_move h rfl) rfl ?_; clear h a; intro a h
    refine so h hO (yl_len h rfl p0) rfl ?_; clear h a; intro a h
    refine so h hO (yl_lt h rfl rfl) rfl ?_; clear h a; intro a h
    refine endL ?_
    refine then_n ?_
    refine cond_s h rfl (fun hb1 => ?_) (fun hb1 => ?_)
    · have hp1 := hb1
      try simp only [decide_eq_true_eq, decide_eq_false_iff_not, Bool.not_eq_true', Bool.not_eq_false', Int.not_lt, Int.not_le, ne_eq, Decidable.not_not] at hp1
      refine skip ?_
      refine then_n ?_
      refine seq ?_
      refine block ?_
      refine seq ?_
      refine region ?_
      refine so h hO (yl_move h rfl) rfl ?_; clear h a; intro a h
      refine so h hO (yl_move h rfl) rfl ?_; clear h a; intro a h
      refine so h hO (yl_ix h rfl rfl p0 (by assumption) (by simp) (by omega)) rfl ?_; clear h a; intro a h
      refine so h hO (yl_ld1 h rfl p1 (by assumption) (by first | assumption | exact Val.sub (by assumption) (by repeat (first | with_reducible exact List.Sublist.refl _ | with_reducible refine List.Sublist.cons_cons _ ?_ | refine List.Sublist.cons _ ?_)) | with_reducible exact Val.ext _ _ | exact Val.ent (by first | with_reducible exact mem0 | with_reducible exact memS (mem0) | with_reducible exact memS (memS (mem0)) | with_reducible exact memS (memS (memS (mem0))) | with_reducible exact memS (memS (memS (memS (mem0)))) | with_reducible exact memS (memS (memS (memS (memS (mem0))))) | with_reducible exact memS (memS (memS (memS (memS (memS (mem0)))))) | with_reducible exact memS (memS (memS (memS (memS (memS (memS (mem0))))))) | with_reducible exact memS (memS (memS (memS (memS (memS (memS (memS (mem0)))))))) | with_reducible exact memS (memS (memS (memS (memS (memS (memS (memS (memS (mem0))))))))) | with_reducible exact memS (memS (memS (memS (memS (memS (memS (memS (memS (memS (mem0)))))))))) | with_reducible exact memS (memS (memS (memS (memS (memS (memS (memS (memS (memS (memS (mem0))))))))))) | with_reducible exact memS (memS (memS (memS (memS (memS (memS (memS (memS (memS (memS (memS (mem0)))))))))))) | with_reducible exact memS (memS (memS (memS (memS (memS (memS (memS (memS (memS (memS (memS (memS (mem0))))))))))))))) (by omega) (fun _ => rfl)) rfl ?_; clear h a; intro a h
      refine so h hO (yl_move h rfl) rfl ?_; clear h a; intro a h
      refine so h hO (yl_ne h rfl rfl) rfl ?_; clear h a; intro a h
      refine endL ?_
      refine then_n ?_
      refine cond_s h rfl (fun hb2 => ?_) (fun hb2 => ?_)
      · have hp2 := hb2
        try simp only [decide_eq_true_eq, decide_eq_false_iff_not, Bool.not_eq_true', Bool.not_eq_false', Int.not_lt, Int.not_le, ne_eq, Decidable.not_not] at hp2
        refine region ?_
        refine so h hO (yl_move h rfl) rfl ?_; clear h a; intro a h
        refine so h hO (yl_move h rfl) rfl ?_; clear h a; intro a h
        refine so h hO (yl_move h rfl) rfl ?_; clear h a; intro a h
        refine so h hO (yl_ix h rfl rfl p0 (by assumption) (by simp) (by omega)) rfl ?_; clear h a; intro a h
        refine so h hO (yl_ld1 h rfl p1 (by assumption) (by first | assumption | exact Val.sub (by assumption) (by repeat (first | with_reducible exact List.Sublist.refl _ | with_reducible refine List.Sublist.cons_cons _ ?_ | refine List.Sublist.cons _ ?_)) | with_reducible exact Val.ext _ _ | exact Val.ent (by first | with_reducible exact mem0 | with_reducible exact memS (mem0) | with_reducible exact memS (memS (mem0)) | with_reducible exact memS (memS (memS (mem0))) | with_reducible exact memS (memS (memS (memS (mem0)))) | with_reducible exact memS (memS (memS (memS (memS (mem0))))) | with_reducible exact memS (memS (memS (memS (memS (memS (mem0)))))) | with_reducible exact memS (memS (memS (memS (memS (memS (memS (mem0))))))) | with_reducible exact memS (memS (memS (memS (memS (memS (memS (memS (mem0)))))))) | with_reducible exact memS (memS (memS (memS (memS (memS (memS (memS (memS (mem0))))))))) | with_reducible exact memS (memS (memS (memS (memS (memS (memS (memS (memS (memS (mem0)))))))))) | with_reducible exact memS (memS (memS (memS (memS (memS (memS (memS (memS (memS (memS (mem0))))))))))) | with_reducible exact memS (memS (memS (memS (memS (memS (memS (memS (memS (memS (memS (memS (mem0)))))))))))) | with_reducible exact memS (memS (memS (memS (memS (memS (memS (memS (memS (memS (memS (memS (memS (mem0))))))))))))))) (by omega) (fun _ => rfl)) rfl ?_; clear h a; intro a h
        refine stepBuildAll (us := [_]) h hO rfl p0 rfl p4 rfl rfl rfl rfl rfl ?_; clear h hO a w; intro a b25 w h hO
        refine stepApp  h hO rfl rfl p5 rfl (by assumption) (by first | with_reducible exact mem0 | with_reducible exact memS (mem0) | with_reducible exact memS (memS (mem0)) | with_reducible exact memS (memS (memS (mem0))) | with_reducible exact memS (memS (memS (memS (mem0)))) | with_reducible exact memS (memS (memS (memS (memS (mem0))))) | with_reducible exact memS (memS (memS (memS (memS (memS (mem0)))))) | with_reducible exact memS (memS (memS (memS (memS (memS (memS (mem0))))))) | with_reducible exact memS (memS (memS (memS (memS (memS (memS (memS (mem0)))))))) | with_reducible exact memS (memS (memS (memS (memS (memS (memS (memS (memS (mem0))))))))) | with_reducible exact memS (memS (memS (memS (memS (memS (memS (memS (memS (memS (mem0)))))))))) | with_reducible exact memS (memS (memS (memS (memS (memS (memS (memS (memS (memS (memS (mem0))))))))))) | with_reducible exact memS (memS (memS (memS (memS (memS (memS (memS (memS (memS (memS (memS (mem0)))))))))))) | with_reducible exact memS (memS (memS (memS (memS (memS (memS (memS (memS (memS (memS (memS (memS (mem0)))))))))))))) (by rfl) (by rfl) (by rfl) (by first | omega | (simp; omega) | exact Nat.le_trans (List.length_filter_le _ _) (by omega)) (by intro e_; first | with_reducible exact .here | with_reducible exact .there (.here) | with_reducible exact .there (.there (.here)) | with_reducible exact .there (.there (.there (.here))) | with_reducible exact .there (.there (.there (.there (.here)))) | with_reducible exact .there (.there (.there (.there (.there (.here))))) | with_reducible exact .there (.there (.there (.there (.there (.there (.here)))))) | with_reducible exact .there (.there (.there (.there (.there (.there (.there (.here))))))) | with_reducible exact .there (.there (.there (.there (.there (.there (.there (.there (.here)))))))) | with_reducible exact .there (.there (.there (.there (.there (.there (.there (.there (.there (.here))))))))) | with_reducible exact .there (.there (.there (.there (.there (.there (.there (.there (.there (.there (.here)))))))))) | with_reducible exact .there (.there (.there (.there (.there (.there (.there (.there (.there (.there (.there (.here))))))))))) | with_reducible exact .there (.there (.there (.there (.there (.there (.there (.there (.there (.there (.there (.there (.here)))))))))))) | with_reducible exact .there (.there (.there (.there (.there (.there (.there (.there (.there (.there (.there (.there (.there (.here)))))))))))))) rfl ?_
        clear h hO a w; intro a v26 e26 w h hM26 hO
        obtain ⟨A26, c26, rfl, hc26⟩ := hM26.form
        have hr26 := hM26.rr
        refine so h hO (yl_assign h rfl) rfl ?_; clear h a; intro a h
        refine endL ?_
        refine inB_n ?_
        refine then_n ?_
        refine region ?_
        refine so h hO (yl_move h rfl) rfl ?_; clear h a; intro a h
        first | (refine so h hO (yl_add64 h rfl rfl (by omega)) rfl ?_) | (refine so h hO (yl_add h rfl rfl) rfl ?_)
        clear h a; intro a h
        refine so h hO (yl_assign h rfl) rfl ?_; clear h a; intro a h
        refine endL ?_
        refine then_n ?_
        have hk1 : k < xs.length := by omega
        try simp only [Int.toNat_natCast] at *
        have ht := getD_take_succ (xs := xs) hk1
        exact ⟨k + 1, by omega, _, _, by omega, (by rw [ht, List.filter_append, show ([xs.getD k default].filter fun x => decide (x ≠ n)) = [xs.getD k default] by simpa using hp2]; exact hM26), h.weak (subB_cons rfl (subB_cons rfl (subB_cons rfl (subB_cons rfl (subB_nil))))), (by exact hO.sub (by repeat (first | with_reducible exact List.Sublist.refl _ | with_reducible refine List.Sublist.cons_cons _ ?_ | refine List.Sublist.cons _ ?_)))⟩
      · have hp2 := hb2
        try simp only [decide_eq_true_eq, decide_eq_false_iff_not, Bool.not_eq_true', Bool.not_eq_false', Int.not_lt, Int.not_le, ne_eq, Decidable.not_not] at hp2
        refine skip ?_
        refine inB_n ?_
        refine then_n ?_
        refine region ?_
        refine so h hO (yl_move h rfl) rfl ?_; clear h a; intro a h
        first | (refine so h hO (yl_add64 h rfl rfl (by omega)) rfl ?_) | (refine so h hO (yl_add h rfl rfl) rfl ?_)
        clear h a; intro a h
        refine so h hO (yl_assign h rfl) rfl ?_; clear h a; intro a h
        refine endL ?_
        refine then_n ?_
        have hk1 : k < xs.length := by omega
        try simp only [Int.toNat_natCast] at *
        have ht := getD_take_succ (xs := xs) hk1
        exact ⟨k + 1, by omega, _, _, by omega, (by rw [ht, List.filter_append, show ([xs.getD k default].filter fun x => decide (x ≠ n)) = [] by simpa using hp2, List.append_nil]; exact hM), h.weak (subB_cons rfl (subB_cons rfl (subB_cons rfl (subB_cons rfl (subB_nil))))), (by exact hO)⟩
    · have hp1 := hb1
      try simp only [decide_eq_true_eq, decide_eq_false_iff_not, Bool.not_eq_true', Bool.not_eq_false', Int.not_lt, Int.not_le, ne_eq, Decidable.not_not] at hp1
      refine exit_ ?_
      refine then_x ?_
      refine then_x ?_
      refine inB_same ?_
      refine then_n ?_
      refine seq ?_
      refine region ?_
      refine so h hO (yl_move h rfl) rfl ?_; clear h a; intro a h
      refine so h hO (yl_assign h rfl) rfl ?_; clear h a; intro a h
      refine endL ?_
      refine then_n ?_
      refine retc ?_
      refine ret1 h hO Try.results46 (.tmp rfl .nil) ?_
      refine Ret.mk ?_
      have hk1 : k = xs.length := by omega
      subst hk1
      simp only [List.take_length] at hM ⊢
      exact ⟨_, hM, hO⟩
set_option maxHeartbeats 4000000 in
theorem l7Read_spec (xs : List Int) {v : Value} {H : Nat → Obj → Prop} {w0 w : World} {L : List Ent} (hO : OwnE w0 w L) (hv : Rd I 1 H xs v) (hH : Val w0 L H) (hsm : ∀ x ∈ xs, -32767 ≤ x ∧ x ≤ 32767) (hb : xs.length ≤ 4294960000) : Calls Try.prog 26 ⟨[v]⟩ w (Ret (fun v w => ∃ v1 v2 e1 e2, v = .tuple ⟨[v1, v2]⟩ ∧ Mu I 3 1 (opens xs) v1 e1 ∧ Mu I 3 1 (faults xs) v2 e2 ∧ OwnE w0 w (e1 :: e2 :: L))) := by
  refine enter Try.func26 rfl Try.ntmps26 rfl ?_
  intro a h
  obtain ⟨A, c, rfl, hc, hr⟩ := hv
  refine seq ?_
  refine region ?_
  refine so h hO (yl_assign h rfl) rfl ?_; clear h a; intro a h
  refine so h hO (yl_assign h rfl) rfl ?_; clear h a; intro a h
  refine endL ?_
  refine then_n ?_
  refine seq ?_
  refine region ?_
  refine stepBuildAll (us := []) h hO rfl p0 rfl p4 rfl rfl rfl rfl rfl ?_; clear h hO a w; intro a b8 w h hO
  refine stepBuildAll (us := []) h hO rfl p0 rfl p4 rfl rfl rfl rfl rfl ?_; clear h hO a w; intro a b9 w h hO
  refine so h hO (yl_assign h rfl) rfl ?_; clear h a; intro a h
  refine so h hO (yl_assign h rfl) rfl ?_; clear h a; intro a h
  refine endL ?_
  refine then_n ?_
  refine seq ?_
  refine seq ?_
  refine region ?_
  refine so h hO (yl_assign h rfl) rfl ?_; clear h a; intro a h
  refine endL ?_
  refine then_n ?_
  refine block ?_
  refine loop (fun (k : Nat) a w => ∃ (u1 u2 : Value) (e1 e2 : Ent), k ≤ xs.length ∧ (Mu I 3 1 (opens (xs.take k)) u1 e1) ∧ (Mu I 3 1 (faults (xs.take k)) u2 e2) ∧ St 58 [] [(0, .slice A xs.length c), (4, u1), (5, u2), (6, .int .i64 k)] a ∧ OwnE w0 w (e1 :: e2 :: L)) (fun k => xs.length - k) 0 ?_ ?_
  · refine ⟨_, _, _, _, Nat.zero_le _, Mu.nil' _ _ _ _, Mu.nil' _ _ _ _, h.weak (subB_cons rfl (subB_cons rfl (subB_cons rfl (subB_cons rfl (subB_nil))))), ?_⟩
    exact hO.swap
  · clear h a hO w
    rintro k a w ⟨u1, u2, e1, e2, hk, hM1, hM2, h, hO⟩
    obtain ⟨A1, c1, rfl, hc1⟩ := hM1.form
    have hrd1 := hM1.rd
    have hr1 := hM1.rr
    obtain ⟨A2, c2, rfl, hc2⟩ := hM2.form
    have hl1 := opens_le (xs.take k)
    have hl2 := faults_len (xs.take k)
    have htl := List.length_take_le k xs
    refine seq ?_
    refine seq ?_
    refine region ?_
    refine so h hO (yl_move h rfl) rfl ?_; clear h a; intro a h
    refine so h hO (yl_move h rfl) rfl ?_; clear h a; intro a h
    refine so h hO (yl_len h rfl p0) rfl ?_; clear h a; intro a h
    refine so h hO (yl_lt h rfl rfl) rfl ?_; clear h a; intro a h
    refine endL ?_
    refine then_n ?_
    refine cond_s h rfl (fun hb1 => ?_) (fun hb1 => ?_)
    · have hp1 := hb1
      try simp only [decide_eq_true_eq, decide_eq_false_iff_not, Bool.not_eq_true', Bool.not_eq_false', Int.not_lt, Int.not_le, ne_eq, Decidable.not_not] at hp1
      refine skip ?_
      refine then_n ?_
      refine seq ?_
      refine block ?_
      refine seq ?_
      refine regionQ (C := fun w => OwnE w0 w _) (by kernel_rfl) (by kernel_rfl) hO.drew ?_
      clear hO w
      have hx := hsm _ (getD_mem (xs := xs) (k := k) (by omega))
      rw [show k = ((k : Int)).toNat by simp] at hx
      refine stepQ h (yl_move h rfl) rfl ?_; clear h a; intro a h
      refine stepQ h (yl_move h rfl) rfl ?_; clear h a; intro a h
      refine stepQ h (yl_ix h rfl rfl p0 (by assumption) (by simp) (by omega)) rfl ?_; clear h a; intro a h
      refine stepQ h (yl_ld1 h rfl p1 (by assumption) (by first | assumption | exact Val.sub (by assumption) (by repeat (first | with_reducible exact List.Sublist.refl _ | with_reducible refine List.Sublist.cons_cons _ ?_ | refine List.Sublist.cons _ ?_)) | with_reducible exact Val.ext _ _ | exact Val.ent (by first | with_reducible exact mem0 | with_reducible exact memS (mem0) | with_reducible exact memS (memS (mem0)) | with_reducible exact memS (memS (memS (mem0))) | with_reducible exact memS (memS (memS (memS (mem0)))) | with_reducible exact memS (memS (memS (memS (memS (mem0))))) | with_reducible exact memS (memS (memS (memS (memS (memS (mem0)))))) | with_reducible exact memS (memS (memS (memS (memS (memS (memS (mem0))))))) | with_reducible exact memS (memS (memS (memS (memS (memS (memS (memS (mem0)))))))) | with_reducible exact memS (memS (memS (memS (memS (memS (memS (memS (memS (mem0))))))))) | with_reducible exact memS (memS (memS (memS (memS (memS (memS (memS (memS (memS (mem0)))))))))) | with_reducible exact memS (memS (memS (memS (memS (memS (memS (memS (memS (memS (memS (mem0))))))))))) | with_reducible exact memS (memS (memS (memS (memS (memS (memS (memS (memS (memS (memS (memS (mem0)))))))))))) | with_reducible exact memS (memS (memS (memS (memS (memS (memS (memS (memS (memS (memS (memS (memS (mem0))))))))))))))) (by omega) (fun _ => rfl)) rfl ?_; clear h a; intro a h
      refine stepQ h (yl_move h rfl) rfl ?_; clear h a; intro a h
      refine stepQ h (yl_move h rfl) rfl ?_; clear h a; intro a h
      refine stepQ h (yl_ix h rfl rfl p0 (by assumption) (by simp) (by omega)) rfl ?_; clear h a; intro a h
      refine stepQ h (yl_ld1 h rfl p1 (by assumption) (by first | assumption | exact Val.sub (by assumption) (by repeat (first | with_reducible exact List.Sublist.refl _ | with_reducible refine List.Sublist.cons_cons _ ?_ | refine List.Sublist.cons _ ?_)) | with_reducible exact Val.ext _ _ | exact Val.ent (by first | with_reducible exact mem0 | with_reducible exact memS (mem0) | with_reducible exact memS (memS (mem0)) | with_reducible exact memS (memS (memS (mem0))) | with_reducible exact memS (memS (memS (memS (mem0)))) | with_reducible exact memS (memS (memS (memS (memS (mem0))))) | with_reducible exact memS (memS (memS (memS (memS (memS (mem0)))))) | with_reducible exact memS (memS (memS (memS (memS (memS (memS (mem0))))))) | with_reducible exact memS (memS (memS (memS (memS (memS (memS (memS (mem0)))))))) | with_reducible exact memS (memS (memS (memS (memS (memS (memS (memS (memS (mem0))))))))) | with_reducible exact memS (memS (memS (memS (memS (memS (memS (memS (memS (memS (mem0)))))))))) | with_reducible exact memS (memS (memS (memS (memS (memS (memS (memS (memS (memS (memS (mem0))))))))))) | with_reducible exact memS (memS (memS (memS (memS (memS (memS (memS (memS (memS (memS (memS (mem0)))))))))))) | with_reducible exact memS (memS (memS (memS (memS (memS (memS (memS (memS (memS (memS (memS (memS (mem0))))))))))))))) (by omega) (fun _ => rfl)) rfl ?_; clear h a; intro a h
      first | (refine stepQ h (yl_neg64 h rfl (by omega)) rfl ?_) | (refine stepQ h (yl_neg h rfl) rfl ?_)
      clear h a; intro a h
      refine callQ h rfl rfl p20 (fun w hO => (l1Most_spec _ _ hO)) rfl ?_; clear h a; intro a h
      refine stepQ h (yl_assign h rfl) rfl ?_; clear h a; intro a h
      refine endQ ?_; intro w hO
      refine then_n ?_
      refine seq ?_
      refine seq ?_
      refine region ?_
      refine so h hO (yl_move h rfl) rfl ?_; clear h a; intro a h
      refine so h hO (yl_move h rfl) rfl ?_; clear h a; intro a h
      refine so h hO (yl_ix h rfl rfl p0 (by assumption) (by simp) (by omega)) rfl ?_; clear h a; intro a h
      refine so h hO (yl_ld1 h rfl p1 (by assumption) (by first | assumption | exact Val.sub (by assumption) (by repeat (first | with_reducible exact List.Sublist.refl _ | with_reducible refine List.Sublist.cons_cons _ ?_ | refine List.Sublist.cons _ ?_)) | with_reducible exact Val.ext _ _ | exact Val.ent (by first | with_reducible exact mem0 | with_reducible exact memS (mem0) | with_reducible exact memS (memS (mem0)) | with_reducible exact memS (memS (memS (mem0))) | with_reducible exact memS (memS (memS (memS (mem0)))) | with_reducible exact memS (memS (memS (memS (memS (mem0))))) | with_reducible exact memS (memS (memS (memS (memS (memS (mem0)))))) | with_reducible exact memS (memS (memS (memS (memS (memS (memS (mem0))))))) | with_reducible exact memS (memS (memS (memS (memS (memS (memS (memS (mem0)))))))) | with_reducible exact memS (memS (memS (memS (memS (memS (memS (memS (memS (mem0))))))))) | with_reducible exact memS (memS (memS (memS (memS (memS (memS (memS (memS (memS (mem0)))))))))) | with_reducible exact memS (memS (memS (memS (memS (memS (memS (memS (memS (memS (memS (mem0))))))))))) | with_reducible exact memS (memS (memS (memS (memS (memS (memS (memS (memS (memS (memS (memS (mem0)))))))))))) | with_reducible exact memS (memS (memS (memS (memS (memS (memS (memS (memS (memS (memS (memS (memS (mem0))))))))))))))) (by omega) (fun _ => rfl)) rfl ?_; clear h a; intro a h
      refine so h hO (yl_eq h rfl rfl) rfl ?_; clear h a; intro a h
      refine endL ?_
      refine then_n ?_
      refine cond_s h rfl (fun hb2 => ?_) (fun hb2 => ?_)
      · have hp2 := hb2
        try simp only [decide_eq_true_eq, decide_eq_false_iff_not, Bool.not_eq_true', Bool.not_eq_false', Int.not_lt, Int.not_le, ne_eq, Decidable.not_not] at hp2
        refine exit_ ?_
        refine then_x ?_
        refine inB_same ?_
        refine then_n ?_
        refine region ?_
        refine so h hO (yl_move h rfl) rfl ?_; clear h a; intro a h
        first | (refine so h hO (yl_add64 h rfl rfl (by omega)) rfl ?_) | (refine so h hO (yl_add h rfl rfl) rfl ?_)
        clear h a; intro a h
        refine so h hO (yl_assign h rfl) rfl ?_; clear h a; intro a h
        refine endL ?_
        refine then_n ?_
        have hk1 : k < xs.length := by omega
        try simp only [Int.toNat_natCast] at *
        have ht := getD_take_succ (xs := xs) hk1
        exact ⟨k + 1, by omega, _, _, _, _, by omega, (by rw [ht, opens_snoc, hp2, stp_zero]; exact hM1), (by rw [ht, faults_snoc, hp2, flt_zero, if_neg (by decide), List.append_nil]; exact hM2), h.weak (subB_cons rfl (subB_cons rfl (subB_cons rfl (subB_cons rfl (subB_nil))))), (by exact hO.sub (by repeat (first | with_reducible exact List.Sublist.refl _ | with_reducible refine List.Sublist.cons_cons _ ?_ | refine List.Sublist.cons _ ?_)))⟩
      · have hp2 := hb2
        try simp only [decide_eq_true_eq, decide_eq_false_iff_not, Bool.not_eq_true', Bool.not_eq_false', Int.not_lt, Int.not_le, ne_eq, Decidable.not_not] at hp2
        refine skip ?_
        refine then_n ?_
        refine seq ?_
        refine seq ?_
        refine regionQ (C := fun w => OwnE w0 w _) (by kernel_rfl) (by kernel_rfl) hO.drew ?_
        clear hO w
        refine stepQ h (yl_move h rfl) rfl ?_; clear h a; intro a h
        refine stepQ h (yl_move h rfl) rfl ?_; clear h a; intro a h
        refine callQ h rfl rfl p21 (fun w hO => (l1Has_spec _ _ hO (by assumption) (by first | assumption | exact Val.sub (by assumption) (by repeat (first | with_reducible exact List.Sublist.refl _ | with_reducible refine List.Sublist.cons_cons _ ?_ | refine List.Sublist.cons _ ?_)) | with_reducible exact Val.ext _ _ | exact Val.ent (by first | with_reducible exact mem0 | with_reducible exact memS (mem0) | with_reducible exact memS (memS (mem0)) | with_reducible exact memS (memS (memS (mem0))) | with_reducible exact memS (memS (memS (memS (mem0)))) | with_reducible exact memS (memS (memS (memS (memS (mem0))))) | with_reducible exact memS (memS (memS (memS (memS (memS (mem0)))))) | with_reducible exact memS (memS (memS (memS (memS (memS (memS (mem0))))))) | with_reducible exact memS (memS (memS (memS (memS (memS (memS (memS (mem0)))))))) | with_reducible exact memS (memS (memS (memS (memS (memS (memS (memS (memS (mem0))))))))) | with_reducible exact memS (memS (memS (memS (memS (memS (memS (memS (memS (memS (mem0)))))))))) | with_reducible exact memS (memS (memS (memS (memS (memS (memS (memS (memS (memS (memS (mem0))))))))))) | with_reducible exact memS (memS (memS (memS (memS (memS (memS (memS (memS (memS (memS (memS (mem0)))))))))))) | with_reducible exact memS (memS (memS (memS (memS (memS (memS (memS (memS (memS (memS (memS (memS (mem0))))))))))))))))) rfl ?_; clear h a; intro a h
        refine stepQ h (yl_move h rfl) rfl ?_; clear h a; intro a h
        refine stepQ h (yl_move h rfl) rfl ?_; clear h a; intro a h
        refine stepQ h (yl_ix h rfl rfl p0 (by assumption) (by simp) (by omega)) rfl ?_; clear h a; intro a h
        refine stepQ h (yl_ld1 h rfl p1 (by assumption) (by first | assumption | exact Val.sub (by assumption) (by repeat (first | with_reducible exact List.Sublist.refl _ | with_reducible refine List.Sublist.cons_cons _ ?_ | refine List.Sublist.cons _ ?_)) | with_reducible exact Val.ext _ _ | exact Val.ent (by first | with_reducible exact mem0 | with_reducible exact memS (mem0) | with_reducible exact memS (memS (mem0)) | with_reducible exact memS (memS (memS (mem0))) | with_reducible exact memS (memS (memS (memS (mem0)))) | with_reducible exact memS (memS (memS (memS (memS (mem0))))) | with_reducible exact memS (memS (memS (memS (memS (memS (mem0)))))) | with_reducible exact memS (memS (memS (memS (memS (memS (memS (mem0))))))) | with_reducible exact memS (memS (memS (memS (memS (memS (memS (memS (mem0)))))))) | with_reducible exact memS (memS (memS (memS (memS (memS (memS (memS (memS (mem0))))))))) | with_reducible exact memS (memS (memS (memS (memS (memS (memS (memS (memS (memS (mem0)))))))))) | with_reducible exact memS (memS (memS (memS (memS (memS (memS (memS (memS (memS (memS (mem0))))))))))) | with_reducible exact memS (memS (memS (memS (memS (memS (memS (memS (memS (memS (memS (memS (mem0)))))))))))) | with_reducible exact memS (memS (memS (memS (memS (memS (memS (memS (memS (memS (memS (memS (memS (mem0))))))))))))))) (by omega) (fun _ => rfl)) rfl ?_; clear h a; intro a h
        refine stepQ h (yl_gt h rfl rfl) rfl ?_; clear h a; intro a h
        refine stepQ h (yl_eqB h rfl rfl p22) rfl ?_; clear h a; intro a h
        refine endQ ?_; intro w hO
        refine then_n ?_
        refine cond_s h rfl (fun hb3 => ?_) (fun hb3 => ?_)
        · have hp3 := hb3
          try simp only [decide_eq_true_eq, decide_eq_false_iff_not, Bool.not_eq_true', Bool.not_eq_false', Int.not_lt, Int.not_le, ne_eq, Decidable.not_not] at hp3
          refine region ?_
          refine so h hO (yl_move h rfl) rfl ?_; clear h a; intro a h
          refine so h hO (yl_move h rfl) rfl ?_; clear h a; intro a h
          refine stepBuildAll (us := [_]) h hO rfl p0 rfl p4 rfl rfl rfl rfl rfl ?_; clear h hO a w; intro a b42 w h hO
          refine stepApp  h hO rfl rfl p5 rfl (by assumption) (by first | with_reducible exact mem0 | with_reducible exact memS (mem0) | with_reducible exact memS (memS (mem0)) | with_reducible exact memS (memS (memS (mem0))) | with_reducible exact memS (memS (memS (memS (mem0)))) | with_reducible exact memS (memS (memS (memS (memS (mem0))))) | with_reducible exact memS (memS (memS (memS (memS (memS (mem0)))))) | with_reducible exact memS (memS (memS (memS (memS (memS (memS (mem0))))))) | with_reducible exact memS (memS (memS (memS (memS (memS (memS (memS (mem0)))))))) | with_reducible exact memS (memS (memS (memS (memS (memS (memS (memS (memS (mem0))))))))) | with_reducible exact memS (memS (memS (memS (memS (memS (memS (memS (memS (memS (mem0)))))))))) | with_reducible exact memS (memS (memS (memS (memS (memS (memS (memS (memS (memS (memS (mem0))))))))))) | with_reducible exact memS (memS (memS (memS (memS (memS (memS (memS (memS (memS (memS (memS (mem0)))))))))))) | with_reducible exact memS (memS (memS (memS (memS (memS (memS (memS (memS (memS (memS (memS (memS (mem0)))))))))))))) (by rfl) (by rfl) (by rfl) (by first | omega | (simp; omega) | exact Nat.le_trans (List.length_filter_le _ _) (by omega)) (by intro e_; first | with_reducible exact .here | with_reducible exact .there (.here) | with_reducible exact .there (.there (.here)) | with_reducible exact .there (.there (.there (.here))) | with_reducible exact .there (.there (.there (.there (.here)))) | with_reducible exact .there (.there (.there (.there (.there (.here))))) | with_reducible exact .there (.there (.there (.there (.there (.there (.here)))))) | with_reducible exact .there (.there (.there (.there (.there (.there (.there (.here))))))) | with_reducible exact .there (.there (.there (.there (.there (.there (.there (.there (.here)))))))) | with_reducible exact .there (.there (.there (.there (.there (.there (.there (.there (.there (.here))))))))) | with_reducible exact .there (.there (.there (.there (.there (.there (.there (.there (.there (.there (.here)))))))))) | with_reducible exact .there (.there (.there (.there (.there (.there (.there (.there (.there (.there (.there (.here))))))))))) | with_reducible exact .there (.there (.there (.there (.there (.there (.there (.there (.there (.there (.there (.there (.here)))))))))))) | with_reducible exact .there (.there (.there (.there (.there (.there (.there (.there (.there (.there (.there (.there (.there (.here)))))))))))))) rfl ?_
          clear h hO a w; intro a v43 e43 w h hM43 hO
          obtain ⟨A43, c43, rfl, hc43⟩ := hM43.form
          have hr43 := hM43.rr
          refine so h hO (yl_assign h rfl) rfl ?_; clear h a; intro a h
          refine endL ?_
          refine then_n ?_
          refine seq ?_
          refine region ?_
          refine so h hO (yl_move h rfl) rfl ?_; clear h a; intro a h
          refine so h hO (yl_move h rfl) rfl ?_; clear h a; intro a h
          refine callR h rfl rfl p23 (l7Drop_spec _ _ hO (by assumption) (by first | assumption | exact Val.sub (by assumption) (by repeat (first | with_reducible exact List.Sublist.refl _ | with_reducible refine List.Sublist.cons_cons _ ?_ | refine List.Sublist.cons _ ?_)) | with_reducible exact Val.ext _ _ | exact Val.ent (by first | with_reducible exact mem0 | with_reducible exact memS (mem0) | with_reducible exact memS (memS (mem0)) | with_reducible exact memS (memS (memS (mem0))) | with_reducible exact memS (memS (memS (memS (mem0)))) | with_reducible exact memS (memS (memS (memS (memS (mem0))))) | with_reducible exact memS (memS (memS (memS (memS (memS (mem0)))))) | with_reducible exact memS (memS (memS (memS (memS (memS (memS (mem0))))))) | with_reducible exact memS (memS (memS (memS (memS (memS (memS (memS (mem0)))))))) | with_reducible exact memS (memS (memS (memS (memS (memS (memS (memS (memS (mem0))))))))) | with_reducible exact memS (memS (memS (memS (memS (memS (memS (memS (memS (memS (mem0)))))))))) | with_reducible exact memS (memS (memS (memS (memS (memS (memS (memS (memS (memS (memS (mem0))))))))))) | with_reducible exact memS (memS (memS (memS (memS (memS (memS (memS (memS (memS (memS (memS (mem0)))))))))))) | with_reducible exact memS (memS (memS (memS (memS (memS (memS (memS (memS (memS (memS (memS (memS (mem0))))))))))))))) (by first | assumption | omega)) rfl ?_; clear h a hO w
          rintro _ w ⟨ed, hMd, hO⟩ a h
          obtain ⟨Ad, cd, rfl, hcd⟩ := hMd.form
          have hrd_d := hMd.rd
          have hr_d := hMd.rr
          refine so h hO (yl_assign h rfl) rfl ?_; clear h a; intro a h
          refine endL ?_
          refine then_n ?_
          refine seq ?_
          refine region ?_
          refine so h hO (yl_move h rfl) rfl ?_; clear h a; intro a h
          refine so h hO (yl_move h rfl) rfl ?_; clear h a; intro a h
          refine so h hO (yl_ix h rfl rfl p0 (by assumption) (by simp) (by omega)) rfl ?_; clear h a; intro a h
          refine so h hO (yl_ld1 h rfl p1 (by assumption) (by first | assumption | exact Val.sub (by assumption) (by repeat (first | with_reducible exact List.Sublist.refl _ | with_reducible refine List.Sublist.cons_cons _ ?_ | refine List.Sublist.cons _ ?_)) | with_reducible exact Val.ext _ _ | exact Val.ent (by first | with_reducible exact mem0 | with_reducible exact memS (mem0) | with_reducible exact memS (memS (mem0)) | with_reducible exact memS (memS (memS (mem0))) | with_reducible exact memS (memS (memS (memS (mem0)))) | with_reducible exact memS (memS (memS (memS (memS (mem0))))) | with_reducible exact memS (memS (memS (memS (memS (memS (mem0)))))) | with_reducible exact memS (memS (memS (memS (memS (memS (memS (mem0))))))) | with_reducible exact memS (memS (memS (memS (memS (memS (memS (memS (mem0)))))))) | with_reducible exact memS (memS (memS (memS (memS (memS (memS (memS (memS (mem0))))))))) | with_reducible exact memS (memS (memS (memS (memS (memS (memS (memS (memS (memS (mem0)))))))))) | with_reducible exact memS (memS (memS (memS (memS (memS (memS (memS (memS (memS (memS (mem0))))))))))) | with_reducible exact memS (memS (memS (memS (memS (memS (memS (memS (memS (memS (memS (memS (mem0)))))))))))) | with_reducible exact memS (memS (memS (memS (memS (memS (memS (memS (memS (memS (memS (memS (memS (mem0))))))))))))))) (by omega) (fun _ => rfl)) rfl ?_; clear h a; intro a h
          refine so h hO (yl_gt h rfl rfl) rfl ?_; clear h a; intro a h
          refine endL ?_
          refine then_n ?_
          refine cond_s h rfl (fun hb4 => ?_) (fun hb4 => ?_)
          · have hp4 := hb4
            try simp only [decide_eq_true_eq, decide_eq_false_iff_not, Bool.not_eq_true', Bool.not_eq_false', Int.not_lt, Int.not_le, ne_eq, Decidable.not_not] at hp4
            refine region ?_
            refine so h hO (yl_move h rfl) rfl ?_; clear h a; intro a h
            refine so h hO (yl_move h rfl) rfl ?_; clear h a; intro a h
            refine stepBuildAll (us := [_]) h hO rfl p0 rfl p4 rfl rfl rfl rfl rfl ?_; clear h hO a w; intro a b54 w h hO
            refine stepApp  h hO rfl rfl p5 rfl (by assumption) (by first | with_reducible exact mem0 | with_reducible exact memS (mem0) | with_reducible exact memS (memS (mem0)) | with_reducible exact memS (memS (memS (mem0))) | with_reducible exact memS (memS (memS (memS (mem0)))) | with_reducible exact memS (memS (memS (memS (memS (mem0))))) | with_reducible exact memS (memS (memS (memS (memS (memS (mem0)))))) | with_reducible exact memS (memS (memS (memS (memS (memS (memS (mem0))))))) | with_reducible exact memS (memS (memS (memS (memS (memS (memS (memS (mem0)))))))) | with_reducible exact memS (memS (memS (memS (memS (memS (memS (memS (memS (mem0))))))))) | with_reducible exact memS (memS (memS (memS (memS (memS (memS (memS (memS (memS (mem0)))))))))) | with_reducible exact memS (memS (memS (memS (memS (memS (memS (memS (memS (memS (memS (mem0))))))))))) | with_reducible exact memS (memS (memS (memS (memS (memS (memS (memS (memS (memS (memS (memS (mem0)))))))))))) | with_reducible exact memS (memS (memS (memS (memS (memS (memS (memS (memS (memS (memS (memS (memS (mem0)))))))))))))) (by rfl) (by rfl) (by rfl) (by first | omega | (simp; omega) | exact Nat.le_trans (List.length_filter_le _ _) (by omega)) (by intro e_; first | with_reducible exact .here | with_reducible exact .there (.here) | with_reducible exact .there (.there (.here)) | with_reducible exact .there (.there (.there (.here))) | with_reducible exact .there (.there (.there (.there (.here)))) | with_reducible exact .there (.there (.there (.there (.there (.here))))) | with_reducible exact .there (.there (.there (.there (.there (.there (.here)))))) | with_reducible exact .there (.there (.there (.there (.there (.there (.there (.here))))))) | with_reducible exact .there (.there (.there (.there (.there (.there (.there (.there (.here)))))))) | with_reducible exact .there (.there (.there (.there (.there (.there (.there (.there (.there (.here))))))))) | with_reducible exact .there (.there (.there (.there (.there (.there (.there (.there (.there (.there (.here)))))))))) | with_reducible exact .there (.there (.there (.there (.there (.there (.there (.there (.there (.there (.there (.here))))))))))) | with_reducible exact .there (.there (.there (.there (.there (.there (.there (.there (.there (.there (.there (.there (.here)))))))))))) | with_reducible exact .there (.there (.there (.there (.there (.there (.there (.there (.there (.there (.there (.there (.there (.here)))))))))))))) rfl ?_
            clear h hO a w; intro a v55 e55 w h hM55 hO
            obtain ⟨A55, c55, rfl, hc55⟩ := hM55.form
            have hr55 := hM55.rr
            refine so h hO (yl_assign h rfl) rfl ?_; clear h a; intro a h
            refine endL ?_
            refine inB_n ?_
            refine then_n ?_
            refine region ?_
            refine so h hO (yl_move h rfl) rfl ?_; clear h a; intro a h
            first | (refine so h hO (yl_add64 h rfl rfl (by omega)) rfl ?_) | (refine so h hO (yl_add h rfl rfl) rfl ?_)
            clear h a; intro a h
            refine so h hO (yl_assign h rfl) rfl ?_; clear h a; intro a h
            refine endL ?_
            refine then_n ?_
            have hk1 : k < xs.length := by omega
            try simp only [Int.toNat_natCast] at *
            have ht := getD_take_succ (xs := xs) hk1
            exact ⟨k + 1, by omega, _, _, _, _, by omega, (by rw [ht, opens_snoc, stp_pos (by assumption)]; exact hM55), (by rw [ht, faults_snoc, flt_eq hp2, List.length_take, Nat.min_eq_left (by omega), hb3]; rw [if_pos rfl]; exact hM43), h.weak (subB_cons rfl (subB_cons rfl (subB_cons rfl (subB_cons rfl (subB_nil))))), (by exact hO.sub (by repeat (first | with_reducible exact List.Sublist.refl _ | with_reducible refine List.Sublist.cons_cons _ ?_ | refine List.Sublist.cons _ ?_)))⟩
          · have hp4 := hb4
            try simp only [decide_eq_true_eq, decide_eq_false_iff_not, Bool.not_eq_true', Bool.not_eq_false', Int.not_lt, Int.not_le, ne_eq, Decidable.not_not] at hp4
            refine skip ?_
            refine inB_n ?_
            refine then_n ?_
            refine region ?_
            refine so h hO (yl_move h rfl) rfl ?_; clear h a; intro a h
            first | (refine so h hO (yl_add64 h rfl rfl (by omega)) rfl ?_) | (refine so h hO (yl_add h rfl rfl) rfl ?_)
            clear h a; intro a h
            refine so h hO (yl_assign h rfl) rfl ?_; clear h a; intro a h
            refine endL ?_
            refine then_n ?_
            have hk1 : k < xs.length := by omega
            try simp only [Int.toNat_natCast] at *
            have ht := getD_take_succ (xs := xs) hk1
            exact ⟨k + 1, by omega, _, _, _, _, by omega, (by rw [ht, opens_snoc, stp_neg hp2 (by omega)]; exact hMd), (by rw [ht, faults_snoc, flt_eq hp2, List.length_take, Nat.min_eq_left (by omega), hb3]; rw [if_pos rfl]; exact hM43), h.weak (subB_cons rfl (subB_cons rfl (subB_cons rfl (subB_cons rfl (subB_nil))))), (by exact hO.sub (by repeat (first | with_reducible exact List.Sublist.refl _ | with_reducible refine List.Sublist.cons_cons _ ?_ | refine List.Sublist.cons _ ?_)))⟩
        · have hp3 := hb3
          try simp only [decide_eq_true_eq, decide_eq_false_iff_not, Bool.not_eq_true', Bool.not_eq_false', Int.not_lt, Int.not_le, ne_eq, Decidable.not_not] at hp3
          refine skip ?_
          refine then_n ?_
          refine seq ?_
          refine region ?_
          refine so h hO (yl_move h rfl) rfl ?_; clear h a; intro a h
          refine so h hO (yl_move h rfl) rfl ?_; clear h a; intro a h
          refine callR h rfl rfl p23 (l7Drop_spec _ _ hO (by assumption) (by first | assumption | exact Val.sub (by assumption) (by repeat (first | with_reducible exact List.Sublist.refl _ | with_reducible refine List.Sublist.cons_cons _ ?_ | refine List.Sublist.cons _ ?_)) | with_reducible exact Val.ext _ _ | exact Val.ent (by first | with_reducible exact mem0 | with_reducible exact memS (mem0) | with_reducible exact memS (memS (mem0)) | with_reducible exact memS (memS (memS (mem0))) | with_reducible exact memS (memS (memS (memS (mem0)))) | with_reducible exact memS (memS (memS (memS (memS (mem0))))) | with_reducible exact memS (memS (memS (memS (memS (memS (mem0)))))) | with_reducible exact memS (memS (memS (memS (memS (memS (memS (mem0))))))) | with_reducible exact memS (memS (memS (memS (memS (memS (memS (memS (mem0)))))))) | with_reducible exact memS (memS (memS (memS (memS (memS (memS (memS (memS (mem0))))))))) | with_reducible exact memS (memS (memS (memS (memS (memS (memS (memS (memS (memS (mem0)))))))))) | with_reducible exact memS (memS (memS (memS (memS (memS (memS (memS (memS (memS (memS (mem0))))))))))) | with_reducible exact memS (memS (memS (memS (memS (memS (memS (memS (memS (memS (memS (memS (mem0)))))))))))) | with_reducible exact memS (memS (memS (memS (memS (memS (memS (memS (memS (memS (memS (memS (memS (mem0))))))))))))))) (by first | assumption | omega)) rfl ?_; clear h a hO w
          rintro _ w ⟨ed, hMd, hO⟩ a h
          obtain ⟨Ad, cd, rfl, hcd⟩ := hMd.form
          have hrd_d := hMd.rd
          have hr_d := hMd.rr
          refine so h hO (yl_assign h rfl) rfl ?_; clear h a; intro a h
          refine endL ?_
          refine then_n ?_
          refine seq ?_
          refine region ?_
          refine so h hO (yl_move h rfl) rfl ?_; clear h a; intro a h
          refine so h hO (yl_move h rfl) rfl ?_; clear h a; intro a h
          refine so h hO (yl_ix h rfl rfl p0 (by assumption) (by simp) (by omega)) rfl ?_; clear h a; intro a h
          refine so h hO (yl_ld1 h rfl p1 (by assumption) (by first | assumption | exact Val.sub (by assumption) (by repeat (first | with_reducible exact List.Sublist.refl _ | with_reducible refine List.Sublist.cons_cons _ ?_ | refine List.Sublist.cons _ ?_)) | with_reducible exact Val.ext _ _ | exact Val.ent (by first | with_reducible exact mem0 | with_reducible exact memS (mem0) | with_reducible exact memS (memS (mem0)) | with_reducible exact memS (memS (memS (mem0))) | with_reducible exact memS (memS (memS (memS (mem0)))) | with_reducible exact memS (memS (memS (memS (memS (mem0))))) | with_reducible exact memS (memS (memS (memS (memS (memS (mem0)))))) | with_reducible exact memS (memS (memS (memS (memS (memS (memS (mem0))))))) | with_reducible exact memS (memS (memS (memS (memS (memS (memS (memS (mem0)))))))) | with_reducible exact memS (memS (memS (memS (memS (memS (memS (memS (memS (mem0))))))))) | with_reducible exact memS (memS (memS (memS (memS (memS (memS (memS (memS (memS (mem0)))))))))) | with_reducible exact memS (memS (memS (memS (memS (memS (memS (memS (memS (memS (memS (mem0))))))))))) | with_reducible exact memS (memS (memS (memS (memS (memS (memS (memS (memS (memS (memS (memS (mem0)))))))))))) | with_reducible exact memS (memS (memS (memS (memS (memS (memS (memS (memS (memS (memS (memS (memS (mem0))))))))))))))) (by omega) (fun _ => rfl)) rfl ?_; clear h a; intro a h
          refine so h hO (yl_gt h rfl rfl) rfl ?_; clear h a; intro a h
          refine endL ?_
          refine then_n ?_
          refine cond_s h rfl (fun hb5 => ?_) (fun hb5 => ?_)
          · have hp5 := hb5
            try simp only [decide_eq_true_eq, decide_eq_false_iff_not, Bool.not_eq_true', Bool.not_eq_false', Int.not_lt, Int.not_le, ne_eq, Decidable.not_not] at hp5
            refine region ?_
            refine so h hO (yl_move h rfl) rfl ?_; clear h a; intro a h
            refine so h hO (yl_move h rfl) rfl ?_; clear h a; intro a h
            refine stepBuildAll (us := [_]) h hO rfl p0 rfl p4 rfl rfl rfl rfl rfl ?_; clear h hO a w; intro a b54 w h hO
            refine stepApp  h hO rfl rfl p5 rfl (by assumption) (by first | with_reducible exact mem0 | with_reducible exact memS (mem0) | with_reducible exact memS (memS (mem0)) | with_reducible exact memS (memS (memS (mem0))) | with_reducible exact memS (memS (memS (memS (mem0)))) | with_reducible exact memS (memS (memS (memS (memS (mem0))))) | with_reducible exact memS (memS (memS (memS (memS (memS (mem0)))))) | with_reducible exact memS (memS (memS (memS (memS (memS (memS (mem0))))))) | with_reducible exact memS (memS (memS (memS (memS (memS (memS (memS (mem0)))))))) | with_reducible exact memS (memS (memS (memS (memS (memS (memS (memS (memS (mem0))))))))) | with_reducible exact memS (memS (memS (memS (memS (memS (memS (memS (memS (memS (mem0)))))))))) | with_reducible exact memS (memS (memS (memS (memS (memS (memS (memS (memS (memS (memS (mem0))))))))))) | with_reducible exact memS (memS (memS (memS (memS (memS (memS (memS (memS (memS (memS (memS (mem0)))))))))))) | with_reducible exact memS (memS (memS (memS (memS (memS (memS (memS (memS (memS (memS (memS (memS (mem0)))))))))))))) (by rfl) (by rfl) (by rfl) (by first | omega | (simp; omega) | exact Nat.le_trans (List.length_filter_le _ _) (by omega)) (by intro e_; first | with_reducible exact .here | with_reducible exact .there (.here) | with_reducible exact .there (.there (.here)) | with_reducible exact .there (.there (.there (.here))) | with_reducible exact .there (.there (.there (.there (.here)))) | with_reducible exact .there (.there (.there (.there (.there (.here))))) | with_reducible exact .there (.there (.there (.there (.there (.there (.here)))))) | with_reducible exact .there (.there (.there (.there (.there (.there (.there (.here))))))) | with_reducible exact .there (.there (.there (.there (.there (.there (.there (.there (.here)))))))) | with_reducible exact .there (.there (.there (.there (.there (.there (.there (.there (.there (.here))))))))) | with_reducible exact .there (.there (.there (.there (.there (.there (.there (.there (.there (.there (.here)))))))))) | with_reducible exact .there (.there (.there (.there (.there (.there (.there (.there (.there (.there (.there (.here))))))))))) | with_reducible exact .there (.there (.there (.there (.there (.there (.there (.there (.there (.there (.there (.there (.here)))))))))))) | with_reducible exact .there (.there (.there (.there (.there (.there (.there (.there (.there (.there (.there (.there (.there (.here)))))))))))))) rfl ?_
            clear h hO a w; intro a v55 e55 w h hM55 hO
            obtain ⟨A55, c55, rfl, hc55⟩ := hM55.form
            have hr55 := hM55.rr
            refine so h hO (yl_assign h rfl) rfl ?_; clear h a; intro a h
            refine endL ?_
            refine inB_n ?_
            refine then_n ?_
            refine region ?_
            refine so h hO (yl_move h rfl) rfl ?_; clear h a; intro a h
            first | (refine so h hO (yl_add64 h rfl rfl (by omega)) rfl ?_) | (refine so h hO (yl_add h rfl rfl) rfl ?_)
            clear h a; intro a h
            refine so h hO (yl_assign h rfl) rfl ?_; clear h a; intro a h
            refine endL ?_
            refine then_n ?_
            have hk1 : k < xs.length := by omega
            try simp only [Int.toNat_natCast] at *
            have ht := getD_take_succ (xs := xs) hk1
            exact ⟨k + 1, by omega, _, _, _, _, by omega, (by rw [ht, opens_snoc, stp_pos (by assumption)]; exact hM55), (by rw [ht, faults_snoc, flt_eq hp2, List.length_take, Nat.min_eq_left (by omega), hb3]; rw [if_neg (by decide), List.append_nil]; exact hM2), h.weak (subB_cons rfl (subB_cons rfl (subB_cons rfl (subB_cons rfl (subB_nil))))), (by exact hO.sub (by repeat (first | with_reducible exact List.Sublist.refl _ | with_reducible refine List.Sublist.cons_cons _ ?_ | refine List.Sublist.cons _ ?_)))⟩
          · have hp5 := hb5
            try simp only [decide_eq_true_eq, decide_eq_false_iff_not, Bool.not_eq_true', Bool.not_eq_false', Int.not_lt, Int.not_le, ne_eq, Decidable.not_not] at hp5
            refine skip ?_
            refine inB_n ?_
            refine then_n ?_
            refine region ?_
            refine so h hO (yl_move h rfl) rfl ?_; clear h a; intro a h
            first | (refine so h hO (yl_add64 h rfl rfl (by omega)) rfl ?_) | (refine so h hO (yl_add h rfl rfl) rfl ?_)
            clear h a; intro a h
            refine so h hO (yl_assign h rfl) rfl ?_; clear h a; intro a h
            refine endL ?_
            refine then_n ?_
            have hk1 : k < xs.length := by omega
            try simp only [Int.toNat_natCast] at *
            have ht := getD_take_succ (xs := xs) hk1
            exact ⟨k + 1, by omega, _, _, _, _, by omega, (by rw [ht, opens_snoc, stp_neg hp2 (by omega)]; exact hMd), (by rw [ht, faults_snoc, flt_eq hp2, List.length_take, Nat.min_eq_left (by omega), hb3]; rw [if_neg (by decide), List.append_nil]; exact hM2), h.weak (subB_cons rfl (subB_cons rfl (subB_cons rfl (subB_cons rfl (subB_nil))))), (by exact hO.sub (by repeat (first | with_reducible exact List.Sublist.refl _ | with_reducible refine List.Sublist.cons_cons _ ?_ | refine List.Sublist.cons _ ?_)))⟩
    · have hp1 := hb1
      try simp only [decide_eq_true_eq, decide_eq_false_iff_not, Bool.not_eq_true', Bool.not_eq_false', Int.not_lt, Int.not_le, ne_eq, Decidable.not_not] at hp1
      refine exit_ ?_
      refine then_x ?_
      refine then_x ?_
      refine inB_same ?_
      refine then_n ?_
      refine seq ?_
      refine region ?_
      refine so h hO (yl_move h rfl) rfl ?_; clear h a; intro a h
      refine so h hO (yl_move h rfl) rfl ?_; clear h a; intro a h
      refine so h hO (yl_assign h rfl) rfl ?_; clear h a; intro a h
      refine so h hO (yl_assign h rfl) rfl ?_; clear h a; intro a h
      refine endL ?_
      refine then_n ?_
      refine retc ?_
      refine ret2 h hO Try.results26 (.tmp rfl (.tmp rfl .nil)) ?_
      refine Ret.mk ?_
      have hk1 : k = xs.length := by omega
      subst hk1
      simp only [List.take_length] at hM1 hM2 ⊢
      exact ⟨_, _, _, _, rfl, hM1, hM2, hO⟩
set_option maxHeartbeats 4000000 in
theorem books_spec (xs : List Int) {v : Value} {H : Nat → Obj → Prop} {w0 w : World} {L : List Ent} (hO : OwnE w0 w L) (hv : Rd I 1 H xs v) (hH : Val w0 L H) (hsm : ∀ x ∈ xs, -32767 ≤ x ∧ x ≤ 32767) (hb : xs.length ≤ 4294960000) : Calls Try.prog 27 ⟨[v]⟩ w (Ret (fun v w => ∃ v1 v2 e1 e2, v = .tuple ⟨[v1, v2]⟩ ∧ RdRows I 1 (inE e1) (rows xs) v1 ∧ Mu I 3 1 (faults xs) v2 e2 ∧ OwnE w0 w (e1 :: e2 :: L))) := by
  refine enter Try.func27 rfl Try.ntmps27 rfl ?_
  intro a h
  obtain ⟨A, c, rfl, hc, hr⟩ := hv
  refine seq ?_
  refine region ?_
  refine so h hO (yl_assign h rfl) rfl ?_; clear h a; intro a h
  refine so h hO (yl_assign h rfl) rfl ?_; clear h a; intro a h
  refine endL ?_
  refine then_n ?_
  refine seq ?_
  refine region ?_
  refine stepBuildAll (us := []) h hO rfl p0 rfl p4 rfl rfl rfl rfl rfl ?_; clear h hO a w; intro a b10 w h hO
  refine stepBuildAll (us := []) h hO rfl p24 rfl p25 rfl rfl rfl rfl rfl ?_; clear h hO a w; intro a b11 w h hO
  refine stepBuildAll (us := []) h hO rfl p0 rfl p4 rfl rfl rfl rfl rfl ?_; clear h hO a w; intro a b12 w h hO
  refine so h hO (yl_assign h rfl) rfl ?_; clear h a; intro a h
  refine so h hO (yl_assign h rfl) rfl ?_; clear h a; intro a h
  refine so h hO (yl_assign h rfl) rfl ?_; clear h a; intro a h
  refine endL ?_
  refine then_n ?_
  refine seq ?_
  refine seq ?_
  refine region ?_
  refine so h hO (yl_move h rfl) rfl ?_; clear h a; intro a h
  refine so h hO (yl_len h rfl p0) rfl ?_; clear h a; intro a h
  refine so h hO (yl_move h rfl) rfl ?_; clear h a; intro a h
  refine endL ?_
  refine then_n ?_
  refine block ?_
  refine loop (fun (k : Nat) a w => ∃ (u uo uf : Value) (pile eo ef : Ent) (hs : List Value), k ≤ xs.length ∧ (Rd I 1 (inE pile) (opens (xs.take k)) u) ∧ (Mu idV 24 1 hs uo eo) ∧ (All2 (fun r h => Rd I 1 (inE pile) r h) (rows (xs.take k)) hs) ∧ (Mu I 3 1 (faults (xs.take k)) uf ef) ∧ St 61 [] [(13, .slice A xs.length c), (14, .int .i64 xs.length), (15, .int .i64 k), (4, u), (5, uo), (6, uf)] a ∧ OwnE w0 w (pile :: eo :: ef :: L)) (fun k => xs.length - k) 0 ?_ ?_
  · exact ⟨_, _, _, [(b10, _)], _, _, [], Nat.zero_le _, Rd.nil _ _ _ _ (by decide), Mu.nil' _ _ _ _, .nil, Mu.nil' _ _ _ _, h.weak (subB_cons rfl (subB_cons rfl (subB_cons rfl (subB_cons rfl (subB_cons rfl (subB_cons rfl (subB_nil))))))), hO.perm (((List.Perm.swap _ _ _).cons _).trans (((List.Perm.swap _ _ _)).trans ((List.Perm.swap _ _ _).cons _)))⟩
  · clear h a hO w
    rintro k a w ⟨u, uo, uf, pile, eo, ef, hs, hk, hu, hMo, hAll, hMf, h, hO⟩
    obtain ⟨A1, c1, rfl, hc1, hr1⟩ := hu
    have hrd1 : Rd I 1 (inE pile) (opens (xs.take k)) (.slice A1 (opens (xs.take k)).length c1) := ⟨A1, c1, rfl, hc1, hr1⟩
    obtain ⟨A2, c2, rfl, hc2⟩ := hMo.form
    obtain ⟨A3, c3, rfl, hc3⟩ := hMf.form
    have hl1 := opens_le (xs.take k)
    have hl2 := faults_len (xs.take k)
    have htl := List.length_take_le k xs
    have hl3 := hAll.length
    rw [rows_length] at hl3
    have hgood := good_opens (xs.take k)
    refine seq ?_
    refine region ?_
    refine so h hO (yl_lt h rfl rfl) rfl ?_; clear h a; intro a h
    refine endL ?_
    refine then_n ?_
    refine seq ?_
    refine cond_s h rfl (fun hb1 => ?_) (fun hb1 => ?_)
    · have hp1 := hb1
      try simp only [decide_eq_true_eq, decide_eq_false_iff_not, Bool.not_eq_true', Bool.not_eq_false', Int.not_lt, Int.not_le, ne_eq, Decidable.not_not] at hp1
      refine skip ?_
      refine then_n ?_
      refine seq ?_
      refine block ?_
      refine seq ?_
      refine region ?_
      refine so h hO (yl_move h rfl) rfl ?_; clear h a; intro a h
      refine so h hO (yl_ix h rfl rfl p0 (by assumption) (by simp) (by omega)) rfl ?_; clear h a; intro a h
      refine so h hO (yl_ld1 h rfl p1 (by assumption) (by first | assumption | exact Val.sub (by assumption) (by repeat (first | with_reducible exact List.Sublist.refl _ | with_reducible refine List.Sublist.cons_cons _ ?_ | refine List.Sublist.cons _ ?_)) | with_reducible exact Val.ext _ _ | exact Val.ent (by first | with_reducible exact mem0 | with_reducible exact memS (mem0) | with_reducible exact memS (memS (mem0)) | with_reducible exact memS (memS (memS (mem0))) | with_reducible exact memS (memS (memS (memS (mem0)))) | with_reducible exact memS (memS (memS (memS (memS (mem0))))) | with_reducible exact memS (memS (memS (memS (memS (memS (mem0)))))) | with_reducible exact memS (memS (memS (memS (memS (memS (memS (mem0))))))) | with_reducible exact memS (memS (memS (memS (memS (memS (memS (memS (mem0)))))))) | with_reducible exact memS (memS (memS (memS (memS (memS (memS (memS (memS (mem0))))))))) | with_reducible exact memS (memS (memS (memS (memS (memS (memS (memS (memS (memS (mem0)))))))))) | with_reducible exact memS (memS (memS (memS (memS (memS (memS (memS (memS (memS (memS (mem0))))))))))) | with_reducible exact memS (memS (memS (memS (memS (memS (memS (memS (memS (memS (memS (memS (mem0)))))))))))) | with_reducible exact memS (memS (memS (memS (memS (memS (memS (memS (memS (memS (memS (memS (memS (mem0))))))))))))))) (by omega) (fun _ => rfl)) rfl ?_; clear h a; intro a h
      refine so h hO (yl_assign h rfl) rfl ?_; clear h a; intro a h
      refine so h hO (yl_assign h rfl) rfl ?_; clear h a; intro a h
      refine endL ?_
      refine then_n ?_
      refine seq ?_
      refine region ?_
      have hx := hsm _ (getD_mem (xs := xs) (k := (k : Int).toNat) (by omega))
      have hk1 : k < xs.length := by omega
      have ht : xs.take (k + 1) = xs.take k ++ [(xs.getD (k : Int).toNat default)] := by rw [Int.toNat_natCast]; exact getD_take_succ hk1
      refine so h hO (yl_move h rfl) rfl ?_; clear h a; intro a h
      refine so h hO (yl_move h rfl) rfl ?_; clear h a; intro a h
      refine so h hO (yl_move h rfl) rfl ?_; clear h a; intro a h
      first | (refine so h hO (yl_neg64 h rfl (by omega)) rfl ?_) | (refine so h hO (yl_neg h rfl) rfl ?_)
      clear h a; intro a h
      refine so h hO (yl_max h rfl rfl) rfl ?_; clear h a; intro a h
      refine callR h rfl rfl p2 (Index_spec _ _ hO (by assumption) (by first | assumption | exact Val.sub (by assumption) (by repeat (first | with_reducible exact List.Sublist.refl _ | with_reducible refine List.Sublist.cons_cons _ ?_ | refine List.Sublist.cons _ ?_)) | with_reducible exact Val.ext _ _ | exact Val.ent (by first | with_reducible exact mem0 | with_reducible exact memS (mem0) | with_reducible exact memS (memS (mem0)) | with_reducible exact memS (memS (memS (mem0))) | with_reducible exact memS (memS (memS (memS (mem0)))) | with_reducible exact memS (memS (memS (memS (memS (mem0))))) | with_reducible exact memS (memS (memS (memS (memS (memS (mem0)))))) | with_reducible exact memS (memS (memS (memS (memS (memS (memS (mem0))))))) | with_reducible exact memS (memS (memS (memS (memS (memS (memS (memS (mem0)))))))) | with_reducible exact memS (memS (memS (memS (memS (memS (memS (memS (memS (mem0))))))))) | with_reducible exact memS (memS (memS (memS (memS (memS (memS (memS (memS (memS (mem0)))))))))) | with_reducible exact memS (memS (memS (memS (memS (memS (memS (memS (memS (memS (memS (mem0))))))))))) | with_reducible exact memS (memS (memS (memS (memS (memS (memS (memS (memS (memS (memS (memS (mem0)))))))))))) | with_reducible exact memS (memS (memS (memS (memS (memS (memS (memS (memS (memS (memS (memS (memS (mem0)))))))))))))))) rfl ?_; clear h a hO w
      rintro _ w ⟨rfl, hO⟩ a h
      refine so h hO (yl_assign h rfl) rfl ?_; clear h a; intro a h
      refine endL ?_
      refine then_n ?_
      refine seq_cut (R := fun a w => ∃ (uf : Value) (ef : Ent), Mu I 3 1 (faults (xs.take (k + 1))) uf ef ∧ St 61 [] [(13, .slice A xs.length c), (14, .int .i64 xs.length), (15, .int .i64 k), (4, .slice A1 (opens (xs.take k)).length c1), (5, .slice A2 hs.length c2), (6, uf), (8, .int .i64 (xs.getD (k : Int).toNat default)), (9, .int .i64 (idx (opens (xs.take k)) (max (xs.getD (k : Int).toNat default) (-(xs.getD (k : Int).toNat default)))))] a ∧ OwnE w0 w (pile :: eo :: ef :: L)) ?_ ?_
      · skip
        refine seq ?_
        refine region ?_
        refine so h hO (yl_move h rfl) rfl ?_; clear h a; intro a h
        refine so h hO (yl_ne h rfl rfl) rfl ?_; clear h a; intro a h
        refine so h hO (yl_move h rfl) rfl ?_; clear h a; intro a h
        refine split h 28 rfl (fun hb2 => ?_) (fun hb2 => ?_)
        · have hp2 := hb2
          try simp only [decide_eq_true_eq, decide_eq_false_iff_not, Bool.not_eq_true', Bool.not_eq_false', Int.not_lt, Int.not_le, ne_eq, Decidable.not_not] at hp2
          refine sog h hO (j := 2) rfl rfl hb2 (yl_move h rfl) rfl ?_; clear h a; intro a h
          refine sog h hO (j := 2) rfl rfl hb2 (yl_gt h rfl rfl) rfl ?_; clear h a; intro a h
          refine sog h hO (j := 2) rfl rfl hb2 (yl_move h rfl) rfl ?_; clear h a; intro a h
          refine sog h hO (j := 2) rfl rfl hb2 (yl_ge h rfl rfl) rfl ?_; clear h a; intro a h
          refine sog h hO (j := 2) rfl rfl hb2 (yl_eqB h rfl rfl p22) rfl ?_; clear h a; intro a h
          refine so h hO (yl_pick_t h rfl hb2 rfl) rfl ?_; clear h a; intro a h
          refine endL ?_
          refine then_n ?_
          refine cond_s h rfl (fun hb3 => ?_) (fun hb3 => ?_)
          · have hp3 := hb3
            try simp only [decide_eq_true_eq, decide_eq_false_iff_not, Bool.not_eq_true', Bool.not_eq_false', Int.not_lt, Int.not_le, ne_eq, Decidable.not_not] at hp3
            refine region ?_
            refine so h hO (yl_move h rfl) rfl ?_; clear h a; intro a h
            refine so h hO (yl_move h rfl) rfl ?_; clear h a; intro a h
            refine stepBuildAll (us := [_]) h hO rfl p0 rfl p4 rfl rfl rfl rfl rfl ?_; clear h hO a w; intro a b37 w h hO
            refine stepApp  h hO rfl rfl p5 rfl (by assumption) (by first | with_reducible exact mem0 | with_reducible exact memS (mem0) | with_reducible exact memS (memS (mem0)) | with_reducible exact memS (memS (memS (mem0))) | with_reducible exact memS (memS (memS (memS (mem0)))) | with_reducible exact memS (memS (memS (memS (memS (mem0))))) | with_reducible exact memS (memS (memS (memS (memS (memS (mem0)))))) | with_reducible exact memS (memS (memS (memS (memS (memS (memS (mem0))))))) | with_reducible exact memS (memS (memS (memS (memS (memS (memS (memS (mem0)))))))) | with_reducible exact memS (memS (memS (memS (memS (memS (memS (memS (memS (mem0))))))))) | with_reducible exact memS (memS (memS (memS (memS (memS (memS (memS (memS (memS (mem0)))))))))) | with_reducible exact memS (memS (memS (memS (memS (memS (memS (memS (memS (memS (memS (mem0))))))))))) | with_reducible exact memS (memS (memS (memS (memS (memS (memS (memS (memS (memS (memS (memS (mem0)))))))))))) | with_reducible exact memS (memS (memS (memS (memS (memS (memS (memS (memS (memS (memS (memS (memS (mem0)))))))))))))) (by rfl) (by rfl) (by rfl) (by first | omega | (simp; omega) | exact Nat.le_trans (List.length_filter_le _ _) (by omega)) (by intro e_; first | with_reducible exact .here | with_reducible exact .there (.here) | with_reducible exact .there (.there (.here)) | with_reducible exact .there (.there (.there (.here))) | with_reducible exact .there (.there (.there (.there (.here)))) | with_reducible exact .there (.there (.there (.there (.there (.here))))) | with_reducible exact .there (.there (.there (.there (.there (.there (.here)))))) | with_reducible exact .there (.there (.there (.there (.there (.there (.there (.here))))))) | with_reducible exact .there (.there (.there (.there (.there (.there (.there (.there (.here)))))))) | with_reducible exact .there (.there (.there (.there (.there (.there (.there (.there (.there (.here))))))))) | with_reducible exact .there (.there (.there (.there (.there (.there (.there (.there (.there (.there (.here)))))))))) | with_reducible exact .there (.there (.there (.there (.there (.there (.there (.there (.there (.there (.there (.here))))))))))) | with_reducible exact .there (.there (.there (.there (.there (.there (.there (.there (.there (.there (.there (.there (.here)))))))))))) | with_reducible exact .there (.there (.there (.there (.there (.there (.there (.there (.there (.there (.there (.there (.there (.here)))))))))))))) rfl ?_
            clear h hO a w; intro a v38 e38 w h hM38 hO
            obtain ⟨A38, c38, rfl, hc38⟩ := hM38.form
            have hr38 := hM38.rr
            refine so h hO (yl_assign h rfl) rfl ?_; clear h a; intro a h
            refine endL ?_
            refine then_n ?_
            exact ⟨_, _, (by rw [ht, faults_snoc, List.length_take, Nat.min_eq_left (by omega)]; rw [flt_eq hp2, show (decide (max (xs.getD (k : Int).toNat default) (-(xs.getD (k : Int).toNat default)) ∈ (opens (xs.take k))) == decide ((xs.getD (k : Int).toNat default) > 0)) = true by (have := hb3; simp only [idx_lt, ge_iff_le] at this; rw [Bool.beq_comm]; simpa using this), if_pos rfl]; exact hM38), h.weak (subB_cons rfl (subB_cons rfl (subB_cons rfl (subB_cons rfl (subB_cons rfl (subB_cons rfl (subB_cons rfl (subB_cons rfl (subB_nil))))))))), (by exact hO.drop)⟩
          · have hp3 := hb3
            try simp only [decide_eq_true_eq, decide_eq_false_iff_not, Bool.not_eq_true', Bool.not_eq_false', Int.not_lt, Int.not_le, ne_eq, Decidable.not_not] at hp3
            refine skip ?_
            refine then_n ?_
            exact ⟨_, _, (by rw [ht, faults_snoc, List.length_take, Nat.min_eq_left (by omega)]; rw [flt_eq hp2, show (decide (max (xs.getD (k : Int).toNat default) (-(xs.getD (k : Int).toNat default)) ∈ (opens (xs.take k))) == decide ((xs.getD (k : Int).toNat default) > 0)) = false by (have := hb3; simp only [idx_lt, ge_iff_le] at this; rw [Bool.beq_comm]; simpa using this), if_neg (by decide), List.append_nil]; exact hMf), h.weak (subB_cons rfl (subB_cons rfl (subB_cons rfl (subB_cons rfl (subB_cons rfl (subB_cons rfl (subB_cons rfl (subB_cons rfl (subB_nil))))))))), hO⟩
        · have hp2 := hb2
          try simp only [decide_eq_true_eq, decide_eq_false_iff_not, Bool.not_eq_true', Bool.not_eq_false', Int.not_lt, Int.not_le, ne_eq, Decidable.not_not] at hp2
          refine son h (j := 2) rfl rfl hb2 rfl ?_; clear h a; intro a h
          refine son h (j := 2) rfl rfl hb2 rfl ?_; clear h a; intro a h
          refine son h (j := 2) rfl rfl hb2 rfl ?_; clear h a; intro a h
          refine son h (j := 2) rfl rfl hb2 rfl ?_; clear h a; intro a h
          refine son h (j := 2) rfl rfl hb2 rfl ?_; clear h a; intro a h
          refine so h hO (yl_pick_f h rfl hb2 rfl) rfl ?_; clear h a; intro a h
          refine endL ?_
          refine then_n ?_
          refine cond_f h rfl rfl ?_
          refine skip ?_
          refine then_n ?_
          exact ⟨_, _, (by rw [ht, faults_snoc, List.length_take, Nat.min_eq_left (by omega)]; rw [hp2, flt_zero, if_neg (by decide), List.append_nil]; exact hMf), h.weak (subB_cons rfl (subB_cons rfl (subB_cons rfl (subB_cons rfl (subB_cons rfl (subB_cons rfl (subB_cons rfl (subB_cons rfl (subB_nil))))))))), hO⟩
      · clear h hO a w
        rintro a w ⟨uf, ef, hMf, h, hO⟩
        obtain ⟨A3, c3, rfl, hc3⟩ := hMf.form
        refine seq_cut (R := fun a w => ∃ (u : Value) (pile : Ent), Rd I 1 (inE pile) ((opens (xs.take k)).filter fun x => decide (x ≠ max (xs.getD (k : Int).toNat default) (-(xs.getD (k : Int).toNat default)))) u ∧ All2 (fun r h => Rd I 1 (inE pile) r h) (rows (xs.take k)) hs ∧ St 61 [] [(13, .slice A xs.length c), (14, .int .i64 xs.length), (15, .int .i64 k), (4, u), (5, .slice A2 hs.length c2), (6, .slice A3 (faults (xs.take (k + 1))).length c3), (8, .int .i64 (xs.getD (k : Int).toNat default)), (9, .int .i64 (idx (opens (xs.take k)) (max (xs.getD (k : Int).toNat default) (-(xs.getD (k : Int).toNat default)))))] a ∧ OwnE w0 w (pile :: eo :: ef :: L)) ?_ ?_
        · skip
          refine seq ?_
          refine region ?_
          refine so h hO (yl_move h rfl) rfl ?_; clear h a; intro a h
          refine so h hO (yl_ge h rfl rfl) rfl ?_; clear h a; intro a h
          refine endL ?_
          refine then_n ?_
          refine cond_s h rfl (fun hb4 => ?_) (fun hb4 => ?_)
          · have hp4 := hb4
            try simp only [decide_eq_true_eq, decide_eq_false_iff_not, Bool.not_eq_true', Bool.not_eq_false', Int.not_lt, Int.not_le, ne_eq, Decidable.not_not] at hp4
            refine region ?_
            obtain ⟨j, hj⟩ : ∃ j : Nat, idx (opens (xs.take k)) (max (xs.getD (k : Int).toNat default) (-(xs.getD (k : Int).toNat default))) = j := ⟨_, (Int.toNat_of_nonneg (by omega)).symm⟩
            have hjb := (idx_bd (opens (xs.take k)) (max (xs.getD (k : Int).toNat default) (-(xs.getD (k : Int).toNat default)))).2
            simp only [hj] at h
            refine so h hO (yl_move h rfl) rfl ?_; clear h a; intro a h
            refine callR h rfl rfl p26 (Clone_spec _ hO (by assumption) (by first | assumption | exact Val.sub (by assumption) (by repeat (first | with_reducible exact List.Sublist.refl _ | with_reducible refine List.Sublist.cons_cons _ ?_ | refine List.Sublist.cons _ ?_)) | with_reducible exact Val.ext _ _ | exact Val.ent (by first | with_reducible exact mem0 | with_reducible exact memS (mem0) | with_reducible exact memS (memS (mem0)) | with_reducible exact memS (memS (memS (mem0))) | with_reducible exact memS (memS (memS (memS (mem0)))) | with_reducible exact memS (memS (memS (memS (memS (mem0))))) | with_reducible exact memS (memS (memS (memS (memS (memS (mem0)))))) | with_reducible exact memS (memS (memS (memS (memS (memS (memS (mem0))))))) | with_reducible exact memS (memS (memS (memS (memS (memS (memS (memS (mem0)))))))) | with_reducible exact memS (memS (memS (memS (memS (memS (memS (memS (memS (mem0))))))))) | with_reducible exact memS (memS (memS (memS (memS (memS (memS (memS (memS (memS (mem0)))))))))) | with_reducible exact memS (memS (memS (memS (memS (memS (memS (memS (memS (memS (memS (mem0))))))))))) | with_reducible exact memS (memS (memS (memS (memS (memS (memS (memS (memS (memS (memS (memS (mem0)))))))))))) | with_reducible exact memS (memS (memS (memS (memS (memS (memS (memS (memS (memS (memS (memS (memS (mem0))))))))))))))) (by first | omega | exact Nat.le_trans (List.length_filter_le _ _) (by omega))) rfl ?_; clear h a hO w
            rintro _ w ⟨ed, hMd, hO⟩ a h
            refine so h hO (yl_move h rfl) rfl ?_; clear h a; intro a h
            refine so h hO (yl_move h rfl) rfl ?_; clear h a; intro a h
            first | (refine so h hO (yl_add64 h rfl rfl (by omega)) rfl ?_) | (refine so h hO (yl_add h rfl rfl) rfl ?_)
            clear h a; intro a h
            refine callR h rfl rfl p27 (Delete_spec j hO hMd (by omega)) rfl ?_; clear h a hO w
            rintro _ w ⟨ed, hMd, hO⟩ a h
            obtain ⟨Ad, cd, rfl, hcd⟩ := hMd.form
            refine so h hO (yl_assign h rfl) rfl ?_; clear h a; intro a h
            refine endL ?_
            refine then_n ?_
            exact ⟨_, _, (by rw [← erase_filter hgood.1 (idx_lt.1 (by omega)), hj]; exact hMd.rd.mono inE_l), hAll.mono (fun _ _ h => h.mono inE_r), (by rw [← hj] at h; exact h.weak (subB_cons rfl (subB_cons rfl (subB_cons rfl (subB_cons rfl (subB_cons rfl (subB_cons rfl (subB_cons rfl (subB_cons rfl (subB_nil)))))))))), hO.join⟩
          · have hp4 := hb4
            try simp only [decide_eq_true_eq, decide_eq_false_iff_not, Bool.not_eq_true', Bool.not_eq_false', Int.not_lt, Int.not_le, ne_eq, Decidable.not_not] at hp4
            refine skip ?_
            refine then_n ?_
            exact ⟨_, _, (by rw [filter_self (fun hm => by have := idx_lt.2 hm; omega)]; exact hrd1), hAll, h.weak (subB_cons rfl (subB_cons rfl (subB_cons rfl (subB_cons rfl (subB_cons rfl (subB_cons rfl (subB_cons rfl (subB_cons rfl (subB_nil))))))))), hO⟩
        · clear h hO a w
          rintro a w ⟨u, pile, hu, hAll, h, hO⟩
          obtain ⟨A1, c1, rfl, hc1, hr1⟩ := hu
          have hrd1 : Rd I 1 (inE pile) ((opens (xs.take k)).filter fun x => decide (x ≠ max (xs.getD (k : Int).toNat default) (-(xs.getD (k : Int).toNat default)))) (.slice A1 ((opens (xs.take k)).filter fun x => decide (x ≠ max (xs.getD (k : Int).toNat default) (-(xs.getD (k : Int).toNat default)))).length c1) := ⟨A1, c1, rfl, hc1, hr1⟩
          refine seq_cut (R := fun a w => ∃ (u : Value) (pile : Ent), Rd I 1 (inE pile) (stp (opens (xs.take k)) (xs.getD (k : Int).toNat default)) u ∧ All2 (fun r h => Rd I 1 (inE pile) r h) (rows (xs.take k)) hs ∧ St 61 [] [(13, .slice A xs.length c), (14, .int .i64 xs.length), (15, .int .i64 k), (4, u), (5, .slice A2 hs.length c2), (6, .slice A3 (faults (xs.take (k + 1))).length c3), (8, .int .i64 (xs.getD (k : Int).toNat default)), (9, .int .i64 (idx (opens (xs.take k)) (max (xs.getD (k : Int).toNat default) (-(xs.getD (k : Int).toNat default)))))] a ∧ OwnE w0 w (pile :: eo :: ef :: L)) ?_ ?_
          · skip
            refine seq ?_
            refine region ?_
            refine so h hO (yl_move h rfl) rfl ?_; clear h a; intro a h
            refine so h hO (yl_gt h rfl rfl) rfl ?_; clear h a; intro a h
            refine endL ?_
            refine then_n ?_
            refine cond_s h rfl (fun hb5 => ?_) (fun hb5 => ?_)
            · have hp5 := hb5
              try simp only [decide_eq_true_eq, decide_eq_false_iff_not, Bool.not_eq_true', Bool.not_eq_false', Int.not_lt, Int.not_le, ne_eq, Decidable.not_not] at hp5
              refine region ?_
              refine so h hO (yl_move h rfl) rfl ?_; clear h a; intro a h
              refine callR h rfl rfl p26 (Clone_spec _ hO (by assumption) (by first | assumption | exact Val.sub (by assumption) (by repeat (first | with_reducible exact List.Sublist.refl _ | with_reducible refine List.Sublist.cons_cons _ ?_ | refine List.Sublist.cons _ ?_)) | with_reducible exact Val.ext _ _ | exact Val.ent (by first | with_reducible exact mem0 | with_reducible exact memS (mem0) | with_reducible exact memS (memS (mem0)) | with_reducible exact memS (memS (memS (mem0))) | with_reducible exact memS (memS (memS (memS (mem0)))) | with_reducible exact memS (memS (memS (memS (memS (mem0))))) | with_reducible exact memS (memS (memS (memS (memS (memS (mem0)))))) | with_reducible exact memS (memS (memS (memS (memS (memS (memS (mem0))))))) | with_reducible exact memS (memS (memS (memS (memS (memS (memS (memS (mem0)))))))) | with_reducible exact memS (memS (memS (memS (memS (memS (memS (memS (memS (mem0))))))))) | with_reducible exact memS (memS (memS (memS (memS (memS (memS (memS (memS (memS (mem0)))))))))) | with_reducible exact memS (memS (memS (memS (memS (memS (memS (memS (memS (memS (memS (mem0))))))))))) | with_reducible exact memS (memS (memS (memS (memS (memS (memS (memS (memS (memS (memS (memS (mem0)))))))))))) | with_reducible exact memS (memS (memS (memS (memS (memS (memS (memS (memS (memS (memS (memS (memS (mem0))))))))))))))) (by first | omega | exact Nat.le_trans (List.length_filter_le _ _) (by omega))) rfl ?_; clear h a hO w
              rintro _ w ⟨ed, hMd, hO⟩ a h
              refine so h hO (yl_move h rfl) rfl ?_; clear h a; intro a h
              refine stepBuildAll (us := [_]) h hO rfl p0 rfl p4 rfl rfl rfl rfl rfl ?_; clear h hO a w; intro a b52 w h hO
              refine stepApp  h hO rfl rfl p5 rfl (by assumption) (by first | with_reducible exact mem0 | with_reducible exact memS (mem0) | with_reducible exact memS (memS (mem0)) | with_reducible exact memS (memS (memS (mem0))) | with_reducible exact memS (memS (memS (memS (mem0)))) | with_reducible exact memS (memS (memS (memS (memS (mem0))))) | with_reducible exact memS (memS (memS (memS (memS (memS (mem0)))))) | with_reducible exact memS (memS (memS (memS (memS (memS (memS (mem0))))))) | with_reducible exact memS (memS (memS (memS (memS (memS (memS (memS (mem0)))))))) | with_reducible exact memS (memS (memS (memS (memS (memS (memS (memS (memS (mem0))))))))) | with_reducible exact memS (memS (memS (memS (memS (memS (memS (memS (memS (memS (mem0)))))))))) | with_reducible exact memS (memS (memS (memS (memS (memS (memS (memS (memS (memS (memS (mem0))))))))))) | with_reducible exact memS (memS (memS (memS (memS (memS (memS (memS (memS (memS (memS (memS (mem0)))))))))))) | with_reducible exact memS (memS (memS (memS (memS (memS (memS (memS (memS (memS (memS (memS (memS (mem0)))))))))))))) (by rfl) (by rfl) (by rfl) (by first | omega | (simp; omega) | exact Nat.le_trans (List.length_filter_le _ _) (by omega)) (by intro e_; first | with_reducible exact .here | with_reducible exact .there (.here) | with_reducible exact .there (.there (.here)) | with_reducible exact .there (.there (.there (.here))) | with_reducible exact .there (.there (.there (.there (.here)))) | with_reducible exact .there (.there (.there (.there (.there (.here))))) | with_reducible exact .there (.there (.there (.there (.there (.there (.here)))))) | with_reducible exact .there (.there (.there (.there (.there (.there (.there (.here))))))) | with_reducible exact .there (.there (.there (.there (.there (.there (.there (.there (.here)))))))) | with_reducible exact .there (.there (.there (.there (.there (.there (.there (.there (.there (.here))))))))) | with_reducible exact .there (.there (.there (.there (.there (.there (.there (.there (.there (.there (.here)))))))))) | with_reducible exact .there (.there (.there (.there (.there (.there (.there (.there (.there (.there (.there (.here))))))))))) | with_reducible exact .there (.there (.there (.there (.there (.there (.there (.there (.there (.there (.there (.there (.here)))))))))))) | with_reducible exact .there (.there (.there (.there (.there (.there (.there (.there (.there (.there (.there (.there (.there (.here)))))))))))))) rfl ?_
              clear h hO a w; intro a v53 e53 w h hM53 hO
              obtain ⟨A53, c53, rfl, hc53⟩ := hM53.form
              have hr53 := hM53.rr
              refine so h hO (yl_assign h rfl) rfl ?_; clear h a; intro a h
              refine endL ?_
              refine then_n ?_
              exact ⟨_, _, (by rw [stp_pos2 hp5]; exact hM53.rd.mono inE_l), hAll.mono (fun _ _ h => h.mono inE_r), h.weak (subB_cons rfl (subB_cons rfl (subB_cons rfl (subB_cons rfl (subB_cons rfl (subB_cons rfl (subB_cons rfl (subB_cons rfl (subB_nil))))))))), (by exact hO.drop.join)⟩
            · have hp5 := hb5
              try simp only [decide_eq_true_eq, decide_eq_false_iff_not, Bool.not_eq_true', Bool.not_eq_false', Int.not_lt, Int.not_le, ne_eq, Decidable.not_not] at hp5
              refine skip ?_
              refine then_n ?_
              exact ⟨_, _, (by rw [stp_gen hgood (by omega)]; exact hrd1), hAll, h.weak (subB_cons rfl (subB_cons rfl (subB_cons rfl (subB_cons rfl (subB_cons rfl (subB_cons rfl (subB_cons rfl (subB_cons rfl (subB_nil))))))))), hO⟩
          · clear h hO a w
            rintro a w ⟨u, pile, hu, hAll, h, hO⟩
            obtain ⟨A1, c1, rfl, hc1, hr1⟩ := hu
            have hrd1 : Rd I 1 (inE pile) (stp (opens (xs.take k)) (xs.getD (k : Int).toNat default)) (.slice A1 (stp (opens (xs.take k)) (xs.getD (k : Int).toNat default)).length c1) := ⟨A1, c1, rfl, hc1, hr1⟩
            refine region ?_
            refine so h hO (yl_move h rfl) rfl ?_; clear h a; intro a h
            refine so h hO (yl_move h rfl) rfl ?_; clear h a; intro a h
            refine stepBuildAll (us := [_]) h hO rfl p24 rfl p25 rfl rfl rfl rfl rfl ?_; clear h hO a w; intro a b56 w h hO
            refine stepApp (enc := idV) (u := .slice A1 (stp (opens (xs.take k)) (xs.getD (k : Int).toNat default)).length c1) h hO rfl rfl p28 rfl (by assumption) (by first | with_reducible exact mem0 | with_reducible exact memS (mem0) | with_reducible exact memS (memS (mem0)) | with_reducible exact memS (memS (memS (mem0))) | with_reducible exact memS (memS (memS (memS (mem0)))) | with_reducible exact memS (memS (memS (memS (memS (mem0))))) | with_reducible exact memS (memS (memS (memS (memS (memS (mem0)))))) | with_reducible exact memS (memS (memS (memS (memS (memS (memS (mem0))))))) | with_reducible exact memS (memS (memS (memS (memS (memS (memS (memS (mem0)))))))) | with_reducible exact memS (memS (memS (memS (memS (memS (memS (memS (memS (mem0))))))))) | with_reducible exact memS (memS (memS (memS (memS (memS (memS (memS (memS (memS (mem0)))))))))) | with_reducible exact memS (memS (memS (memS (memS (memS (memS (memS (memS (memS (memS (mem0))))))))))) | with_reducible exact memS (memS (memS (memS (memS (memS (memS (memS (memS (memS (memS (memS (mem0)))))))))))) | with_reducible exact memS (memS (memS (memS (memS (memS (memS (memS (memS (memS (memS (memS (memS (mem0)))))))))))))) (by rfl) (by rfl) (by rfl) (by first | omega | (simp; omega) | exact Nat.le_trans (List.length_filter_le _ _) (by omega)) (by intro e_; first | with_reducible exact .here | with_reducible exact .there (.here) | with_reducible exact .there (.there (.here)) | with_reducible exact .there (.there (.there (.here))) | with_reducible exact .there (.there (.there (.there (.here)))) | with_reducible exact .there (.there (.there (.there (.there (.here))))) | with_reducible exact .there (.there (.there (.there (.there (.there (.here)))))) | with_reducible exact .there (.there (.there (.there (.there (.there (.there (.here))))))) | with_reducible exact .there (.there (.there (.there (.there (.there (.there (.there (.here)))))))) | with_reducible exact .there (.there (.there (.there (.there (.there (.there (.there (.there (.here))))))))) | with_reducible exact .there (.there (.there (.there (.there (.there (.there (.there (.there (.there (.here)))))))))) | with_reducible exact .there (.there (.there (.there (.there (.there (.there (.there (.there (.there (.there (.here))))))))))) | with_reducible exact .there (.there (.there (.there (.there (.there (.there (.there (.there (.there (.there (.there (.here)))))))))))) | with_reducible exact .there (.there (.there (.there (.there (.there (.there (.there (.there (.there (.there (.there (.there (.here)))))))))))))) rfl ?_
            clear h hO a w; intro a v57 e57 w h hM57 hO
            obtain ⟨A57, c57, rfl, hc57⟩ := hM57.form
            have hr57 := hM57.rr
            refine so h hO (yl_assign h rfl) rfl ?_; clear h a; intro a h
            refine endL ?_
            refine inB_n ?_
            refine then_n ?_
            refine region ?_
            first | (refine so h hO (yl_add64 h rfl rfl (by omega)) rfl ?_) | (refine so h hO (yl_add h rfl rfl) rfl ?_)
            clear h a; intro a h
            refine so h hO (yl_move h rfl) rfl ?_; clear h a; intro a h
            refine endL ?_
            refine then_n ?_
            have hk1 : k < xs.length := by omega
            try simp only [Int.toNat_natCast] at *
            have ht := getD_take_succ (xs := xs) hk1
            exact ⟨k + 1, by omega, _, _, _, _, _, _, _, by omega, (by rw [ht, opens_snoc]; exact hrd1), (by exact hM57), (by rw [ht, rows_snoc]; exact hAll.snoc hrd1), (by exact hMf), h.weak (subB_cons rfl (subB_cons rfl (subB_cons rfl (subB_cons rfl (subB_cons rfl (subB_cons rfl (subB_nil))))))), (by exact hO.drop)⟩
    · have hp1 := hb1
      try simp only [decide_eq_true_eq, decide_eq_false_iff_not, Bool.not_eq_true', Bool.not_eq_false', Int.not_lt, Int.not_le, ne_eq, Decidable.not_not] at hp1
      refine exit_ ?_
      refine then_x ?_
      refine then_x ?_
      refine inB_same ?_
      refine then_n ?_
      refine seq ?_
      refine region ?_
      refine so h hO (yl_move h rfl) rfl ?_; clear h a; intro a h
      refine so h hO (yl_move h rfl) rfl ?_; clear h a; intro a h
      refine so h hO (yl_assign h rfl) rfl ?_; clear h a; intro a h
      refine so h hO (yl_assign h rfl) rfl ?_; clear h a; intro a h
      refine endL ?_
      refine then_n ?_
      refine retc ?_
      refine ret2 h hO Try.results27 (.tmp rfl (.tmp rfl .nil)) ?_
      refine Ret.mk ?_
      have hk1 : k = xs.length := by omega
      subst hk1
      simp only [List.take_length] at hAll hMf ⊢
      exact ⟨_, _, _, _, rfl, ⟨hs, hMo.rd.mono inE_r, hAll.mono (fun _ _ h => h.mono inE_l)⟩, hMf, hO.join⟩
end Go.Proofs.Ytebfglbnemahiaa
