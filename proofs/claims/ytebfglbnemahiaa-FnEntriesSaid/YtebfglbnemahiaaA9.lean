import Derived.Test.YtebfglbnemahiaaProg
import Derived.Test.YtebfglbnemahiaaA8
import Derived.Test.YtebfglbnemahiaaM2
namespace Go.Proofs.Ytebfglbnemahiaa
open Go.RowKit Go.E Go.Ents
set_option linter.unusedVariables false
set_option linter.unusedSimpArgs false
theorem p59 : ((Try.prog.funcs[4]?).any fun fn => fn.body.isSome && fn.name != "runtime.NumGoroutine") = true := by kernel_rfl
theorem p60 : ((Try.prog.funcs[5]?).any fun fn => fn.body.isSome && fn.name != "runtime.NumGoroutine") = true := by kernel_rfl
theorem p61 : ((Try.prog.funcs[6]?).any fun fn => fn.body.isSome && fn.name != "runtime.NumGoroutine") = true := by kernel_rfl
theorem p62 : ((Try.prog.funcs[7]?).any fun fn => fn.body.isSome && fn.name != "runtime.NumGoroutine") = true := by kernel_rfl
theorem p63 : ((Try.prog.funcs[8]?).any fun fn => fn.body.isSome && fn.name != "runtime.NumGoroutine") = true := by kernel_rfl
theorem p64 : ((Try.prog.funcs[9]?).any fun fn => fn.body.isSome && fn.name != "runtime.NumGoroutine") = true := by kernel_rfl
theorem p65 : ((Try.prog.funcs[10]?).any fun fn => fn.body.isSome && fn.name != "runtime.NumGoroutine") = true := by kernel_rfl
theorem p66 : ((Try.prog.funcs[11]?).any fun fn => fn.body.isSome && fn.name != "runtime.NumGoroutine") = true := by kernel_rfl
theorem p67 : ((Try.prog.funcs[12]?).any fun fn => fn.body.isSome && fn.name != "runtime.NumGoroutine") = true := by kernel_rfl
theorem p68 : ((Try.prog.funcs[13]?).any fun fn => fn.body.isSome && fn.name != "runtime.NumGoroutine") = true := by kernel_rfl
theorem p69 : ((Try.prog.funcs[14]?).any fun fn => fn.body.isSome && fn.name != "runtime.NumGoroutine") = true := by kernel_rfl
theorem p70 : ((Try.prog.funcs[15]?).any fun fn => fn.body.isSome && fn.name != "runtime.NumGoroutine") = true := by kernel_rfl
theorem p71 : ((Try.prog.funcs[16]?).any fun fn => fn.body.isSome && fn.name != "runtime.NumGoroutine") = true := by kernel_rfl
theorem p72 : ((Try.prog.funcs[17]?).any fun fn => fn.body.isSome && fn.name != "runtime.NumGoroutine") = true := by kernel_rfl
theorem p73 : ((Try.prog.funcs[18]?).any fun fn => fn.body.isSome && fn.name != "runtime.NumGoroutine") = true := by kernel_rfl
theorem p74 : ((Try.prog.funcs[19]?).any fun fn => fn.body.isSome && fn.name != "runtime.NumGoroutine") = true := by kernel_rfl
theorem p75 : ((Try.prog.funcs[20]?).any fun fn => fn.body.isSome && fn.name != "runtime.NumGoroutine") = true := by kernel_rfl
theorem p76 : ((Try.prog.funcs[21]?).any fun fn => fn.body.isSome && fn.name != "runtime.NumGoroutine") = true := by kernel_rfl
theorem p77 : arrayB Try.prog 37 2 3 1 = true := by kernel_rfl
set_option maxRecDepth 100000 in
set_option maxHeartbeats 8000000 in
theorem FnEntries_walk (code : List Int) {v : Value} {w0 w : World} {L : List Ent} (hO : OwnE w0 w L) (hv : Rd U8 1 (extH w0) code v) (h8 : ∀ x ∈ code, 0 ≤ x ∧ x ≤ 255) : Calls Try.prog 3 ⟨[v]⟩ w (Ret (fun v w => v = .bool true ∧ OwnE w0 w L)) := by
  refine enter Try.func3 rfl Try.ntmps3 rfl ?_
  intro a h
  refine seq ?_
  refine region ?_
  refine so h hO (yl_assign h rfl) rfl ?_; clear h a; intro a h
  refine endL ?_
  refine then_n ?_
  refine seq ?_
  refine seq ?_
  refine region ?_
  refine so h hO (yl_move h rfl) rfl ?_; clear h a; intro a h
  refine callR h rfl rfl p59 (vBig_spec code hO hv) rfl ?_; clear h a hO w
  rintro _ w ⟨rfl, hO⟩ a h
  refine endL ?_
  refine then_n ?_
  refine cond_s h rfl (fun hb1 => ?_) (fun hb1 => ?_)
  · have hp1 := hb1
    try simp only [decide_eq_true_eq, decide_eq_false_iff_not, Bool.not_eq_true', Bool.not_eq_false', Int.not_lt, Int.not_le, ne_eq, Decidable.not_not] at hp1
    refine seq ?_
    refine region ?_
    refine so h hO (yl_assign h rfl) rfl ?_; clear h a; intro a h
    refine endL ?_
    refine then_n ?_
    refine retc ?_
    refine then_r (ret1 h hO Try.results3 (.tmp rfl .nil) ?_)
    refine Ret.mk ?_
    exact ⟨rfl, (by exact hO.sub (by repeat (first | with_reducible exact List.Sublist.refl _ | with_reducible refine List.Sublist.cons_cons _ ?_ | refine List.Sublist.cons _ ?_)))⟩
  · have hp1 := hb1
    try simp only [decide_eq_true_eq, decide_eq_false_iff_not, Bool.not_eq_true', Bool.not_eq_false', Int.not_lt, Int.not_le, ne_eq, Decidable.not_not] at hp1
    refine skip ?_
    refine then_n ?_
    refine seq ?_
    refine region ?_
    refine so h hO (yl_move h rfl) rfl ?_; clear h a; intro a h
    refine callR h rfl rfl p60 (DrawOpenAtEnd_spec code hO hv h8) rfl ?_; clear h a hO w
    rintro _ w ⟨xs, e0, hx0, hO⟩ a h
    have hq0 := hx0
    obtain ⟨A0, c0, rfl, hc0, hr0⟩ := hq0
    refine so h hO (yl_assign h rfl) rfl ?_; clear h a; intro a h
    refine endL ?_
    refine then_n ?_
    refine seq ?_
    refine region ?_
    refine so h hO (yl_move h rfl) rfl ?_; clear h a; intro a h
    refine callR h rfl rfl p61 (OpenAtEnd_i _ hO hx0 (by first | assumption | exact Val.sub (by assumption) (by repeat (first | with_reducible exact List.Sublist.refl _ | with_reducible refine List.Sublist.cons_cons _ ?_ | refine List.Sublist.cons _ ?_)) | with_reducible exact Val.ext _ _ | exact Val.ent (by first | with_reducible exact mem0 | with_reducible exact memS (mem0) | with_reducible exact memS (memS (mem0)) | with_reducible exact memS (memS (memS (mem0))) | with_reducible exact memS (memS (memS (memS (mem0)))) | with_reducible exact memS (memS (memS (memS (memS (mem0))))) | with_reducible exact memS (memS (memS (memS (memS (memS (mem0)))))) | with_reducible exact memS (memS (memS (memS (memS (memS (memS (mem0))))))) | with_reducible exact memS (memS (memS (memS (memS (memS (memS (memS (mem0)))))))) | with_reducible exact memS (memS (memS (memS (memS (memS (memS (memS (memS (mem0))))))))) | with_reducible exact memS (memS (memS (memS (memS (memS (memS (memS (memS (memS (mem0)))))))))) | with_reducible exact memS (memS (memS (memS (memS (memS (memS (memS (memS (memS (memS (mem0))))))))))) | with_reducible exact memS (memS (memS (memS (memS (memS (memS (memS (memS (memS (memS (memS (mem0)))))))))))) | with_reducible exact memS (memS (memS (memS (memS (memS (memS (memS (memS (memS (memS (memS (memS (mem0)))))))))))))))) rfl ?_; clear h a hO w
    rintro _ w ⟨v1, e1, rfl, hx1, hO⟩ a h
    have hq1 := hx1
    obtain ⟨A1, c1, rfl, hc1, hr1⟩ := hq1
    refine so h hO (yl_move h rfl) rfl ?_; clear h a; intro a h
    refine so h hO (yl_extract h rfl rfl) rfl ?_; clear h a; intro a h
    refine so h hO (yl_extract h rfl rfl) rfl ?_; clear h a; intro a h
    refine so h hO (yl_assign h rfl) rfl ?_; clear h a; intro a h
    refine so h hO (yl_assign h rfl) rfl ?_; clear h a; intro a h
    refine endL ?_
    refine then_n ?_
    refine seq ?_
    refine region ?_
    refine so h hO (yl_move h rfl) rfl ?_; clear h a; intro a h
    refine callR h rfl rfl p62 (OpenAtEnd_s _ hO hx0 (by first | assumption | exact Val.sub (by assumption) (by repeat (first | with_reducible exact List.Sublist.refl _ | with_reducible refine List.Sublist.cons_cons _ ?_ | refine List.Sublist.cons _ ?_)) | with_reducible exact Val.ext _ _ | exact Val.ent (by first | with_reducible exact mem0 | with_reducible exact memS (mem0) | with_reducible exact memS (memS (mem0)) | with_reducible exact memS (memS (memS (mem0))) | with_reducible exact memS (memS (memS (memS (mem0)))) | with_reducible exact memS (memS (memS (memS (memS (mem0))))) | with_reducible exact memS (memS (memS (memS (memS (memS (mem0)))))) | with_reducible exact memS (memS (memS (memS (memS (memS (memS (mem0))))))) | with_reducible exact memS (memS (memS (memS (memS (memS (memS (memS (mem0)))))))) | with_reducible exact memS (memS (memS (memS (memS (memS (memS (memS (memS (mem0))))))))) | with_reducible exact memS (memS (memS (memS (memS (memS (memS (memS (memS (memS (mem0)))))))))) | with_reducible exact memS (memS (memS (memS (memS (memS (memS (memS (memS (memS (memS (mem0))))))))))) | with_reducible exact memS (memS (memS (memS (memS (memS (memS (memS (memS (memS (memS (memS (mem0)))))))))))) | with_reducible exact memS (memS (memS (memS (memS (memS (memS (memS (memS (memS (memS (memS (memS (mem0)))))))))))))))) rfl ?_; clear h a hO w
    rintro _ w ⟨v2, e2, rfl, hx2, hO⟩ a h
    have hq2 := hx2
    obtain ⟨A2, c2, rfl, hc2, hr2⟩ := hq2
    refine so h hO (yl_move h rfl) rfl ?_; clear h a; intro a h
    refine so h hO (yl_extract h rfl rfl) rfl ?_; clear h a; intro a h
    refine so h hO (yl_extract h rfl rfl) rfl ?_; clear h a; intro a h
    refine so h hO (yl_assign h rfl) rfl ?_; clear h a; intro a h
    refine so h hO (yl_assign h rfl) rfl ?_; clear h a; intro a h
    refine endL ?_
    refine then_n ?_
    refine seq ?_
    refine region ?_
    refine so h hO (yl_move h rfl) rfl ?_; clear h a; intro a h
    refine callR h rfl rfl p63 (FaultsOf_i _ hO hx0 (by first | assumption | exact Val.sub (by assumption) (by repeat (first | with_reducible exact List.Sublist.refl _ | with_reducible refine List.Sublist.cons_cons _ ?_ | refine List.Sublist.cons _ ?_)) | with_reducible exact Val.ext _ _ | exact Val.ent (by first | with_reducible exact mem0 | with_reducible exact memS (mem0) | with_reducible exact memS (memS (mem0)) | with_reducible exact memS (memS (memS (mem0))) | with_reducible exact memS (memS (memS (memS (mem0)))) | with_reducible exact memS (memS (memS (memS (memS (mem0))))) | with_reducible exact memS (memS (memS (memS (memS (memS (mem0)))))) | with_reducible exact memS (memS (memS (memS (memS (memS (memS (mem0))))))) | with_reducible exact memS (memS (memS (memS (memS (memS (memS (memS (mem0)))))))) | with_reducible exact memS (memS (memS (memS (memS (memS (memS (memS (memS (mem0))))))))) | with_reducible exact memS (memS (memS (memS (memS (memS (memS (memS (memS (memS (mem0)))))))))) | with_reducible exact memS (memS (memS (memS (memS (memS (memS (memS (memS (memS (memS (mem0))))))))))) | with_reducible exact memS (memS (memS (memS (memS (memS (memS (memS (memS (memS (memS (memS (mem0)))))))))))) | with_reducible exact memS (memS (memS (memS (memS (memS (memS (memS (memS (memS (memS (memS (memS (mem0)))))))))))))))) rfl ?_; clear h a hO w
    rintro _ w ⟨v3, e3, rfl, hx3, hO⟩ a h
    have hq3 := hx3
    obtain ⟨A3, c3, rfl, hc3, hr3⟩ := hq3
    refine so h hO (yl_move h rfl) rfl ?_; clear h a; intro a h
    refine so h hO (yl_extract h rfl rfl) rfl ?_; clear h a; intro a h
    refine so h hO (yl_extract h rfl rfl) rfl ?_; clear h a; intro a h
    refine so h hO (yl_assign h rfl) rfl ?_; clear h a; intro a h
    refine so h hO (yl_assign h rfl) rfl ?_; clear h a; intro a h
    refine endL ?_
    refine then_n ?_
    refine seq ?_
    refine region ?_
    refine so h hO (yl_move h rfl) rfl ?_; clear h a; intro a h
    refine callR h rfl rfl p64 (FaultsOf_s _ hO hx0 (by first | assumption | exact Val.sub (by assumption) (by repeat (first | with_reducible exact List.Sublist.refl _ | with_reducible refine List.Sublist.cons_cons _ ?_ | refine List.Sublist.cons _ ?_)) | with_reducible exact Val.ext _ _ | exact Val.ent (by first | with_reducible exact mem0 | with_reducible exact memS (mem0) | with_reducible exact memS (memS (mem0)) | with_reducible exact memS (memS (memS (mem0))) | with_reducible exact memS (memS (memS (memS (mem0)))) | with_reducible exact memS (memS (memS (memS (memS (mem0))))) | with_reducible exact memS (memS (memS (memS (memS (memS (mem0)))))) | with_reducible exact memS (memS (memS (memS (memS (memS (memS (mem0))))))) | with_reducible exact memS (memS (memS (memS (memS (memS (memS (memS (mem0)))))))) | with_reducible exact memS (memS (memS (memS (memS (memS (memS (memS (memS (mem0))))))))) | with_reducible exact memS (memS (memS (memS (memS (memS (memS (memS (memS (memS (mem0)))))))))) | with_reducible exact memS (memS (memS (memS (memS (memS (memS (memS (memS (memS (memS (mem0))))))))))) | with_reducible exact memS (memS (memS (memS (memS (memS (memS (memS (memS (memS (memS (memS (mem0)))))))))))) | with_reducible exact memS (memS (memS (memS (memS (memS (memS (memS (memS (memS (memS (memS (memS (mem0)))))))))))))))) rfl ?_; clear h a hO w
    rintro _ w ⟨v4, e4, rfl, hx4, hO⟩ a h
    have hq4 := hx4
    obtain ⟨A4, c4, rfl, hc4, hr4⟩ := hq4
    refine so h hO (yl_move h rfl) rfl ?_; clear h a; intro a h
    refine so h hO (yl_extract h rfl rfl) rfl ?_; clear h a; intro a h
    refine so h hO (yl_extract h rfl rfl) rfl ?_; clear h a; intro a h
    refine so h hO (yl_assign h rfl) rfl ?_; clear h a; intro a h
    refine so h hO (yl_assign h rfl) rfl ?_; clear h a; intro a h
    refine endL ?_
    refine then_n ?_
    refine seq ?_
    refine region ?_
    refine so h hO (yl_move h rfl) rfl ?_; clear h a; intro a h
    refine callR h rfl rfl p65 (IsTidy_i _ hO hx0 (by first | assumption | exact Val.sub (by assumption) (by repeat (first | with_reducible exact List.Sublist.refl _ | with_reducible refine List.Sublist.cons_cons _ ?_ | refine List.Sublist.cons _ ?_)) | with_reducible exact Val.ext _ _ | exact Val.ent (by first | with_reducible exact mem0 | with_reducible exact memS (mem0) | with_reducible exact memS (memS (mem0)) | with_reducible exact memS (memS (memS (mem0))) | with_reducible exact memS (memS (memS (memS (mem0)))) | with_reducible exact memS (memS (memS (memS (memS (mem0))))) | with_reducible exact memS (memS (memS (memS (memS (memS (mem0)))))) | with_reducible exact memS (memS (memS (memS (memS (memS (memS (mem0))))))) | with_reducible exact memS (memS (memS (memS (memS (memS (memS (memS (mem0)))))))) | with_reducible exact memS (memS (memS (memS (memS (memS (memS (memS (memS (mem0))))))))) | with_reducible exact memS (memS (memS (memS (memS (memS (memS (memS (memS (memS (mem0)))))))))) | with_reducible exact memS (memS (memS (memS (memS (memS (memS (memS (memS (memS (memS (mem0))))))))))) | with_reducible exact memS (memS (memS (memS (memS (memS (memS (memS (memS (memS (memS (memS (mem0)))))))))))) | with_reducible exact memS (memS (memS (memS (memS (memS (memS (memS (memS (memS (memS (memS (memS (mem0)))))))))))))))) rfl ?_; clear h a hO w
    rintro _ w ⟨rfl, hO⟩ a h
    refine so h hO (yl_move h rfl) rfl ?_; clear h a; intro a h
    refine so h hO (yl_extract h rfl rfl) rfl ?_; clear h a; intro a h
    refine so h hO (yl_extract h rfl rfl) rfl ?_; clear h a; intro a h
    refine so h hO (yl_assign h rfl) rfl ?_; clear h a; intro a h
    refine so h hO (yl_assign h rfl) rfl ?_; clear h a; intro a h
    refine endL ?_
    refine then_n ?_
    refine seq ?_
    refine region ?_
    refine so h hO (yl_move h rfl) rfl ?_; clear h a; intro a h
    refine callR h rfl rfl p66 (IsTidy_s _ hO hx0 (by first | assumption | exact Val.sub (by assumption) (by repeat (first | with_reducible exact List.Sublist.refl _ | with_reducible refine List.Sublist.cons_cons _ ?_ | refine List.Sublist.cons _ ?_)) | with_reducible exact Val.ext _ _ | exact Val.ent (by first | with_reducible exact mem0 | with_reducible exact memS (mem0) | with_reducible exact memS (memS (mem0)) | with_reducible exact memS (memS (memS (mem0))) | with_reducible exact memS (memS (memS (memS (mem0)))) | with_reducible exact memS (memS (memS (memS (memS (mem0))))) | with_reducible exact memS (memS (memS (memS (memS (memS (mem0)))))) | with_reducible exact memS (memS (memS (memS (memS (memS (memS (mem0))))))) | with_reducible exact memS (memS (memS (memS (memS (memS (memS (memS (mem0)))))))) | with_reducible exact memS (memS (memS (memS (memS (memS (memS (memS (memS (mem0))))))))) | with_reducible exact memS (memS (memS (memS (memS (memS (memS (memS (memS (memS (mem0)))))))))) | with_reducible exact memS (memS (memS (memS (memS (memS (memS (memS (memS (memS (memS (mem0))))))))))) | with_reducible exact memS (memS (memS (memS (memS (memS (memS (memS (memS (memS (memS (memS (mem0)))))))))))) | with_reducible exact memS (memS (memS (memS (memS (memS (memS (memS (memS (memS (memS (memS (memS (mem0)))))))))))))))) rfl ?_; clear h a hO w
    rintro _ w ⟨rfl, hO⟩ a h
    refine so h hO (yl_move h rfl) rfl ?_; clear h a; intro a h
    refine so h hO (yl_extract h rfl rfl) rfl ?_; clear h a; intro a h
    refine so h hO (yl_extract h rfl rfl) rfl ?_; clear h a; intro a h
    refine so h hO (yl_assign h rfl) rfl ?_; clear h a; intro a h
    refine so h hO (yl_assign h rfl) rfl ?_; clear h a; intro a h
    refine endL ?_
    refine then_n ?_
    refine seq ?_
    refine region ?_
    refine so h hO (yl_move h rfl) rfl ?_; clear h a; intro a h
    refine callR h rfl rfl p67 (IsNested_i _ hO hx0 (by first | assumption | exact Val.sub (by assumption) (by repeat (first | with_reducible exact List.Sublist.refl _ | with_reducible refine List.Sublist.cons_cons _ ?_ | refine List.Sublist.cons _ ?_)) | with_reducible exact Val.ext _ _ | exact Val.ent (by first | with_reducible exact mem0 | with_reducible exact memS (mem0) | with_reducible exact memS (memS (mem0)) | with_reducible exact memS (memS (memS (mem0))) | with_reducible exact memS (memS (memS (memS (mem0)))) | with_reducible exact memS (memS (memS (memS (memS (mem0))))) | with_reducible exact memS (memS (memS (memS (memS (memS (mem0)))))) | with_reducible exact memS (memS (memS (memS (memS (memS (memS (mem0))))))) | with_reducible exact memS (memS (memS (memS (memS (memS (memS (memS (mem0)))))))) | with_reducible exact memS (memS (memS (memS (memS (memS (memS (memS (memS (mem0))))))))) | with_reducible exact memS (memS (memS (memS (memS (memS (memS (memS (memS (memS (mem0)))))))))) | with_reducible exact memS (memS (memS (memS (memS (memS (memS (memS (memS (memS (memS (mem0))))))))))) | with_reducible exact memS (memS (memS (memS (memS (memS (memS (memS (memS (memS (memS (memS (mem0)))))))))))) | with_reducible exact memS (memS (memS (memS (memS (memS (memS (memS (memS (memS (memS (memS (memS (mem0)))))))))))))))) rfl ?_; clear h a hO w
    rintro _ w ⟨⟨bn, rfl, hbn⟩, hO⟩ a h
    refine so h hO (yl_move h rfl) rfl ?_; clear h a; intro a h
    refine so h hO (yl_extract h rfl rfl) rfl ?_; clear h a; intro a h
    refine so h hO (yl_extract h rfl rfl) rfl ?_; clear h a; intro a h
    refine so h hO (yl_assign h rfl) rfl ?_; clear h a; intro a h
    refine so h hO (yl_assign h rfl) rfl ?_; clear h a; intro a h
    refine endL ?_
    refine then_n ?_
    refine seq ?_
    refine region ?_
    refine so h hO (yl_move h rfl) rfl ?_; clear h a; intro a h
    refine callR h rfl rfl p68 (IsNested_s _ hO hx0 (by first | assumption | exact Val.sub (by assumption) (by repeat (first | with_reducible exact List.Sublist.refl _ | with_reducible refine List.Sublist.cons_cons _ ?_ | refine List.Sublist.cons _ ?_)) | with_reducible exact Val.ext _ _ | exact Val.ent (by first | with_reducible exact mem0 | with_reducible exact memS (mem0) | with_reducible exact memS (memS (mem0)) | with_reducible exact memS (memS (memS (mem0))) | with_reducible exact memS (memS (memS (memS (mem0)))) | with_reducible exact memS (memS (memS (memS (memS (mem0))))) | with_reducible exact memS (memS (memS (memS (memS (memS (mem0)))))) | with_reducible exact memS (memS (memS (memS (memS (memS (memS (mem0))))))) | with_reducible exact memS (memS (memS (memS (memS (memS (memS (memS (mem0)))))))) | with_reducible exact memS (memS (memS (memS (memS (memS (memS (memS (memS (mem0))))))))) | with_reducible exact memS (memS (memS (memS (memS (memS (memS (memS (memS (memS (mem0)))))))))) | with_reducible exact memS (memS (memS (memS (memS (memS (memS (memS (memS (memS (memS (mem0))))))))))) | with_reducible exact memS (memS (memS (memS (memS (memS (memS (memS (memS (memS (memS (memS (mem0)))))))))))) | with_reducible exact memS (memS (memS (memS (memS (memS (memS (memS (memS (memS (memS (memS (memS (mem0)))))))))))))))) rfl ?_; clear h a hO w
    rintro _ w ⟨⟨bm, rfl, hbm⟩, hO⟩ a h
    have hbb : bm = bn := Bool.eq_iff_iff.2 (hbm.trans (Iff.trans ⟨fun h => ⟨h.1, (nested_eq h.2.2).2 h.2.1, h.2.2⟩, fun h => ⟨h.1, (nested_eq h.2.2).1 h.2.1, h.2.2⟩⟩ hbn.symm))
    subst hbb
    refine so h hO (yl_move h rfl) rfl ?_; clear h a; intro a h
    refine so h hO (yl_extract h rfl rfl) rfl ?_; clear h a; intro a h
    refine so h hO (yl_extract h rfl rfl) rfl ?_; clear h a; intro a h
    refine so h hO (yl_assign h rfl) rfl ?_; clear h a; intro a h
    refine so h hO (yl_assign h rfl) rfl ?_; clear h a; intro a h
    refine endL ?_
    refine then_n ?_
    refine seq ?_
    refine region ?_
    refine so h hO (yl_move h rfl) rfl ?_; clear h a; intro a h
    refine callR h rfl rfl p69 (MostOpen_i _ hO hx0 (by first | assumption | exact Val.sub (by assumption) (by repeat (first | with_reducible exact List.Sublist.refl _ | with_reducible refine List.Sublist.cons_cons _ ?_ | refine List.Sublist.cons _ ?_)) | with_reducible exact Val.ext _ _ | exact Val.ent (by first | with_reducible exact mem0 | with_reducible exact memS (mem0) | with_reducible exact memS (memS (mem0)) | with_reducible exact memS (memS (memS (mem0))) | with_reducible exact memS (memS (memS (memS (mem0)))) | with_reducible exact memS (memS (memS (memS (memS (mem0))))) | with_reducible exact memS (memS (memS (memS (memS (memS (mem0)))))) | with_reducible exact memS (memS (memS (memS (memS (memS (memS (mem0))))))) | with_reducible exact memS (memS (memS (memS (memS (memS (memS (memS (mem0)))))))) | with_reducible exact memS (memS (memS (memS (memS (memS (memS (memS (memS (mem0))))))))) | with_reducible exact memS (memS (memS (memS (memS (memS (memS (memS (memS (memS (mem0)))))))))) | with_reducible exact memS (memS (memS (memS (memS (memS (memS (memS (memS (memS (memS (mem0))))))))))) | with_reducible exact memS (memS (memS (memS (memS (memS (memS (memS (memS (memS (memS (memS (mem0)))))))))))) | with_reducible exact memS (memS (memS (memS (memS (memS (memS (memS (memS (memS (memS (memS (memS (mem0)))))))))))))))) rfl ?_; clear h a hO w
    rintro _ w ⟨rfl, hO⟩ a h
    refine so h hO (yl_move h rfl) rfl ?_; clear h a; intro a h
    refine so h hO (yl_extract h rfl rfl) rfl ?_; clear h a; intro a h
    refine so h hO (yl_extract h rfl rfl) rfl ?_; clear h a; intro a h
    refine so h hO (yl_assign h rfl) rfl ?_; clear h a; intro a h
    refine so h hO (yl_assign h rfl) rfl ?_; clear h a; intro a h
    refine endL ?_
    refine then_n ?_
    refine seq ?_
    refine region ?_
    refine so h hO (yl_move h rfl) rfl ?_; clear h a; intro a h
    refine callR h rfl rfl p70 (MostOpen_s _ hO hx0 (by first | assumption | exact Val.sub (by assumption) (by repeat (first | with_reducible exact List.Sublist.refl _ | with_reducible refine List.Sublist.cons_cons _ ?_ | refine List.Sublist.cons _ ?_)) | with_reducible exact Val.ext _ _ | exact Val.ent (by first | with_reducible exact mem0 | with_reducible exact memS (mem0) | with_reducible exact memS (memS (mem0)) | with_reducible exact memS (memS (memS (mem0))) | with_reducible exact memS (memS (memS (memS (mem0)))) | with_reducible exact memS (memS (memS (memS (memS (mem0))))) | with_reducible exact memS (memS (memS (memS (memS (memS (mem0)))))) | with_reducible exact memS (memS (memS (memS (memS (memS (memS (mem0))))))) | with_reducible exact memS (memS (memS (memS (memS (memS (memS (memS (mem0)))))))) | with_reducible exact memS (memS (memS (memS (memS (memS (memS (memS (memS (mem0))))))))) | with_reducible exact memS (memS (memS (memS (memS (memS (memS (memS (memS (memS (mem0)))))))))) | with_reducible exact memS (memS (memS (memS (memS (memS (memS (memS (memS (memS (memS (mem0))))))))))) | with_reducible exact memS (memS (memS (memS (memS (memS (memS (memS (memS (memS (memS (memS (mem0)))))))))))) | with_reducible exact memS (memS (memS (memS (memS (memS (memS (memS (memS (memS (memS (memS (memS (mem0)))))))))))))))) rfl ?_; clear h a hO w
    rintro _ w ⟨rfl, hO⟩ a h
    refine so h hO (yl_move h rfl) rfl ?_; clear h a; intro a h
    refine so h hO (yl_extract h rfl rfl) rfl ?_; clear h a; intro a h
    refine so h hO (yl_extract h rfl rfl) rfl ?_; clear h a; intro a h
    refine so h hO (yl_assign h rfl) rfl ?_; clear h a; intro a h
    refine so h hO (yl_assign h rfl) rfl ?_; clear h a; intro a h
    refine endL ?_
    refine then_n ?_
    refine seq ?_
    refine region ?_
    refine so h hO (yl_move h rfl) rfl ?_; clear h a; intro a h
    refine callR h rfl rfl p71 (SpansOf_i _ hO hx0 (by first | assumption | exact Val.sub (by assumption) (by repeat (first | with_reducible exact List.Sublist.refl _ | with_reducible refine List.Sublist.cons_cons _ ?_ | refine List.Sublist.cons _ ?_)) | with_reducible exact Val.ext _ _ | exact Val.ent (by first | with_reducible exact mem0 | with_reducible exact memS (mem0) | with_reducible exact memS (memS (mem0)) | with_reducible exact memS (memS (memS (mem0))) | with_reducible exact memS (memS (memS (memS (mem0)))) | with_reducible exact memS (memS (memS (memS (memS (mem0))))) | with_reducible exact memS (memS (memS (memS (memS (memS (mem0)))))) | with_reducible exact memS (memS (memS (memS (memS (memS (memS (mem0))))))) | with_reducible exact memS (memS (memS (memS (memS (memS (memS (memS (mem0)))))))) | with_reducible exact memS (memS (memS (memS (memS (memS (memS (memS (memS (mem0))))))))) | with_reducible exact memS (memS (memS (memS (memS (memS (memS (memS (memS (memS (mem0)))))))))) | with_reducible exact memS (memS (memS (memS (memS (memS (memS (memS (memS (memS (memS (mem0))))))))))) | with_reducible exact memS (memS (memS (memS (memS (memS (memS (memS (memS (memS (memS (memS (mem0)))))))))))) | with_reducible exact memS (memS (memS (memS (memS (memS (memS (memS (memS (memS (memS (memS (memS (mem0)))))))))))))))) rfl ?_; clear h a hO w
    rintro _ w ⟨v5, e5, rfl, hx5, hO⟩ a h
    have hq5 := hx5
    obtain ⟨A5, c5, rfl, hc5, hr5⟩ := hq5
    refine so h hO (yl_move h rfl) rfl ?_; clear h a; intro a h
    refine so h hO (yl_extract h rfl rfl) rfl ?_; clear h a; intro a h
    refine so h hO (yl_extract h rfl rfl) rfl ?_; clear h a; intro a h
    refine so h hO (yl_assign h rfl) rfl ?_; clear h a; intro a h
    refine so h hO (yl_assign h rfl) rfl ?_; clear h a; intro a h
    refine endL ?_
    refine then_n ?_
    refine seq ?_
    refine region ?_
    refine so h hO (yl_move h rfl) rfl ?_; clear h a; intro a h
    refine callR h rfl rfl p72 (SpansOf_s _ hO hx0 (by first | assumption | exact Val.sub (by assumption) (by repeat (first | with_reducible exact List.Sublist.refl _ | with_reducible refine List.Sublist.cons_cons _ ?_ | refine List.Sublist.cons _ ?_)) | with_reducible exact Val.ext _ _ | exact Val.ent (by first | with_reducible exact mem0 | with_reducible exact memS (mem0) | with_reducible exact memS (memS (mem0)) | with_reducible exact memS (memS (memS (mem0))) | with_reducible exact memS (memS (memS (memS (mem0)))) | with_reducible exact memS (memS (memS (memS (memS (mem0))))) | with_reducible exact memS (memS (memS (memS (memS (memS (mem0)))))) | with_reducible exact memS (memS (memS (memS (memS (memS (memS (mem0))))))) | with_reducible exact memS (memS (memS (memS (memS (memS (memS (memS (mem0)))))))) | with_reducible exact memS (memS (memS (memS (memS (memS (memS (memS (memS (mem0))))))))) | with_reducible exact memS (memS (memS (memS (memS (memS (memS (memS (memS (memS (mem0)))))))))) | with_reducible exact memS (memS (memS (memS (memS (memS (memS (memS (memS (memS (memS (mem0))))))))))) | with_reducible exact memS (memS (memS (memS (memS (memS (memS (memS (memS (memS (memS (memS (mem0)))))))))))) | with_reducible exact memS (memS (memS (memS (memS (memS (memS (memS (memS (memS (memS (memS (memS (mem0)))))))))))))))) rfl ?_; clear h a hO w
    rintro _ w ⟨v6, e6, rfl, hx6, hO⟩ a h
    have hq6 := hx6
    obtain ⟨A6, c6, rfl, hc6, hr6⟩ := hq6
    refine so h hO (yl_move h rfl) rfl ?_; clear h a; intro a h
    refine so h hO (yl_extract h rfl rfl) rfl ?_; clear h a; intro a h
    refine so h hO (yl_extract h rfl rfl) rfl ?_; clear h a; intro a h
    refine so h hO (yl_assign h rfl) rfl ?_; clear h a; intro a h
    refine so h hO (yl_assign h rfl) rfl ?_; clear h a; intro a h
    refine endL ?_
    refine then_n ?_
    refine seq ?_
    refine region ?_
    refine so h hO (yl_move h rfl) rfl ?_; clear h a; intro a h
    refine callR h rfl rfl p73 (MendEntries_i _ hO hx0 (by first | assumption | exact Val.sub (by assumption) (by repeat (first | with_reducible exact List.Sublist.refl _ | with_reducible refine List.Sublist.cons_cons _ ?_ | refine List.Sublist.cons _ ?_)) | with_reducible exact Val.ext _ _ | exact Val.ent (by first | with_reducible exact mem0 | with_reducible exact memS (mem0) | with_reducible exact memS (memS (mem0)) | with_reducible exact memS (memS (memS (mem0))) | with_reducible exact memS (memS (memS (memS (mem0)))) | with_reducible exact memS (memS (memS (memS (memS (mem0))))) | with_reducible exact memS (memS (memS (memS (memS (memS (mem0)))))) | with_reducible exact memS (memS (memS (memS (memS (memS (memS (mem0))))))) | with_reducible exact memS (memS (memS (memS (memS (memS (memS (memS (mem0)))))))) | with_reducible exact memS (memS (memS (memS (memS (memS (memS (memS (memS (mem0))))))))) | with_reducible exact memS (memS (memS (memS (memS (memS (memS (memS (memS (memS (mem0)))))))))) | with_reducible exact memS (memS (memS (memS (memS (memS (memS (memS (memS (memS (memS (mem0))))))))))) | with_reducible exact memS (memS (memS (memS (memS (memS (memS (memS (memS (memS (memS (memS (mem0)))))))))))) | with_reducible exact memS (memS (memS (memS (memS (memS (memS (memS (memS (memS (memS (memS (memS (mem0)))))))))))))))) rfl ?_; clear h a hO w
    rintro _ w ⟨v7, e7, rfl, hx7, hO⟩ a h
    have hq7 := hx7
    obtain ⟨A7, c7, rfl, hc7, hr7⟩ := hq7
    refine so h hO (yl_move h rfl) rfl ?_; clear h a; intro a h
    refine so h hO (yl_extract h rfl rfl) rfl ?_; clear h a; intro a h
    refine so h hO (yl_extract h rfl rfl) rfl ?_; clear h a; intro a h
    refine so h hO (yl_assign h rfl) rfl ?_; clear h a; intro a h
    refine so h hO (yl_assign h rfl) rfl ?_; clear h a; intro a h
    refine endL ?_
    refine then_n ?_
    refine seq ?_
    refine region ?_
    refine so h hO (yl_move h rfl) rfl ?_; clear h a; intro a h
    refine callR h rfl rfl p74 (MendEntries_s _ hO hx0 (by first | assumption | exact Val.sub (by assumption) (by repeat (first | with_reducible exact List.Sublist.refl _ | with_reducible refine List.Sublist.cons_cons _ ?_ | refine List.Sublist.cons _ ?_)) | with_reducible exact Val.ext _ _ | exact Val.ent (by first | with_reducible exact mem0 | with_reducible exact memS (mem0) | with_reducible exact memS (memS (mem0)) | with_reducible exact memS (memS (memS (mem0))) | with_reducible exact memS (memS (memS (memS (mem0)))) | with_reducible exact memS (memS (memS (memS (memS (mem0))))) | with_reducible exact memS (memS (memS (memS (memS (memS (mem0)))))) | with_reducible exact memS (memS (memS (memS (memS (memS (memS (mem0))))))) | with_reducible exact memS (memS (memS (memS (memS (memS (memS (memS (mem0)))))))) | with_reducible exact memS (memS (memS (memS (memS (memS (memS (memS (memS (mem0))))))))) | with_reducible exact memS (memS (memS (memS (memS (memS (memS (memS (memS (memS (mem0)))))))))) | with_reducible exact memS (memS (memS (memS (memS (memS (memS (memS (memS (memS (memS (mem0))))))))))) | with_reducible exact memS (memS (memS (memS (memS (memS (memS (memS (memS (memS (memS (memS (mem0)))))))))))) | with_reducible exact memS (memS (memS (memS (memS (memS (memS (memS (memS (memS (memS (memS (memS (mem0)))))))))))))))) rfl ?_; clear h a hO w
    rintro _ w ⟨v8, e8, rfl, hx8, hO⟩ a h
    have hq8 := hx8
    obtain ⟨A8, c8, rfl, hc8, hr8⟩ := hq8
    refine so h hO (yl_move h rfl) rfl ?_; clear h a; intro a h
    refine so h hO (yl_extract h rfl rfl) rfl ?_; clear h a; intro a h
    refine so h hO (yl_extract h rfl rfl) rfl ?_; clear h a; intro a h
    refine so h hO (yl_assign h rfl) rfl ?_; clear h a; intro a h
    refine so h hO (yl_assign h rfl) rfl ?_; clear h a; intro a h
    refine endL ?_
    refine then_n ?_
    refine seq_cut (R := fun a w => St 369 [] [(3, .slice A0 xs.length c0), (4, .slice A1 (if ok xs = true then opens xs else []).length c1), (5, .bool (ok xs)), (8, .slice A3 (if ok xs = true then faults xs else []).length c3), (12, .bool (ok xs && tidy xs)), (16, .bool bm), (20, .int .i64 (if ok xs = true then mx xs xs.length else 0)), (24, .slice A5 (if ok xs = true then sp xs xs.length else []).length c5), (28, .slice A7 (if (ok xs && decide ((mend xs).length ≤ 60)) = true then mend xs else []).length c7), (29, .bool (ok xs && decide ((mend xs).length ≤ 60)))] a ∧ OwnE w0 w (e7 :: e5 :: e0 :: L)) ?_ ?_
    · skip
      refine seq ?_
      refine region ?_
      refine so h hO (yl_move h rfl) rfl ?_; clear h a; intro a h
      refine so h hO (yl_move h rfl) rfl ?_; clear h a; intro a h
      refine so h hO (yl_neB h rfl rfl p22) rfl ?_; clear h a; intro a h
      refine so h hO (yl_move h rfl) rfl ?_; clear h a; intro a h
      refine split h 115 rfl (fun hb2 => ?_) (fun hb2 => ?_)
      · have hp2 := hb2
        try simp only [decide_eq_true_eq, decide_eq_false_iff_not, Bool.not_eq_true', Bool.not_eq_false', Int.not_lt, Int.not_le, ne_eq, Decidable.not_not] at hp2
        exfalso; simp at hb2
      · have hp2 := hb2
        try simp only [decide_eq_true_eq, decide_eq_false_iff_not, Bool.not_eq_true', Bool.not_eq_false', Int.not_lt, Int.not_le, ne_eq, Decidable.not_not] at hp2
        refine sog h hO (j := 3) rfl rfl hb2 (yl_move h rfl) rfl ?_; clear h a; intro a h
        refine sog h hO (j := 3) rfl rfl hb2 (yl_move h rfl) rfl ?_; clear h a; intro a h
        refine callRg h (j := 3) rfl rfl hb2 rfl rfl p75 (vInts_spec _ _ hO hx1 (by first | assumption | exact Val.sub (by assumption) (by repeat (first | with_reducible exact List.Sublist.refl _ | with_reducible refine List.Sublist.cons_cons _ ?_ | refine List.Sublist.cons _ ?_)) | with_reducible exact Val.ext _ _ | exact Val.ent (by first | with_reducible exact mem0 | with_reducible exact memS (mem0) | with_reducible exact memS (memS (mem0)) | with_reducible exact memS (memS (memS (mem0))) | with_reducible exact memS (memS (memS (memS (mem0)))) | with_reducible exact memS (memS (memS (memS (memS (mem0))))) | with_reducible exact memS (memS (memS (memS (memS (memS (mem0)))))) | with_reducible exact memS (memS (memS (memS (memS (memS (memS (mem0))))))) | with_reducible exact memS (memS (memS (memS (memS (memS (memS (memS (mem0)))))))) | with_reducible exact memS (memS (memS (memS (memS (memS (memS (memS (memS (mem0))))))))) | with_reducible exact memS (memS (memS (memS (memS (memS (memS (memS (memS (memS (mem0)))))))))) | with_reducible exact memS (memS (memS (memS (memS (memS (memS (memS (memS (memS (memS (mem0))))))))))) | with_reducible exact memS (memS (memS (memS (memS (memS (memS (memS (memS (memS (memS (memS (mem0)))))))))))) | with_reducible exact memS (memS (memS (memS (memS (memS (memS (memS (memS (memS (memS (memS (memS (mem0))))))))))))))) hx2 (by first | assumption | exact Val.sub (by assumption) (by repeat (first | with_reducible exact List.Sublist.refl _ | with_reducible refine List.Sublist.cons_cons _ ?_ | refine List.Sublist.cons _ ?_)) | with_reducible exact Val.ext _ _ | exact Val.ent (by first | with_reducible exact mem0 | with_reducible exact memS (mem0) | with_reducible exact memS (memS (mem0)) | with_reducible exact memS (memS (memS (mem0))) | with_reducible exact memS (memS (memS (memS (mem0)))) | with_reducible exact memS (memS (memS (memS (memS (mem0))))) | with_reducible exact memS (memS (memS (memS (memS (memS (mem0)))))) | with_reducible exact memS (memS (memS (memS (memS (memS (memS (mem0))))))) | with_reducible exact memS (memS (memS (memS (memS (memS (memS (memS (mem0)))))))) | with_reducible exact memS (memS (memS (memS (memS (memS (memS (memS (memS (mem0))))))))) | with_reducible exact memS (memS (memS (memS (memS (memS (memS (memS (memS (memS (mem0)))))))))) | with_reducible exact memS (memS (memS (memS (memS (memS (memS (memS (memS (memS (memS (mem0))))))))))) | with_reducible exact memS (memS (memS (memS (memS (memS (memS (memS (memS (memS (memS (memS (mem0)))))))))))) | with_reducible exact memS (memS (memS (memS (memS (memS (memS (memS (memS (memS (memS (memS (memS (mem0)))))))))))))))) rfl ?_; clear h a hO w
        rintro _ w ⟨rfl, hO⟩ a h
        refine sog h hO (j := 3) rfl rfl hb2 (yl_not h rfl) rfl ?_; clear h a; intro a h
        refine so h hO (yl_pick_f h rfl hb2 rfl) rfl ?_; clear h a; intro a h
        refine so h hO (yl_move h rfl) rfl ?_; clear h a; intro a h
        refine split h 121 rfl (fun hb3 => ?_) (fun hb3 => ?_)
        · have hp3 := hb3
          try simp only [decide_eq_true_eq, decide_eq_false_iff_not, Bool.not_eq_true', Bool.not_eq_false', Int.not_lt, Int.not_le, ne_eq, Decidable.not_not] at hp3
          exfalso; simp at hb3
        · have hp3 := hb3
          try simp only [decide_eq_true_eq, decide_eq_false_iff_not, Bool.not_eq_true', Bool.not_eq_false', Int.not_lt, Int.not_le, ne_eq, Decidable.not_not] at hp3
          refine sog h hO (j := 9) rfl rfl hb3 (yl_move h rfl) rfl ?_; clear h a; intro a h
          refine sog h hO (j := 9) rfl rfl hb3 (yl_move h rfl) rfl ?_; clear h a; intro a h
          refine sog h hO (j := 9) rfl rfl hb3 (yl_neB h rfl rfl p22) rfl ?_; clear h a; intro a h
          refine so h hO (yl_pick_f h rfl hb3 rfl) rfl ?_; clear h a; intro a h
          refine so h hO (yl_move h rfl) rfl ?_; clear h a; intro a h
          refine split h 126 rfl (fun hb4 => ?_) (fun hb4 => ?_)
          · have hp4 := hb4
            try simp only [decide_eq_true_eq, decide_eq_false_iff_not, Bool.not_eq_true', Bool.not_eq_false', Int.not_lt, Int.not_le, ne_eq, Decidable.not_not] at hp4
            exfalso; simp at hb4
          · have hp4 := hb4
            try simp only [decide_eq_true_eq, decide_eq_false_iff_not, Bool.not_eq_true', Bool.not_eq_false', Int.not_lt, Int.not_le, ne_eq, Decidable.not_not] at hp4
            refine sog h hO (j := 14) rfl rfl hb4 (yl_move h rfl) rfl ?_; clear h a; intro a h
            refine sog h hO (j := 14) rfl rfl hb4 (yl_move h rfl) rfl ?_; clear h a; intro a h
            refine callRg h (j := 14) rfl rfl hb4 rfl rfl p75 (vInts_spec _ _ hO hx3 (by first | assumption | exact Val.sub (by assumption) (by repeat (first | with_reducible exact List.Sublist.refl _ | with_reducible refine List.Sublist.cons_cons _ ?_ | refine List.Sublist.cons _ ?_)) | with_reducible exact Val.ext _ _ | exact Val.ent (by first | with_reducible exact mem0 | with_reducible exact memS (mem0) | with_reducible exact memS (memS (mem0)) | with_reducible exact memS (memS (memS (mem0))) | with_reducible exact memS (memS (memS (memS (mem0)))) | with_reducible exact memS (memS (memS (memS (memS (mem0))))) | with_reducible exact memS (memS (memS (memS (memS (memS (mem0)))))) | with_reducible exact memS (memS (memS (memS (memS (memS (memS (mem0))))))) | with_reducible exact memS (memS (memS (memS (memS (memS (memS (memS (mem0)))))))) | with_reducible exact memS (memS (memS (memS (memS (memS (memS (memS (memS (mem0))))))))) | with_reducible exact memS (memS (memS (memS (memS (memS (memS (memS (memS (memS (mem0)))))))))) | with_reducible exact memS (memS (memS (memS (memS (memS (memS (memS (memS (memS (memS (mem0))))))))))) | with_reducible exact memS (memS (memS (memS (memS (memS (memS (memS (memS (memS (memS (memS (mem0)))))))))))) | with_reducible exact memS (memS (memS (memS (memS (memS (memS (memS (memS (memS (memS (memS (memS (mem0))))))))))))))) hx4 (by first | assumption | exact Val.sub (by assumption) (by repeat (first | with_reducible exact List.Sublist.refl _ | with_reducible refine List.Sublist.cons_cons _ ?_ | refine List.Sublist.cons _ ?_)) | with_reducible exact Val.ext _ _ | exact Val.ent (by first | with_reducible exact mem0 | with_reducible exact memS (mem0) | with_reducible exact memS (memS (mem0)) | with_reducible exact memS (memS (memS (mem0))) | with_reducible exact memS (memS (memS (memS (mem0)))) | with_reducible exact memS (memS (memS (memS (memS (mem0))))) | with_reducible exact memS (memS (memS (memS (memS (memS (mem0)))))) | with_reducible exact memS (memS (memS (memS (memS (memS (memS (mem0))))))) | with_reducible exact memS (memS (memS (memS (memS (memS (memS (memS (mem0)))))))) | with_reducible exact memS (memS (memS (memS (memS (memS (memS (memS (memS (mem0))))))))) | with_reducible exact memS (memS (memS (memS (memS (memS (memS (memS (memS (memS (mem0)))))))))) | with_reducible exact memS (memS (memS (memS (memS (memS (memS (memS (memS (memS (memS (mem0))))))))))) | with_reducible exact memS (memS (memS (memS (memS (memS (memS (memS (memS (memS (memS (memS (mem0)))))))))))) | with_reducible exact memS (memS (memS (memS (memS (memS (memS (memS (memS (memS (memS (memS (memS (mem0)))))))))))))))) rfl ?_; clear h a hO w
            rintro _ w ⟨rfl, hO⟩ a h
            refine sog h hO (j := 14) rfl rfl hb4 (yl_not h rfl) rfl ?_; clear h a; intro a h
            refine so h hO (yl_pick_f h rfl hb4 rfl) rfl ?_; clear h a; intro a h
            refine so h hO (yl_move h rfl) rfl ?_; clear h a; intro a h
            refine split h 132 rfl (fun hb5 => ?_) (fun hb5 => ?_)
            · have hp5 := hb5
              try simp only [decide_eq_true_eq, decide_eq_false_iff_not, Bool.not_eq_true', Bool.not_eq_false', Int.not_lt, Int.not_le, ne_eq, Decidable.not_not] at hp5
              exfalso; simp at hb5
            · have hp5 := hb5
              try simp only [decide_eq_true_eq, decide_eq_false_iff_not, Bool.not_eq_true', Bool.not_eq_false', Int.not_lt, Int.not_le, ne_eq, Decidable.not_not] at hp5
              refine sog h hO (j := 20) rfl rfl hb5 (yl_move h rfl) rfl ?_; clear h a; intro a h
              refine sog h hO (j := 20) rfl rfl hb5 (yl_move h rfl) rfl ?_; clear h a; intro a h
              refine sog h hO (j := 20) rfl rfl hb5 (yl_neB h rfl rfl p22) rfl ?_; clear h a; intro a h
              refine so h hO (yl_pick_f h rfl hb5 rfl) rfl ?_; clear h a; intro a h
              refine so h hO (yl_move h rfl) rfl ?_; clear h a; intro a h
              refine split h 137 rfl (fun hb6 => ?_) (fun hb6 => ?_)
              · have hp6 := hb6
                try simp only [decide_eq_true_eq, decide_eq_false_iff_not, Bool.not_eq_true', Bool.not_eq_false', Int.not_lt, Int.not_le, ne_eq, Decidable.not_not] at hp6
                exfalso; simp at hb6
              · have hp6 := hb6
                try simp only [decide_eq_true_eq, decide_eq_false_iff_not, Bool.not_eq_true', Bool.not_eq_false', Int.not_lt, Int.not_le, ne_eq, Decidable.not_not] at hp6
                refine sog h hO (j := 25) rfl rfl hb6 (yl_move h rfl) rfl ?_; clear h a; intro a h
                refine sog h hO (j := 25) rfl rfl hb6 (yl_move h rfl) rfl ?_; clear h a; intro a h
                refine sog h hO (j := 25) rfl rfl hb6 (yl_neB h rfl rfl p22) rfl ?_; clear h a; intro a h
                refine so h hO (yl_pick_f h rfl hb6 rfl) rfl ?_; clear h a; intro a h
                refine so h hO (yl_move h rfl) rfl ?_; clear h a; intro a h
                refine split h 142 rfl (fun hb7 => ?_) (fun hb7 => ?_)
                · have hp7 := hb7
                  try simp only [decide_eq_true_eq, decide_eq_false_iff_not, Bool.not_eq_true', Bool.not_eq_false', Int.not_lt, Int.not_le, ne_eq, Decidable.not_not] at hp7
                  exfalso; simp at hb7
                · have hp7 := hb7
                  try simp only [decide_eq_true_eq, decide_eq_false_iff_not, Bool.not_eq_true', Bool.not_eq_false', Int.not_lt, Int.not_le, ne_eq, Decidable.not_not] at hp7
                  refine sog h hO (j := 30) rfl rfl hb7 (yl_move h rfl) rfl ?_; clear h a; intro a h
                  refine sog h hO (j := 30) rfl rfl hb7 (yl_move h rfl) rfl ?_; clear h a; intro a h
                  refine sog h hO (j := 30) rfl rfl hb7 (yl_neB h rfl rfl p22) rfl ?_; clear h a; intro a h
                  refine so h hO (yl_pick_f h rfl hb7 rfl) rfl ?_; clear h a; intro a h
                  refine so h hO (yl_move h rfl) rfl ?_; clear h a; intro a h
                  refine split h 147 rfl (fun hb8 => ?_) (fun hb8 => ?_)
                  · have hp8 := hb8
                    try simp only [decide_eq_true_eq, decide_eq_false_iff_not, Bool.not_eq_true', Bool.not_eq_false', Int.not_lt, Int.not_le, ne_eq, Decidable.not_not] at hp8
                    exfalso; simp at hb8
                  · have hp8 := hb8
                    try simp only [decide_eq_true_eq, decide_eq_false_iff_not, Bool.not_eq_true', Bool.not_eq_false', Int.not_lt, Int.not_le, ne_eq, Decidable.not_not] at hp8
                    refine sog h hO (j := 35) rfl rfl hb8 (yl_move h rfl) rfl ?_; clear h a; intro a h
                    refine sog h hO (j := 35) rfl rfl hb8 (yl_move h rfl) rfl ?_; clear h a; intro a h
                    refine sog h hO (j := 35) rfl rfl hb8 (yl_neB h rfl rfl p22) rfl ?_; clear h a; intro a h
                    refine so h hO (yl_pick_f h rfl hb8 rfl) rfl ?_; clear h a; intro a h
                    refine so h hO (yl_move h rfl) rfl ?_; clear h a; intro a h
                    refine split h 152 rfl (fun hb9 => ?_) (fun hb9 => ?_)
                    · have hp9 := hb9
                      try simp only [decide_eq_true_eq, decide_eq_false_iff_not, Bool.not_eq_true', Bool.not_eq_false', Int.not_lt, Int.not_le, ne_eq, Decidable.not_not] at hp9
                      exfalso; simp at hb9
                    · have hp9 := hb9
                      try simp only [decide_eq_true_eq, decide_eq_false_iff_not, Bool.not_eq_true', Bool.not_eq_false', Int.not_lt, Int.not_le, ne_eq, Decidable.not_not] at hp9
                      refine sog h hO (j := 40) rfl rfl hb9 (yl_move h rfl) rfl ?_; clear h a; intro a h
                      refine sog h hO (j := 40) rfl rfl hb9 (yl_move h rfl) rfl ?_; clear h a; intro a h
                      refine sog h hO (j := 40) rfl rfl hb9 (yl_ne h rfl rfl) rfl ?_; clear h a; intro a h
                      refine so h hO (yl_pick_f h rfl hb9 rfl) rfl ?_; clear h a; intro a h
                      refine so h hO (yl_move h rfl) rfl ?_; clear h a; intro a h
                      refine split h 157 rfl (fun hb10 => ?_) (fun hb10 => ?_)
                      · have hp10 := hb10
                        try simp only [decide_eq_true_eq, decide_eq_false_iff_not, Bool.not_eq_true', Bool.not_eq_false', Int.not_lt, Int.not_le, ne_eq, Decidable.not_not] at hp10
                        exfalso; simp at hb10
                      · have hp10 := hb10
                        try simp only [decide_eq_true_eq, decide_eq_false_iff_not, Bool.not_eq_true', Bool.not_eq_false', Int.not_lt, Int.not_le, ne_eq, Decidable.not_not] at hp10
                        refine sog h hO (j := 45) rfl rfl hb10 (yl_move h rfl) rfl ?_; clear h a; intro a h
                        refine sog h hO (j := 45) rfl rfl hb10 (yl_move h rfl) rfl ?_; clear h a; intro a h
                        refine sog h hO (j := 45) rfl rfl hb10 (yl_neB h rfl rfl p22) rfl ?_; clear h a; intro a h
                        refine so h hO (yl_pick_f h rfl hb10 rfl) rfl ?_; clear h a; intro a h
                        refine so h hO (yl_move h rfl) rfl ?_; clear h a; intro a h
                        refine split h 162 rfl (fun hb11 => ?_) (fun hb11 => ?_)
                        · have hp11 := hb11
                          try simp only [decide_eq_true_eq, decide_eq_false_iff_not, Bool.not_eq_true', Bool.not_eq_false', Int.not_lt, Int.not_le, ne_eq, Decidable.not_not] at hp11
                          exfalso; simp at hb11
                        · have hp11 := hb11
                          try simp only [decide_eq_true_eq, decide_eq_false_iff_not, Bool.not_eq_true', Bool.not_eq_false', Int.not_lt, Int.not_le, ne_eq, Decidable.not_not] at hp11
                          refine sog h hO (j := 50) rfl rfl hb11 (yl_move h rfl) rfl ?_; clear h a; intro a h
                          refine sog h hO (j := 50) rfl rfl hb11 (yl_move h rfl) rfl ?_; clear h a; intro a h
                          refine sog h hO (j := 50) rfl rfl hb11 (yl_neB h rfl rfl p22) rfl ?_; clear h a; intro a h
                          refine so h hO (yl_pick_f h rfl hb11 rfl) rfl ?_; clear h a; intro a h
                          refine so h hO (yl_move h rfl) rfl ?_; clear h a; intro a h
                          refine split h 167 rfl (fun hb12 => ?_) (fun hb12 => ?_)
                          · have hp12 := hb12
                            try simp only [decide_eq_true_eq, decide_eq_false_iff_not, Bool.not_eq_true', Bool.not_eq_false', Int.not_lt, Int.not_le, ne_eq, Decidable.not_not] at hp12
                            exfalso; simp at hb12
                          · have hp12 := hb12
                            try simp only [decide_eq_true_eq, decide_eq_false_iff_not, Bool.not_eq_true', Bool.not_eq_false', Int.not_lt, Int.not_le, ne_eq, Decidable.not_not] at hp12
                            refine sog h hO (j := 55) rfl rfl hb12 (yl_move h rfl) rfl ?_; clear h a; intro a h
                            refine sog h hO (j := 55) rfl rfl hb12 (yl_move h rfl) rfl ?_; clear h a; intro a h
                            refine callRg h (j := 55) rfl rfl hb12 rfl rfl p76 (vPairs_spec _ _ hO hx5 (by first | assumption | exact Val.sub (by assumption) (by repeat (first | with_reducible exact List.Sublist.refl _ | with_reducible refine List.Sublist.cons_cons _ ?_ | refine List.Sublist.cons _ ?_)) | with_reducible exact Val.ext _ _ | exact Val.ent (by first | with_reducible exact mem0 | with_reducible exact memS (mem0) | with_reducible exact memS (memS (mem0)) | with_reducible exact memS (memS (memS (mem0))) | with_reducible exact memS (memS (memS (memS (mem0)))) | with_reducible exact memS (memS (memS (memS (memS (mem0))))) | with_reducible exact memS (memS (memS (memS (memS (memS (mem0)))))) | with_reducible exact memS (memS (memS (memS (memS (memS (memS (mem0))))))) | with_reducible exact memS (memS (memS (memS (memS (memS (memS (memS (mem0)))))))) | with_reducible exact memS (memS (memS (memS (memS (memS (memS (memS (memS (mem0))))))))) | with_reducible exact memS (memS (memS (memS (memS (memS (memS (memS (memS (memS (mem0)))))))))) | with_reducible exact memS (memS (memS (memS (memS (memS (memS (memS (memS (memS (memS (mem0))))))))))) | with_reducible exact memS (memS (memS (memS (memS (memS (memS (memS (memS (memS (memS (memS (mem0)))))))))))) | with_reducible exact memS (memS (memS (memS (memS (memS (memS (memS (memS (memS (memS (memS (memS (mem0))))))))))))))) hx6 (by first | assumption | exact Val.sub (by assumption) (by repeat (first | with_reducible exact List.Sublist.refl _ | with_reducible refine List.Sublist.cons_cons _ ?_ | refine List.Sublist.cons _ ?_)) | with_reducible exact Val.ext _ _ | exact Val.ent (by first | with_reducible exact mem0 | with_reducible exact memS (mem0) | with_reducible exact memS (memS (mem0)) | with_reducible exact memS (memS (memS (mem0))) | with_reducible exact memS (memS (memS (memS (mem0)))) | with_reducible exact memS (memS (memS (memS (memS (mem0))))) | with_reducible exact memS (memS (memS (memS (memS (memS (mem0)))))) | with_reducible exact memS (memS (memS (memS (memS (memS (memS (mem0))))))) | with_reducible exact memS (memS (memS (memS (memS (memS (memS (memS (mem0)))))))) | with_reducible exact memS (memS (memS (memS (memS (memS (memS (memS (memS (mem0))))))))) | with_reducible exact memS (memS (memS (memS (memS (memS (memS (memS (memS (memS (mem0)))))))))) | with_reducible exact memS (memS (memS (memS (memS (memS (memS (memS (memS (memS (memS (mem0))))))))))) | with_reducible exact memS (memS (memS (memS (memS (memS (memS (memS (memS (memS (memS (memS (mem0)))))))))))) | with_reducible exact memS (memS (memS (memS (memS (memS (memS (memS (memS (memS (memS (memS (memS (mem0)))))))))))))))) rfl ?_; clear h a hO w
                            rintro _ w ⟨rfl, hO⟩ a h
                            refine sog h hO (j := 55) rfl rfl hb12 (yl_not h rfl) rfl ?_; clear h a; intro a h
                            refine so h hO (yl_pick_f h rfl hb12 rfl) rfl ?_; clear h a; intro a h
                            refine so h hO (yl_move h rfl) rfl ?_; clear h a; intro a h
                            refine split h 173 rfl (fun hb13 => ?_) (fun hb13 => ?_)
                            · have hp13 := hb13
                              try simp only [decide_eq_true_eq, decide_eq_false_iff_not, Bool.not_eq_true', Bool.not_eq_false', Int.not_lt, Int.not_le, ne_eq, Decidable.not_not] at hp13
                              exfalso; simp at hb13
                            · have hp13 := hb13
                              try simp only [decide_eq_true_eq, decide_eq_false_iff_not, Bool.not_eq_true', Bool.not_eq_false', Int.not_lt, Int.not_le, ne_eq, Decidable.not_not] at hp13
                              refine sog h hO (j := 61) rfl rfl hb13 (yl_move h rfl) rfl ?_; clear h a; intro a h
                              refine sog h hO (j := 61) rfl rfl hb13 (yl_move h rfl) rfl ?_; clear h a; intro a h
                              refine sog h hO (j := 61) rfl rfl hb13 (yl_neB h rfl rfl p22) rfl ?_; clear h a; intro a h
                              refine so h hO (yl_pick_f h rfl hb13 rfl) rfl ?_; clear h a; intro a h
                              refine so h hO (yl_move h rfl) rfl ?_; clear h a; intro a h
                              refine split h 178 rfl (fun hb14 => ?_) (fun hb14 => ?_)
                              · have hp14 := hb14
                                try simp only [decide_eq_true_eq, decide_eq_false_iff_not, Bool.not_eq_true', Bool.not_eq_false', Int.not_lt, Int.not_le, ne_eq, Decidable.not_not] at hp14
                                exfalso; simp at hb14
                              · have hp14 := hb14
                                try simp only [decide_eq_true_eq, decide_eq_false_iff_not, Bool.not_eq_true', Bool.not_eq_false', Int.not_lt, Int.not_le, ne_eq, Decidable.not_not] at hp14
                                refine sog h hO (j := 66) rfl rfl hb14 (yl_move h rfl) rfl ?_; clear h a; intro a h
                                refine sog h hO (j := 66) rfl rfl hb14 (yl_move h rfl) rfl ?_; clear h a; intro a h
                                refine callRg h (j := 66) rfl rfl hb14 rfl rfl p75 (vInts_spec _ _ hO hx7 (by first | assumption | exact Val.sub (by assumption) (by repeat (first | with_reducible exact List.Sublist.refl _ | with_reducible refine List.Sublist.cons_cons _ ?_ | refine List.Sublist.cons _ ?_)) | with_reducible exact Val.ext _ _ | exact Val.ent (by first | with_reducible exact mem0 | with_reducible exact memS (mem0) | with_reducible exact memS (memS (mem0)) | with_reducible exact memS (memS (memS (mem0))) | with_reducible exact memS (memS (memS (memS (mem0)))) | with_reducible exact memS (memS (memS (memS (memS (mem0))))) | with_reducible exact memS (memS (memS (memS (memS (memS (mem0)))))) | with_reducible exact memS (memS (memS (memS (memS (memS (memS (mem0))))))) | with_reducible exact memS (memS (memS (memS (memS (memS (memS (memS (mem0)))))))) | with_reducible exact memS (memS (memS (memS (memS (memS (memS (memS (memS (mem0))))))))) | with_reducible exact memS (memS (memS (memS (memS (memS (memS (memS (memS (memS (mem0)))))))))) | with_reducible exact memS (memS (memS (memS (memS (memS (memS (memS (memS (memS (memS (mem0))))))))))) | with_reducible exact memS (memS (memS (memS (memS (memS (memS (memS (memS (memS (memS (memS (mem0)))))))))))) | with_reducible exact memS (memS (memS (memS (memS (memS (memS (memS (memS (memS (memS (memS (memS (mem0))))))))))))))) hx8 (by first | assumption | exact Val.sub (by assumption) (by repeat (first | with_reducible exact List.Sublist.refl _ | with_reducible refine List.Sublist.cons_cons _ ?_ | refine List.Sublist.cons _ ?_)) | with_reducible exact Val.ext _ _ | exact Val.ent (by first | with_reducible exact mem0 | with_reducible exact memS (mem0) | with_reducible exact memS (memS (mem0)) | with_reducible exact memS (memS (memS (mem0))) | with_reducible exact memS (memS (memS (memS (mem0)))) | with_reducible exact memS (memS (memS (memS (memS (mem0))))) | with_reducible exact memS (memS (memS (memS (memS (memS (mem0)))))) | with_reducible exact memS (memS (memS (memS (memS (memS (memS (mem0))))))) | with_reducible exact memS (memS (memS (memS (memS (memS (memS (memS (mem0)))))))) | with_reducible exact memS (memS (memS (memS (memS (memS (memS (memS (memS (mem0))))))))) | with_reducible exact memS (memS (memS (memS (memS (memS (memS (memS (memS (memS (mem0)))))))))) | with_reducible exact memS (memS (memS (memS (memS (memS (memS (memS (memS (memS (memS (mem0))))))))))) | with_reducible exact memS (memS (memS (memS (memS (memS (memS (memS (memS (memS (memS (memS (mem0)))))))))))) | with_reducible exact memS (memS (memS (memS (memS (memS (memS (memS (memS (memS (memS (memS (memS (mem0)))))))))))))))) rfl ?_; clear h a hO w
                                rintro _ w ⟨rfl, hO⟩ a h
                                refine sog h hO (j := 66) rfl rfl hb14 (yl_not h rfl) rfl ?_; clear h a; intro a h
                                refine so h hO (yl_pick_f h rfl hb14 rfl) rfl ?_; clear h a; intro a h
                                refine so h hO (yl_move h rfl) rfl ?_; clear h a; intro a h
                                refine split h 184 rfl (fun hb15 => ?_) (fun hb15 => ?_)
                                · have hp15 := hb15
                                  try simp only [decide_eq_true_eq, decide_eq_false_iff_not, Bool.not_eq_true', Bool.not_eq_false', Int.not_lt, Int.not_le, ne_eq, Decidable.not_not] at hp15
                                  exfalso; simp at hb15
                                · have hp15 := hb15
                                  try simp only [decide_eq_true_eq, decide_eq_false_iff_not, Bool.not_eq_true', Bool.not_eq_false', Int.not_lt, Int.not_le, ne_eq, Decidable.not_not] at hp15
                                  refine sog h hO (j := 72) rfl rfl hb15 (yl_move h rfl) rfl ?_; clear h a; intro a h
                                  refine sog h hO (j := 72) rfl rfl hb15 (yl_move h rfl) rfl ?_; clear h a; intro a h
                                  refine sog h hO (j := 72) rfl rfl hb15 (yl_neB h rfl rfl p22) rfl ?_; clear h a; intro a h
                                  refine so h hO (yl_pick_f h rfl hb15 rfl) rfl ?_; clear h a; intro a h
                                  refine so h hO (yl_move h rfl) rfl ?_; clear h a; intro a h
                                  refine split h 189 rfl (fun hb16 => ?_) (fun hb16 => ?_)
                                  · have hp16 := hb16
                                    try simp only [decide_eq_true_eq, decide_eq_false_iff_not, Bool.not_eq_true', Bool.not_eq_false', Int.not_lt, Int.not_le, ne_eq, Decidable.not_not] at hp16
                                    exfalso; simp at hb16
                                  · have hp16 := hb16
                                    try simp only [decide_eq_true_eq, decide_eq_false_iff_not, Bool.not_eq_true', Bool.not_eq_false', Int.not_lt, Int.not_le, ne_eq, Decidable.not_not] at hp16
                                    refine sog h hO (j := 77) rfl rfl hb16 (yl_move h rfl) rfl ?_; clear h a; intro a h
                                    refine sog h hO (j := 77) rfl rfl hb16 (yl_move h rfl) rfl ?_; clear h a; intro a h
                                    refine sog h hO (j := 77) rfl rfl hb16 (yl_neB h rfl rfl p22) rfl ?_; clear h a; intro a h
                                    refine so h hO (yl_pick_f h rfl hb16 rfl) rfl ?_; clear h a; intro a h
                                    refine so h hO (yl_move h rfl) rfl ?_; clear h a; intro a h
                                    refine split h 194 rfl (fun hb17 => ?_) (fun hb17 => ?_)
                                    · have hp17 := hb17
                                      try simp only [decide_eq_true_eq, decide_eq_false_iff_not, Bool.not_eq_true', Bool.not_eq_false', Int.not_lt, Int.not_le, ne_eq, Decidable.not_not] at hp17
                                      exfalso; simp at hb17
                                    · have hp17 := hb17
                                      try simp only [decide_eq_true_eq, decide_eq_false_iff_not, Bool.not_eq_true', Bool.not_eq_false', Int.not_lt, Int.not_le, ne_eq, Decidable.not_not] at hp17
                                      refine sog h hO (j := 82) rfl rfl hb17 (yl_move h rfl) rfl ?_; clear h a; intro a h
                                      refine sog h hO (j := 82) rfl rfl hb17 (yl_move h rfl) rfl ?_; clear h a; intro a h
                                      refine sog h hO (j := 82) rfl rfl hb17 (yl_neB h rfl rfl p22) rfl ?_; clear h a; intro a h
                                      refine so h hO (yl_pick_f h rfl hb17 rfl) rfl ?_; clear h a; intro a h
                                      refine so h hO (yl_move h rfl) rfl ?_; clear h a; intro a h
                                      refine split h 199 rfl (fun hb18 => ?_) (fun hb18 => ?_)
                                      · have hp18 := hb18
                                        try simp only [decide_eq_true_eq, decide_eq_false_iff_not, Bool.not_eq_true', Bool.not_eq_false', Int.not_lt, Int.not_le, ne_eq, Decidable.not_not] at hp18
                                        exfalso; simp at hb18
                                      · have hp18 := hb18
                                        try simp only [decide_eq_true_eq, decide_eq_false_iff_not, Bool.not_eq_true', Bool.not_eq_false', Int.not_lt, Int.not_le, ne_eq, Decidable.not_not] at hp18
                                        refine sog h hO (j := 87) rfl rfl hb18 (yl_move h rfl) rfl ?_; clear h a; intro a h
                                        refine sog h hO (j := 87) rfl rfl hb18 (yl_move h rfl) rfl ?_; clear h a; intro a h
                                        refine sog h hO (j := 87) rfl rfl hb18 (yl_neB h rfl rfl p22) rfl ?_; clear h a; intro a h
                                        refine so h hO (yl_pick_f h rfl hb18 rfl) rfl ?_; clear h a; intro a h
                                        refine so h hO (yl_move h rfl) rfl ?_; clear h a; intro a h
                                        refine split h 204 rfl (fun hb19 => ?_) (fun hb19 => ?_)
                                        · have hp19 := hb19
                                          try simp only [decide_eq_true_eq, decide_eq_false_iff_not, Bool.not_eq_true', Bool.not_eq_false', Int.not_lt, Int.not_le, ne_eq, Decidable.not_not] at hp19
                                          exfalso; simp at hb19
                                        · have hp19 := hb19
                                          try simp only [decide_eq_true_eq, decide_eq_false_iff_not, Bool.not_eq_true', Bool.not_eq_false', Int.not_lt, Int.not_le, ne_eq, Decidable.not_not] at hp19
                                          refine sog h hO (j := 92) rfl rfl hb19 (yl_move h rfl) rfl ?_; clear h a; intro a h
                                          refine sog h hO (j := 92) rfl rfl hb19 (yl_move h rfl) rfl ?_; clear h a; intro a h
                                          refine sog h hO (j := 92) rfl rfl hb19 (yl_neB h rfl rfl p22) rfl ?_; clear h a; intro a h
                                          refine so h hO (yl_pick_f h rfl hb19 rfl) rfl ?_; clear h a; intro a h
                                          refine so h hO (yl_move h rfl) rfl ?_; clear h a; intro a h
                                          refine split h 209 rfl (fun hb20 => ?_) (fun hb20 => ?_)
                                          · have hp20 := hb20
                                            try simp only [decide_eq_true_eq, decide_eq_false_iff_not, Bool.not_eq_true', Bool.not_eq_false', Int.not_lt, Int.not_le, ne_eq, Decidable.not_not] at hp20
                                            exfalso; simp at hb20
                                          · have hp20 := hb20
                                            try simp only [decide_eq_true_eq, decide_eq_false_iff_not, Bool.not_eq_true', Bool.not_eq_false', Int.not_lt, Int.not_le, ne_eq, Decidable.not_not] at hp20
                                            refine sog h hO (j := 97) rfl rfl hb20 (yl_move h rfl) rfl ?_; clear h a; intro a h
                                            refine sog h hO (j := 97) rfl rfl hb20 (yl_move h rfl) rfl ?_; clear h a; intro a h
                                            refine split h 211 rfl (fun hb21 => ?_) (fun hb21 => ?_)
                                            · have hp21 := hb21
                                              try simp only [decide_eq_true_eq, decide_eq_false_iff_not, Bool.not_eq_true', Bool.not_eq_false', Int.not_lt, Int.not_le, ne_eq, Decidable.not_not] at hp21
                                              refine sog h hO (j := 99) rfl rfl hb21 (yl_move h rfl) rfl ?_; clear h a; intro a h
                                              refine sog h hO (j := 99) rfl rfl hb21 (yl_not h rfl) rfl ?_; clear h a; intro a h
                                              refine sog h hO (j := 97) rfl rfl hb20 (yl_pick_t h rfl hb21 rfl) rfl ?_; clear h a; intro a h
                                              refine so h hO (yl_pick_f h rfl hb20 rfl) rfl ?_; clear h a; intro a h
                                              refine endL ?_
                                              refine then_n ?_
                                              refine cond_s h rfl (fun hb22 => ?_) (fun hb22 => ?_)
                                              · have hp22 := hb22
                                                try simp only [decide_eq_true_eq, decide_eq_false_iff_not, Bool.not_eq_true', Bool.not_eq_false', Int.not_lt, Int.not_le, ne_eq, Decidable.not_not] at hp22
                                                exfalso; simp_all
                                              · have hp22 := hb22
                                                try simp only [decide_eq_true_eq, decide_eq_false_iff_not, Bool.not_eq_true', Bool.not_eq_false', Int.not_lt, Int.not_le, ne_eq, Decidable.not_not] at hp22
                                                refine skip ?_
                                                refine then_n ?_
                                                exact ⟨h.weak (subB_cons rfl (subB_cons rfl (subB_cons rfl (subB_cons rfl (subB_cons rfl (subB_cons rfl (subB_cons rfl (subB_cons rfl (subB_cons rfl (subB_cons rfl (subB_nil))))))))))), (by exact hO.sub (by repeat (first | with_reducible exact List.Sublist.refl _ | with_reducible refine List.Sublist.cons_cons _ ?_ | refine List.Sublist.cons _ ?_)))⟩
                                            · have hp21 := hb21
                                              try simp only [decide_eq_true_eq, decide_eq_false_iff_not, Bool.not_eq_true', Bool.not_eq_false', Int.not_lt, Int.not_le, ne_eq, Decidable.not_not] at hp21
                                              refine son h (j := 99) rfl rfl hb21 rfl ?_; clear h a; intro a h
                                              refine son h (j := 99) rfl rfl hb21 rfl ?_; clear h a; intro a h
                                              refine sog h hO (j := 97) rfl rfl hb20 (yl_pick_f h rfl hb21 rfl) rfl ?_; clear h a; intro a h
                                              refine so h hO (yl_pick_f h rfl hb20 rfl) rfl ?_; clear h a; intro a h
                                              refine endL ?_
                                              refine then_n ?_
                                              refine cond_f h rfl rfl ?_
                                              refine skip ?_
                                              refine then_n ?_
                                              exact ⟨h.weak (subB_cons rfl (subB_cons rfl (subB_cons rfl (subB_cons rfl (subB_cons rfl (subB_cons rfl (subB_cons rfl (subB_cons rfl (subB_cons rfl (subB_cons rfl (subB_nil))))))))))), (by exact hO.sub (by repeat (first | with_reducible exact List.Sublist.refl _ | with_reducible refine List.Sublist.cons_cons _ ?_ | refine List.Sublist.cons _ ?_)))⟩
    · clear h hO a w
      rintro a w ⟨h, hO⟩
      refine seq_cut (R := fun a w => St 369 [] [(3, .slice A0 xs.length c0), (4, .slice A1 (if ok xs = true then opens xs else []).length c1), (5, .bool (ok xs)), (8, .slice A3 (if ok xs = true then faults xs else []).length c3), (12, .bool (ok xs && tidy xs)), (16, .bool bm), (20, .int .i64 (if ok xs = true then mx xs xs.length else 0)), (24, .slice A5 (if ok xs = true then sp xs xs.length else []).length c5)] a ∧ OwnE w0 w (e5 :: e0 :: L)) ?_ ?_
      · skip
        refine seq ?_
        refine region ?_
        refine so h hO (yl_move h rfl) rfl ?_; clear h a; intro a h
        refine endL ?_
        refine then_n ?_
        refine cond_s h rfl (fun hb23 => ?_) (fun hb23 => ?_)
        · have hp23 := hb23
          try simp only [decide_eq_true_eq, decide_eq_false_iff_not, Bool.not_eq_true', Bool.not_eq_false', Int.not_lt, Int.not_le, ne_eq, Decidable.not_not] at hp23
          refine seq ?_
          refine region ?_
          have hM : (ok xs && decide ((mend xs).length ≤ 60)) = true := by assumption
          have hok : ok xs = true := by simp at hM; exact hM.1
          have hml : (mend xs).length ≤ 60 := by simp at hM; exact hM.2
          have hokm := ok_mend hok hml
          have htm := tidy_mend xs
          have hmm := mend_tidy htm
          rw [if_pos hM] at hx7 h hr7 hc7
          refine so h hO (yl_move h rfl) rfl ?_; clear h a; intro a h
          refine callR h rfl rfl p65 (IsTidy_i _ hO hx7 (by first | assumption | exact Val.sub (by assumption) (by repeat (first | with_reducible exact List.Sublist.refl _ | with_reducible refine List.Sublist.cons_cons _ ?_ | refine List.Sublist.cons _ ?_)) | with_reducible exact Val.ext _ _ | exact Val.ent (by first | with_reducible exact mem0 | with_reducible exact memS (mem0) | with_reducible exact memS (memS (mem0)) | with_reducible exact memS (memS (memS (mem0))) | with_reducible exact memS (memS (memS (memS (mem0)))) | with_reducible exact memS (memS (memS (memS (memS (mem0))))) | with_reducible exact memS (memS (memS (memS (memS (memS (mem0)))))) | with_reducible exact memS (memS (memS (memS (memS (memS (memS (mem0))))))) | with_reducible exact memS (memS (memS (memS (memS (memS (memS (memS (mem0)))))))) | with_reducible exact memS (memS (memS (memS (memS (memS (memS (memS (memS (mem0))))))))) | with_reducible exact memS (memS (memS (memS (memS (memS (memS (memS (memS (memS (mem0)))))))))) | with_reducible exact memS (memS (memS (memS (memS (memS (memS (memS (memS (memS (memS (mem0))))))))))) | with_reducible exact memS (memS (memS (memS (memS (memS (memS (memS (memS (memS (memS (memS (mem0)))))))))))) | with_reducible exact memS (memS (memS (memS (memS (memS (memS (memS (memS (memS (memS (memS (memS (mem0)))))))))))))))) rfl ?_; clear h a hO w
          rintro _ w ⟨rfl, hO⟩ a h
          refine so h hO (yl_move h rfl) rfl ?_; clear h a; intro a h
          refine so h hO (yl_extract h rfl rfl) rfl ?_; clear h a; intro a h
          refine so h hO (yl_extract h rfl rfl) rfl ?_; clear h a; intro a h
          refine so h hO (yl_assign h rfl) rfl ?_; clear h a; intro a h
          refine so h hO (yl_assign h rfl) rfl ?_; clear h a; intro a h
          refine endL ?_
          refine then_n ?_
          refine seq ?_
          refine region ?_
          refine so h hO (yl_move h rfl) rfl ?_; clear h a; intro a h
          refine callR h rfl rfl p73 (MendEntries_i _ hO hx7 (by first | assumption | exact Val.sub (by assumption) (by repeat (first | with_reducible exact List.Sublist.refl _ | with_reducible refine List.Sublist.cons_cons _ ?_ | refine List.Sublist.cons _ ?_)) | with_reducible exact Val.ext _ _ | exact Val.ent (by first | with_reducible exact mem0 | with_reducible exact memS (mem0) | with_reducible exact memS (memS (mem0)) | with_reducible exact memS (memS (memS (mem0))) | with_reducible exact memS (memS (memS (memS (mem0)))) | with_reducible exact memS (memS (memS (memS (memS (mem0))))) | with_reducible exact memS (memS (memS (memS (memS (memS (mem0)))))) | with_reducible exact memS (memS (memS (memS (memS (memS (memS (mem0))))))) | with_reducible exact memS (memS (memS (memS (memS (memS (memS (memS (mem0)))))))) | with_reducible exact memS (memS (memS (memS (memS (memS (memS (memS (memS (mem0))))))))) | with_reducible exact memS (memS (memS (memS (memS (memS (memS (memS (memS (memS (mem0)))))))))) | with_reducible exact memS (memS (memS (memS (memS (memS (memS (memS (memS (memS (memS (mem0))))))))))) | with_reducible exact memS (memS (memS (memS (memS (memS (memS (memS (memS (memS (memS (memS (mem0)))))))))))) | with_reducible exact memS (memS (memS (memS (memS (memS (memS (memS (memS (memS (memS (memS (memS (mem0)))))))))))))))) rfl ?_; clear h a hO w
          rintro _ w ⟨v9, e9, rfl, hx9, hO⟩ a h
          rw [hmm, hokm, decide_eq_true hml] at *
          have hq9 := hx9
          obtain ⟨A9, c9, rfl, hc9, hr9⟩ := hq9
          refine so h hO (yl_move h rfl) rfl ?_; clear h a; intro a h
          refine so h hO (yl_extract h rfl rfl) rfl ?_; clear h a; intro a h
          refine so h hO (yl_extract h rfl rfl) rfl ?_; clear h a; intro a h
          refine so h hO (yl_assign h rfl) rfl ?_; clear h a; intro a h
          refine so h hO (yl_assign h rfl) rfl ?_; clear h a; intro a h
          refine endL ?_
          refine then_n ?_
          refine seq ?_
          refine region ?_
          refine so h hO (yl_move h rfl) rfl ?_; clear h a; intro a h
          refine so h hO (yl_not h rfl) rfl ?_; clear h a; intro a h
          refine so h hO (yl_move h rfl) rfl ?_; clear h a; intro a h
          refine split h 229 rfl (fun hb24 => ?_) (fun hb24 => ?_)
          · have hp24 := hb24
            try simp only [decide_eq_true_eq, decide_eq_false_iff_not, Bool.not_eq_true', Bool.not_eq_false', Int.not_lt, Int.not_le, ne_eq, Decidable.not_not] at hp24
            exfalso; simp [hokm, htm] at hb24
          · have hp24 := hb24
            try simp only [decide_eq_true_eq, decide_eq_false_iff_not, Bool.not_eq_true', Bool.not_eq_false', Int.not_lt, Int.not_le, ne_eq, Decidable.not_not] at hp24
            refine sog h hO (j := 2) rfl rfl hb24 (yl_move h rfl) rfl ?_; clear h a; intro a h
            refine sog h hO (j := 2) rfl rfl hb24 (yl_not h rfl) rfl ?_; clear h a; intro a h
            refine so h hO (yl_pick_f h rfl hb24 rfl) rfl ?_; clear h a; intro a h
            refine so h hO (yl_move h rfl) rfl ?_; clear h a; intro a h
            refine split h 233 rfl (fun hb25 => ?_) (fun hb25 => ?_)
            · have hp25 := hb25
              try simp only [decide_eq_true_eq, decide_eq_false_iff_not, Bool.not_eq_true', Bool.not_eq_false', Int.not_lt, Int.not_le, ne_eq, Decidable.not_not] at hp25
              exfalso; simp [hokm, htm] at hb25
            · have hp25 := hb25
              try simp only [decide_eq_true_eq, decide_eq_false_iff_not, Bool.not_eq_true', Bool.not_eq_false', Int.not_lt, Int.not_le, ne_eq, Decidable.not_not] at hp25
              refine sog h hO (j := 6) rfl rfl hb25 (yl_move h rfl) rfl ?_; clear h a; intro a h
              refine sog h hO (j := 6) rfl rfl hb25 (yl_not h rfl) rfl ?_; clear h a; intro a h
              refine so h hO (yl_pick_f h rfl hb25 rfl) rfl ?_; clear h a; intro a h
              refine so h hO (yl_move h rfl) rfl ?_; clear h a; intro a h
              refine split h 237 rfl (fun hb26 => ?_) (fun hb26 => ?_)
              · have hp26 := hb26
                try simp only [decide_eq_true_eq, decide_eq_false_iff_not, Bool.not_eq_true', Bool.not_eq_false', Int.not_lt, Int.not_le, ne_eq, Decidable.not_not] at hp26
                exfalso; simp [hokm, htm] at hb26
              · have hp26 := hb26
                try simp only [decide_eq_true_eq, decide_eq_false_iff_not, Bool.not_eq_true', Bool.not_eq_false', Int.not_lt, Int.not_le, ne_eq, Decidable.not_not] at hp26
                refine sog h hO (j := 10) rfl rfl hb26 (yl_move h rfl) rfl ?_; clear h a; intro a h
                refine sog h hO (j := 10) rfl rfl hb26 (yl_move h rfl) rfl ?_; clear h a; intro a h
                refine callRg h (j := 10) rfl rfl hb26 rfl rfl p75 (vInts_spec _ _ hO hx9 (by first | assumption | exact Val.sub (by assumption) (by repeat (first | with_reducible exact List.Sublist.refl _ | with_reducible refine List.Sublist.cons_cons _ ?_ | refine List.Sublist.cons _ ?_)) | with_reducible exact Val.ext _ _ | exact Val.ent (by first | with_reducible exact mem0 | with_reducible exact memS (mem0) | with_reducible exact memS (memS (mem0)) | with_reducible exact memS (memS (memS (mem0))) | with_reducible exact memS (memS (memS (memS (mem0)))) | with_reducible exact memS (memS (memS (memS (memS (mem0))))) | with_reducible exact memS (memS (memS (memS (memS (memS (mem0)))))) | with_reducible exact memS (memS (memS (memS (memS (memS (memS (mem0))))))) | with_reducible exact memS (memS (memS (memS (memS (memS (memS (memS (mem0)))))))) | with_reducible exact memS (memS (memS (memS (memS (memS (memS (memS (memS (mem0))))))))) | with_reducible exact memS (memS (memS (memS (memS (memS (memS (memS (memS (memS (mem0)))))))))) | with_reducible exact memS (memS (memS (memS (memS (memS (memS (memS (memS (memS (memS (mem0))))))))))) | with_reducible exact memS (memS (memS (memS (memS (memS (memS (memS (memS (memS (memS (memS (mem0)))))))))))) | with_reducible exact memS (memS (memS (memS (memS (memS (memS (memS (memS (memS (memS (memS (memS (mem0))))))))))))))) hx7 (by first | assumption | exact Val.sub (by assumption) (by repeat (first | with_reducible exact List.Sublist.refl _ | with_reducible refine List.Sublist.cons_cons _ ?_ | refine List.Sublist.cons _ ?_)) | with_reducible exact Val.ext _ _ | exact Val.ent (by first | with_reducible exact mem0 | with_reducible exact memS (mem0) | with_reducible exact memS (memS (mem0)) | with_reducible exact memS (memS (memS (mem0))) | with_reducible exact memS (memS (memS (memS (mem0)))) | with_reducible exact memS (memS (memS (memS (memS (mem0))))) | with_reducible exact memS (memS (memS (memS (memS (memS (mem0)))))) | with_reducible exact memS (memS (memS (memS (memS (memS (memS (mem0))))))) | with_reducible exact memS (memS (memS (memS (memS (memS (memS (memS (mem0)))))))) | with_reducible exact memS (memS (memS (memS (memS (memS (memS (memS (memS (mem0))))))))) | with_reducible exact memS (memS (memS (memS (memS (memS (memS (memS (memS (memS (mem0)))))))))) | with_reducible exact memS (memS (memS (memS (memS (memS (memS (memS (memS (memS (memS (mem0))))))))))) | with_reducible exact memS (memS (memS (memS (memS (memS (memS (memS (memS (memS (memS (memS (mem0)))))))))))) | with_reducible exact memS (memS (memS (memS (memS (memS (memS (memS (memS (memS (memS (memS (memS (mem0)))))))))))))))) rfl ?_; clear h a hO w
                rintro _ w ⟨rfl, hO⟩ a h
                refine sog h hO (j := 10) rfl rfl hb26 (yl_not h rfl) rfl ?_; clear h a; intro a h
                refine so h hO (yl_pick_f h rfl hb26 rfl) rfl ?_; clear h a; intro a h
                refine so h hO (yl_move h rfl) rfl ?_; clear h a; intro a h
                refine split h 243 rfl (fun hb27 => ?_) (fun hb27 => ?_)
                · have hp27 := hb27
                  try simp only [decide_eq_true_eq, decide_eq_false_iff_not, Bool.not_eq_true', Bool.not_eq_false', Int.not_lt, Int.not_le, ne_eq, Decidable.not_not] at hp27
                  exfalso; simp [hokm, htm] at hb27
                · have hp27 := hb27
                  try simp only [decide_eq_true_eq, decide_eq_false_iff_not, Bool.not_eq_true', Bool.not_eq_false', Int.not_lt, Int.not_le, ne_eq, Decidable.not_not] at hp27
                  refine sog h hO (j := 16) rfl rfl hb27 (yl_move h rfl) rfl ?_; clear h a; intro a h
                  refine sog h hO (j := 16) rfl rfl hb27 (yl_move h rfl) rfl ?_; clear h a; intro a h
                  refine split h 245 rfl (fun hb28 => ?_) (fun hb28 => ?_)
                  · have hp28 := hb28
                    try simp only [decide_eq_true_eq, decide_eq_false_iff_not, Bool.not_eq_true', Bool.not_eq_false', Int.not_lt, Int.not_le, ne_eq, Decidable.not_not] at hp28
                    refine sog h hO (j := 18) rfl rfl hb28 (yl_move h rfl) rfl ?_; clear h a; intro a h
                    refine sog h hO (j := 18) rfl rfl hb28 (yl_move h rfl) rfl ?_; clear h a; intro a h
                    refine callRg h (j := 18) rfl rfl hb28 rfl rfl p75 (vInts_spec _ _ hO hx7 (by first | assumption | exact Val.sub (by assumption) (by repeat (first | with_reducible exact List.Sublist.refl _ | with_reducible refine List.Sublist.cons_cons _ ?_ | refine List.Sublist.cons _ ?_)) | with_reducible exact Val.ext _ _ | exact Val.ent (by first | with_reducible exact mem0 | with_reducible exact memS (mem0) | with_reducible exact memS (memS (mem0)) | with_reducible exact memS (memS (memS (mem0))) | with_reducible exact memS (memS (memS (memS (mem0)))) | with_reducible exact memS (memS (memS (memS (memS (mem0))))) | with_reducible exact memS (memS (memS (memS (memS (memS (mem0)))))) | with_reducible exact memS (memS (memS (memS (memS (memS (memS (mem0))))))) | with_reducible exact memS (memS (memS (memS (memS (memS (memS (memS (mem0)))))))) | with_reducible exact memS (memS (memS (memS (memS (memS (memS (memS (memS (mem0))))))))) | with_reducible exact memS (memS (memS (memS (memS (memS (memS (memS (memS (memS (mem0)))))))))) | with_reducible exact memS (memS (memS (memS (memS (memS (memS (memS (memS (memS (memS (mem0))))))))))) | with_reducible exact memS (memS (memS (memS (memS (memS (memS (memS (memS (memS (memS (memS (mem0)))))))))))) | with_reducible exact memS (memS (memS (memS (memS (memS (memS (memS (memS (memS (memS (memS (memS (mem0))))))))))))))) hx0 (by first | assumption | exact Val.sub (by assumption) (by repeat (first | with_reducible exact List.Sublist.refl _ | with_reducible refine List.Sublist.cons_cons _ ?_ | refine List.Sublist.cons _ ?_)) | with_reducible exact Val.ext _ _ | exact Val.ent (by first | with_reducible exact mem0 | with_reducible exact memS (mem0) | with_reducible exact memS (memS (mem0)) | with_reducible exact memS (memS (memS (mem0))) | with_reducible exact memS (memS (memS (memS (mem0)))) | with_reducible exact memS (memS (memS (memS (memS (mem0))))) | with_reducible exact memS (memS (memS (memS (memS (memS (mem0)))))) | with_reducible exact memS (memS (memS (memS (memS (memS (memS (mem0))))))) | with_reducible exact memS (memS (memS (memS (memS (memS (memS (memS (mem0)))))))) | with_reducible exact memS (memS (memS (memS (memS (memS (memS (memS (memS (mem0))))))))) | with_reducible exact memS (memS (memS (memS (memS (memS (memS (memS (memS (memS (mem0)))))))))) | with_reducible exact memS (memS (memS (memS (memS (memS (memS (memS (memS (memS (memS (mem0))))))))))) | with_reducible exact memS (memS (memS (memS (memS (memS (memS (memS (memS (memS (memS (memS (mem0)))))))))))) | with_reducible exact memS (memS (memS (memS (memS (memS (memS (memS (memS (memS (memS (memS (memS (mem0)))))))))))))))) rfl ?_; clear h a hO w
                    rintro _ w ⟨rfl, hO⟩ a h
                    refine sog h hO (j := 18) rfl rfl hb28 (yl_not h rfl) rfl ?_; clear h a; intro a h
                    refine sog h hO (j := 16) rfl rfl hb27 (yl_pick_t h rfl hb28 rfl) rfl ?_; clear h a; intro a h
                    refine so h hO (yl_pick_f h rfl hb27 rfl) rfl ?_; clear h a; intro a h
                    refine endL ?_
                    refine then_n ?_
                    refine cond_s h rfl (fun hb29 => ?_) (fun hb29 => ?_)
                    · have hp29 := hb29
                      try simp only [decide_eq_true_eq, decide_eq_false_iff_not, Bool.not_eq_true', Bool.not_eq_false', Int.not_lt, Int.not_le, ne_eq, Decidable.not_not] at hp29
                      exfalso; simp_all [mend_tidy]
                    · have hp29 := hb29
                      try simp only [decide_eq_true_eq, decide_eq_false_iff_not, Bool.not_eq_true', Bool.not_eq_false', Int.not_lt, Int.not_le, ne_eq, Decidable.not_not] at hp29
                      refine skip ?_
                      refine then_n ?_
                      exact ⟨h.weak (subB_cons rfl (subB_cons rfl (subB_cons rfl (subB_cons rfl (subB_cons rfl (subB_cons rfl (subB_cons rfl (subB_cons rfl (subB_nil))))))))), (by exact hO.sub (by repeat (first | with_reducible exact List.Sublist.refl _ | with_reducible refine List.Sublist.cons_cons _ ?_ | refine List.Sublist.cons _ ?_)))⟩
                  · have hp28 := hb28
                    try simp only [decide_eq_true_eq, decide_eq_false_iff_not, Bool.not_eq_true', Bool.not_eq_false', Int.not_lt, Int.not_le, ne_eq, Decidable.not_not] at hp28
                    refine son h (j := 18) rfl rfl hb28 rfl ?_; clear h a; intro a h
                    refine son h (j := 18) rfl rfl hb28 rfl ?_; clear h a; intro a h
                    refine son h (j := 18) rfl rfl hb28 rfl ?_; clear h a; intro a h
                    refine son h (j := 18) rfl rfl hb28 rfl ?_; clear h a; intro a h
                    refine sog h hO (j := 16) rfl rfl hb27 (yl_pick_f h rfl hb28 rfl) rfl ?_; clear h a; intro a h
                    refine so h hO (yl_pick_f h rfl hb27 rfl) rfl ?_; clear h a; intro a h
                    refine endL ?_
                    refine then_n ?_
                    refine cond_f h rfl rfl ?_
                    refine skip ?_
                    refine then_n ?_
                    exact ⟨h.weak (subB_cons rfl (subB_cons rfl (subB_cons rfl (subB_cons rfl (subB_cons rfl (subB_cons rfl (subB_cons rfl (subB_cons rfl (subB_nil))))))))), (by exact hO.sub (by repeat (first | with_reducible exact List.Sublist.refl _ | with_reducible refine List.Sublist.cons_cons _ ?_ | refine List.Sublist.cons _ ?_)))⟩
        · have hp23 := hb23
          try simp only [decide_eq_true_eq, decide_eq_false_iff_not, Bool.not_eq_true', Bool.not_eq_false', Int.not_lt, Int.not_le, ne_eq, Decidable.not_not] at hp23
          refine skip ?_
          refine then_n ?_
          exact ⟨h.weak (subB_cons rfl (subB_cons rfl (subB_cons rfl (subB_cons rfl (subB_cons rfl (subB_cons rfl (subB_cons rfl (subB_cons rfl (subB_nil))))))))), (by exact hO.sub (by repeat (first | with_reducible exact List.Sublist.refl _ | with_reducible refine List.Sublist.cons_cons _ ?_ | refine List.Sublist.cons _ ?_)))⟩
      · clear h hO a w
        rintro a w ⟨h, hO⟩
        refine seq ?_
        refine seq ?_
        refine region ?_
        refine so h hO (yl_move h rfl) rfl ?_; clear h a; intro a h
        refine so h hO (yl_not h rfl) rfl ?_; clear h a; intro a h
        refine endL ?_
        refine then_n ?_
        refine cond_s h rfl (fun hb30 => ?_) (fun hb30 => ?_)
        · have hp30 := hb30
          try simp only [decide_eq_true_eq, decide_eq_false_iff_not, Bool.not_eq_true', Bool.not_eq_false', Int.not_lt, Int.not_le, ne_eq, Decidable.not_not] at hp30
          refine seq ?_
          refine region ?_
          refine so h hO (yl_assign h rfl) rfl ?_; clear h a; intro a h
          refine endL ?_
          refine then_n ?_
          refine retc ?_
          refine then_r (ret1 h hO Try.results3 (.tmp rfl .nil) ?_)
          refine Ret.mk ?_
          exact ⟨rfl, (by exact hO.sub (by repeat (first | with_reducible exact List.Sublist.refl _ | with_reducible refine List.Sublist.cons_cons _ ?_ | refine List.Sublist.cons _ ?_)))⟩
        · have hp30 := hb30
          try simp only [decide_eq_true_eq, decide_eq_false_iff_not, Bool.not_eq_true', Bool.not_eq_false', Int.not_lt, Int.not_le, ne_eq, Decidable.not_not] at hp30
          have hok : ok xs = true := by simpa using hb30
          refine skip ?_
          refine then_n ?_
          refine seq ?_
          refine seq_cut (R := fun a w => ∃ b : Bool, b = false ∧ St 369 [] [(282, .bool b), (3, .slice A0 xs.length c0), (12, .bool (ok xs && tidy xs)), (16, .bool bm), (24, .slice A5 (if ok xs = true then sp xs xs.length else []).length c5)] a ∧ OwnE w0 w (e5 :: e0 :: L)) ?_ ?_
          · skip
            refine region ?_
            refine so h hO (yl_move h rfl) rfl ?_; clear h a; intro a h
            refine so h hO (yl_move h rfl) rfl ?_; clear h a; intro a h
            refine so h hO (yl_len h rfl p0) rfl ?_; clear h a; intro a h
            refine so h hO (yl_eq h rfl rfl) rfl ?_; clear h a; intro a h
            refine so h hO (yl_move h rfl) rfl ?_; clear h a; intro a h
            refine split h 258 rfl (fun hb31 => ?_) (fun hb31 => ?_)
            · have hp31 := hb31
              try simp only [decide_eq_true_eq, decide_eq_false_iff_not, Bool.not_eq_true', Bool.not_eq_false', Int.not_lt, Int.not_le, ne_eq, Decidable.not_not] at hp31
              refine sog h hO (j := 4) rfl rfl hb31 (yl_move h rfl) rfl ?_; clear h a; intro a h
              refine sog h hO (j := 4) rfl rfl hb31 (yl_len h rfl p0) rfl ?_; clear h a; intro a h
              refine sog h hO (j := 4) rfl rfl hb31 (yl_eq h rfl rfl) rfl ?_; clear h a; intro a h
              refine so h hO (yl_pick_t h rfl hb31 rfl) rfl ?_; clear h a; intro a h
              refine so h hO (yl_neB h rfl rfl p22) rfl ?_; clear h a; intro a h
              refine so h hO (yl_move h rfl) rfl ?_; clear h a; intro a h
              refine split h 264 rfl (fun hb32 => ?_) (fun hb32 => ?_)
              · have hp32 := hb32
                try simp only [decide_eq_true_eq, decide_eq_false_iff_not, Bool.not_eq_true', Bool.not_eq_false', Int.not_lt, Int.not_le, ne_eq, Decidable.not_not] at hp32
                exfalso; first | (simp_all [tidy]; done) | (have := opens_mx xs; simp [hok] at hb32; omega)
              · have hp32 := hb32
                try simp only [decide_eq_true_eq, decide_eq_false_iff_not, Bool.not_eq_true', Bool.not_eq_false', Int.not_lt, Int.not_le, ne_eq, Decidable.not_not] at hp32
                refine sog h hO (j := 10) rfl rfl hb32 (yl_move h rfl) rfl ?_; clear h a; intro a h
                refine sog h hO (j := 10) rfl rfl hb32 (yl_move h rfl) rfl ?_; clear h a; intro a h
                refine split h 266 rfl (fun hb33 => ?_) (fun hb33 => ?_)
                · have hp33 := hb33
                  try simp only [decide_eq_true_eq, decide_eq_false_iff_not, Bool.not_eq_true', Bool.not_eq_false', Int.not_lt, Int.not_le, ne_eq, Decidable.not_not] at hp33
                  refine sog h hO (j := 12) rfl rfl hb33 (yl_move h rfl) rfl ?_; clear h a; intro a h
                  refine sog h hO (j := 12) rfl rfl hb33 (yl_not h rfl) rfl ?_; clear h a; intro a h
                  refine sog h hO (j := 10) rfl rfl hb32 (yl_pick_t h rfl hb33 rfl) rfl ?_; clear h a; intro a h
                  refine so h hO (yl_pick_f h rfl hb32 rfl) rfl ?_; clear h a; intro a h
                  refine so h hO (yl_move h rfl) rfl ?_; clear h a; intro a h
                  refine split h 271 rfl (fun hb34 => ?_) (fun hb34 => ?_)
                  · have hp34 := hb34
                    try simp only [decide_eq_true_eq, decide_eq_false_iff_not, Bool.not_eq_true', Bool.not_eq_false', Int.not_lt, Int.not_le, ne_eq, Decidable.not_not] at hp34
                    exfalso; first | (simp_all [tidy]; done) | (have := opens_mx xs; simp [hok] at hb34; omega)
                  · have hp34 := hb34
                    try simp only [decide_eq_true_eq, decide_eq_false_iff_not, Bool.not_eq_true', Bool.not_eq_false', Int.not_lt, Int.not_le, ne_eq, Decidable.not_not] at hp34
                    refine sog h hO (j := 17) rfl rfl hb34 (yl_move h rfl) rfl ?_; clear h a; intro a h
                    refine sog h hO (j := 17) rfl rfl hb34 (yl_len h rfl p0) rfl ?_; clear h a; intro a h
                    refine sog h hO (j := 17) rfl rfl hb34 (yl_move h rfl) rfl ?_; clear h a; intro a h
                    refine sog h hO (j := 17) rfl rfl hb34 (yl_gt h rfl rfl) rfl ?_; clear h a; intro a h
                    refine so h hO (yl_pick_f h rfl hb34 rfl) rfl ?_; clear h a; intro a h
                    refine so h hO (yl_move h rfl) rfl ?_; clear h a; intro a h
                    refine split h 277 rfl (fun hb35 => ?_) (fun hb35 => ?_)
                    · have hp35 := hb35
                      try simp only [decide_eq_true_eq, decide_eq_false_iff_not, Bool.not_eq_true', Bool.not_eq_false', Int.not_lt, Int.not_le, ne_eq, Decidable.not_not] at hp35
                      exfalso; first | (simp_all [tidy]; done) | (have := opens_mx xs; simp [hok] at hb35; omega)
                    · have hp35 := hb35
                      try simp only [decide_eq_true_eq, decide_eq_false_iff_not, Bool.not_eq_true', Bool.not_eq_false', Int.not_lt, Int.not_le, ne_eq, Decidable.not_not] at hp35
                      refine sog h hO (j := 23) rfl rfl hb35 (yl_move h rfl) rfl ?_; clear h a; intro a h
                      refine sog h hO (j := 23) rfl rfl hb35 (yl_move h rfl) rfl ?_; clear h a; intro a h
                      refine sog h hO (j := 23) rfl rfl hb35 (yl_len h rfl p41) rfl ?_; clear h a; intro a h
                      refine sog h hO (j := 23) rfl rfl hb35 (yl_gt h rfl rfl) rfl ?_; clear h a; intro a h
                      refine so h hO (yl_pick_f h rfl hb35 rfl) rfl ?_; clear h a; intro a h
                      refine endL ?_
                      refine then_n ?_
                      refine ⟨_, ?_, h.weak (subB_cons rfl (subB_cons rfl (subB_cons rfl (subB_cons rfl (subB_cons rfl (subB_nil)))))), hO⟩
                      have := mx_sp (xs := xs) (Nat.le_refl _)
                      simp [hok]; omega
                · have hp33 := hb33
                  try simp only [decide_eq_true_eq, decide_eq_false_iff_not, Bool.not_eq_true', Bool.not_eq_false', Int.not_lt, Int.not_le, ne_eq, Decidable.not_not] at hp33
                  refine son h (j := 12) rfl rfl hb33 rfl ?_; clear h a; intro a h
                  refine son h (j := 12) rfl rfl hb33 rfl ?_; clear h a; intro a h
                  refine sog h hO (j := 10) rfl rfl hb32 (yl_pick_f h rfl hb33 rfl) rfl ?_; clear h a; intro a h
                  refine so h hO (yl_pick_f h rfl hb32 rfl) rfl ?_; clear h a; intro a h
                  refine so h hO (yl_move h rfl) rfl ?_; clear h a; intro a h
                  refine sog h hO (j := 17) rfl rfl rfl (yl_move h rfl) rfl ?_; clear h a; intro a h
                  refine sog h hO (j := 17) rfl rfl rfl (yl_len h rfl p0) rfl ?_; clear h a; intro a h
                  refine sog h hO (j := 17) rfl rfl rfl (yl_move h rfl) rfl ?_; clear h a; intro a h
                  refine sog h hO (j := 17) rfl rfl rfl (yl_gt h rfl rfl) rfl ?_; clear h a; intro a h
                  refine so h hO (yl_pick_f h rfl rfl rfl) rfl ?_; clear h a; intro a h
                  refine so h hO (yl_move h rfl) rfl ?_; clear h a; intro a h
                  refine split h 277 rfl (fun hb36 => ?_) (fun hb36 => ?_)
                  · have hp36 := hb36
                    try simp only [decide_eq_true_eq, decide_eq_false_iff_not, Bool.not_eq_true', Bool.not_eq_false', Int.not_lt, Int.not_le, ne_eq, Decidable.not_not] at hp36
                    exfalso; first | (simp_all [tidy]; done) | (have := opens_mx xs; simp [hok] at hb36; omega)
                  · have hp36 := hb36
                    try simp only [decide_eq_true_eq, decide_eq_false_iff_not, Bool.not_eq_true', Bool.not_eq_false', Int.not_lt, Int.not_le, ne_eq, Decidable.not_not] at hp36
                    refine sog h hO (j := 23) rfl rfl hb36 (yl_move h rfl) rfl ?_; clear h a; intro a h
                    refine sog h hO (j := 23) rfl rfl hb36 (yl_move h rfl) rfl ?_; clear h a; intro a h
                    refine sog h hO (j := 23) rfl rfl hb36 (yl_len h rfl p41) rfl ?_; clear h a; intro a h
                    refine sog h hO (j := 23) rfl rfl hb36 (yl_gt h rfl rfl) rfl ?_; clear h a; intro a h
                    refine so h hO (yl_pick_f h rfl hb36 rfl) rfl ?_; clear h a; intro a h
                    refine endL ?_
                    refine then_n ?_
                    refine ⟨_, ?_, h.weak (subB_cons rfl (subB_cons rfl (subB_cons rfl (subB_cons rfl (subB_cons rfl (subB_nil)))))), hO⟩
                    have := mx_sp (xs := xs) (Nat.le_refl _)
                    simp [hok]; omega
            · have hp31 := hb31
              try simp only [decide_eq_true_eq, decide_eq_false_iff_not, Bool.not_eq_true', Bool.not_eq_false', Int.not_lt, Int.not_le, ne_eq, Decidable.not_not] at hp31
              refine son h (j := 4) rfl rfl hb31 rfl ?_; clear h a; intro a h
              refine son h (j := 4) rfl rfl hb31 rfl ?_; clear h a; intro a h
              refine son h (j := 4) rfl rfl hb31 rfl ?_; clear h a; intro a h
              refine so h hO (yl_pick_f h rfl hb31 rfl) rfl ?_; clear h a; intro a h
              refine so h hO (yl_neB h rfl rfl p22) rfl ?_; clear h a; intro a h
              refine so h hO (yl_move h rfl) rfl ?_; clear h a; intro a h
              refine split h 264 rfl (fun hb37 => ?_) (fun hb37 => ?_)
              · have hp37 := hb37
                try simp only [decide_eq_true_eq, decide_eq_false_iff_not, Bool.not_eq_true', Bool.not_eq_false', Int.not_lt, Int.not_le, ne_eq, Decidable.not_not] at hp37
                exfalso; first | (simp_all [tidy]; done) | (have := opens_mx xs; simp [hok] at hb37; omega)
              · have hp37 := hb37
                try simp only [decide_eq_true_eq, decide_eq_false_iff_not, Bool.not_eq_true', Bool.not_eq_false', Int.not_lt, Int.not_le, ne_eq, Decidable.not_not] at hp37
                refine sog h hO (j := 10) rfl rfl hb37 (yl_move h rfl) rfl ?_; clear h a; intro a h
                refine sog h hO (j := 10) rfl rfl hb37 (yl_move h rfl) rfl ?_; clear h a; intro a h
                refine split h 266 rfl (fun hb38 => ?_) (fun hb38 => ?_)
                · have hp38 := hb38
                  try simp only [decide_eq_true_eq, decide_eq_false_iff_not, Bool.not_eq_true', Bool.not_eq_false', Int.not_lt, Int.not_le, ne_eq, Decidable.not_not] at hp38
                  refine sog h hO (j := 12) rfl rfl hb38 (yl_move h rfl) rfl ?_; clear h a; intro a h
                  refine sog h hO (j := 12) rfl rfl hb38 (yl_not h rfl) rfl ?_; clear h a; intro a h
                  refine sog h hO (j := 10) rfl rfl hb37 (yl_pick_t h rfl hb38 rfl) rfl ?_; clear h a; intro a h
                  refine so h hO (yl_pick_f h rfl hb37 rfl) rfl ?_; clear h a; intro a h
                  refine so h hO (yl_move h rfl) rfl ?_; clear h a; intro a h
                  refine split h 271 rfl (fun hb39 => ?_) (fun hb39 => ?_)
                  · have hp39 := hb39
                    try simp only [decide_eq_true_eq, decide_eq_false_iff_not, Bool.not_eq_true', Bool.not_eq_false', Int.not_lt, Int.not_le, ne_eq, Decidable.not_not] at hp39
                    exfalso; first | (simp_all [tidy]; done) | (have := opens_mx xs; simp [hok] at hb39; omega)
                  · have hp39 := hb39
                    try simp only [decide_eq_true_eq, decide_eq_false_iff_not, Bool.not_eq_true', Bool.not_eq_false', Int.not_lt, Int.not_le, ne_eq, Decidable.not_not] at hp39
                    refine sog h hO (j := 17) rfl rfl hb39 (yl_move h rfl) rfl ?_; clear h a; intro a h
                    refine sog h hO (j := 17) rfl rfl hb39 (yl_len h rfl p0) rfl ?_; clear h a; intro a h
                    refine sog h hO (j := 17) rfl rfl hb39 (yl_move h rfl) rfl ?_; clear h a; intro a h
                    refine sog h hO (j := 17) rfl rfl hb39 (yl_gt h rfl rfl) rfl ?_; clear h a; intro a h
                    refine so h hO (yl_pick_f h rfl hb39 rfl) rfl ?_; clear h a; intro a h
                    refine so h hO (yl_move h rfl) rfl ?_; clear h a; intro a h
                    refine split h 277 rfl (fun hb40 => ?_) (fun hb40 => ?_)
                    · have hp40 := hb40
                      try simp only [decide_eq_true_eq, decide_eq_false_iff_not, Bool.not_eq_true', Bool.not_eq_false', Int.not_lt, Int.not_le, ne_eq, Decidable.not_not] at hp40
                      exfalso; first | (simp_all [tidy]; done) | (have := opens_mx xs; simp [hok] at hb40; omega)
                    · have hp40 := hb40
                      try simp only [decide_eq_true_eq, decide_eq_false_iff_not, Bool.not_eq_true', Bool.not_eq_false', Int.not_lt, Int.not_le, ne_eq, Decidable.not_not] at hp40
                      refine sog h hO (j := 23) rfl rfl hb40 (yl_move h rfl) rfl ?_; clear h a; intro a h
                      refine sog h hO (j := 23) rfl rfl hb40 (yl_move h rfl) rfl ?_; clear h a; intro a h
                      refine sog h hO (j := 23) rfl rfl hb40 (yl_len h rfl p41) rfl ?_; clear h a; intro a h
                      refine sog h hO (j := 23) rfl rfl hb40 (yl_gt h rfl rfl) rfl ?_; clear h a; intro a h
                      refine so h hO (yl_pick_f h rfl hb40 rfl) rfl ?_; clear h a; intro a h
                      refine endL ?_
                      refine then_n ?_
                      refine ⟨_, ?_, h.weak (subB_cons rfl (subB_cons rfl (subB_cons rfl (subB_cons rfl (subB_cons rfl (subB_nil)))))), hO⟩
                      have := mx_sp (xs := xs) (Nat.le_refl _)
                      simp [hok]; omega
                · have hp38 := hb38
                  try simp only [decide_eq_true_eq, decide_eq_false_iff_not, Bool.not_eq_true', Bool.not_eq_false', Int.not_lt, Int.not_le, ne_eq, Decidable.not_not] at hp38
                  refine son h (j := 12) rfl rfl hb38 rfl ?_; clear h a; intro a h
                  refine son h (j := 12) rfl rfl hb38 rfl ?_; clear h a; intro a h
                  refine sog h hO (j := 10) rfl rfl hb37 (yl_pick_f h rfl hb38 rfl) rfl ?_; clear h a; intro a h
                  refine so h hO (yl_pick_f h rfl hb37 rfl) rfl ?_; clear h a; intro a h
                  refine so h hO (yl_move h rfl) rfl ?_; clear h a; intro a h
                  refine sog h hO (j := 17) rfl rfl rfl (yl_move h rfl) rfl ?_; clear h a; intro a h
                  refine sog h hO (j := 17) rfl rfl rfl (yl_len h rfl p0) rfl ?_; clear h a; intro a h
                  refine sog h hO (j := 17) rfl rfl rfl (yl_move h rfl) rfl ?_; clear h a; intro a h
                  refine sog h hO (j := 17) rfl rfl rfl (yl_gt h rfl rfl) rfl ?_; clear h a; intro a h
                  refine so h hO (yl_pick_f h rfl rfl rfl) rfl ?_; clear h a; intro a h
                  refine so h hO (yl_move h rfl) rfl ?_; clear h a; intro a h
                  refine split h 277 rfl (fun hb41 => ?_) (fun hb41 => ?_)
                  · have hp41 := hb41
                    try simp only [decide_eq_true_eq, decide_eq_false_iff_not, Bool.not_eq_true', Bool.not_eq_false', Int.not_lt, Int.not_le, ne_eq, Decidable.not_not] at hp41
                    exfalso; first | (simp_all [tidy]; done) | (have := opens_mx xs; simp [hok] at hb41; omega)
                  · have hp41 := hb41
                    try simp only [decide_eq_true_eq, decide_eq_false_iff_not, Bool.not_eq_true', Bool.not_eq_false', Int.not_lt, Int.not_le, ne_eq, Decidable.not_not] at hp41
                    refine sog h hO (j := 23) rfl rfl hb41 (yl_move h rfl) rfl ?_; clear h a; intro a h
                    refine sog h hO (j := 23) rfl rfl hb41 (yl_move h rfl) rfl ?_; clear h a; intro a h
                    refine sog h hO (j := 23) rfl rfl hb41 (yl_len h rfl p41) rfl ?_; clear h a; intro a h
                    refine sog h hO (j := 23) rfl rfl hb41 (yl_gt h rfl rfl) rfl ?_; clear h a; intro a h
                    refine so h hO (yl_pick_f h rfl hb41 rfl) rfl ?_; clear h a; intro a h
                    refine endL ?_
                    refine then_n ?_
                    refine ⟨_, ?_, h.weak (subB_cons rfl (subB_cons rfl (subB_cons rfl (subB_cons rfl (subB_cons rfl (subB_nil)))))), hO⟩
                    have := mx_sp (xs := xs) (Nat.le_refl _)
                    simp [hok]; omega
          · clear h hO a w
            rintro a w ⟨b, rfl, h, hO⟩
            refine cond_s h rfl (fun hb42 => ?_) (fun hb42 => ?_)
            · have hp42 := hb42
              try simp only [decide_eq_true_eq, decide_eq_false_iff_not, Bool.not_eq_true', Bool.not_eq_false', Int.not_lt, Int.not_le, ne_eq, Decidable.not_not] at hp42
              cases hb42
            · have hp42 := hb42
              try simp only [decide_eq_true_eq, decide_eq_false_iff_not, Bool.not_eq_true', Bool.not_eq_false', Int.not_lt, Int.not_le, ne_eq, Decidable.not_not] at hp42
              refine skip ?_
              refine then_n ?_
              refine seq ?_
              refine seq ?_
              refine region ?_
              refine so h hO (yl_assign h rfl) rfl ?_; clear h a; intro a h
              refine endL ?_
              refine then_n ?_
              refine block ?_
              refine loop (fun (k : Nat) a w => k ≤ (sp xs xs.length).length ∧ St 369 [] [(36, .int .i64 k), (3, .slice A0 xs.length c0), (12, .bool (ok xs && tidy xs)), (16, .bool bm), (24, .slice A5 (if ok xs = true then sp xs xs.length else []).length c5)] a ∧ OwnE w0 w (e5 :: e0 :: L)) (fun k => (sp xs xs.length).length - k) 0 ?_ ?_
              · exact ⟨Nat.zero_le _, h.weak (subB_cons rfl (subB_cons rfl (subB_cons rfl (subB_cons rfl (subB_cons rfl (subB_nil)))))), hO⟩
              · clear h a hO w
                rintro k a w ⟨hk, h, hO⟩
                rw [if_pos hok] at h hr5
                have hsl := sp_len xs xs.length
                have hxl := (ok_spec hok).1
                refine seq ?_
                refine seq ?_
                refine region ?_
                refine so h hO (yl_move h rfl) rfl ?_; clear h a; intro a h
                refine so h hO (yl_move h rfl) rfl ?_; clear h a; intro a h
                refine so h hO (yl_len h rfl p41) rfl ?_; clear h a; intro a h
                refine so h hO (yl_lt h rfl rfl) rfl ?_; clear h a; intro a h
                refine endL ?_
                refine then_n ?_
                refine cond_s h rfl (fun hb43 => ?_) (fun hb43 => ?_)
                · have hp43 := hb43
                  try simp only [decide_eq_true_eq, decide_eq_false_iff_not, Bool.not_eq_true', Bool.not_eq_false', Int.not_lt, Int.not_le, ne_eq, Decidable.not_not] at hp43
                  refine skip ?_
                  refine then_n ?_
                  refine seq ?_
                  refine block ?_
                  refine seq ?_
                  refine seq_cut (R := fun a w => ∃ b : Bool, b = false ∧ St 369 [] [(336, .bool b), (36, .int .i64 k), (3, .slice A0 xs.length c0), (12, .bool (ok xs && tidy xs)), (16, .bool bm), (24, .slice A5 (sp xs xs.length).length c5)] a ∧ OwnE w0 w (e5 :: e0 :: L)) ?_ ?_
                  · skip
                    refine regionQ (C := fun w => OwnE w0 w _) (by kernel_rfl) (by kernel_rfl) hO.drew ?_
                    clear hO w
                    have hk1 : k < (sp xs xs.length).length := by omega
                    obtain ⟨p, hpl, hsp, hpos⟩ := sp_mem (getD_mem (xs := sp xs xs.length) (k := (k : Int).toNat) (by omega))
                    have hsm := (ok_spec hok).2
                    have hxp := hsm _ (getD_mem (xs := xs) (k := p) hpl)
                    have hs1 : ((sp xs xs.length).getD (k : Int).toNat default).1 = p := by rw [hsp]
                    have hs1n : ((sp xs xs.length).getD (k : Int).toNat default).1.toNat = p := by rw [hs1]; rfl
                    have hs2 : ((sp xs xs.length).getD (k : Int).toNat default).2 = nxt xs p (-(xs.getD p default)) := by rw [hsp]
                    have hs3 : ((sp xs xs.length).getD (k : Int).toNat default).2 < xs.length ∧ (0 ≤ ((sp xs xs.length).getD (k : Int).toNat default).2 → xs.getD ((sp xs xs.length).getD (k : Int).toNat default).2.toNat default = -(xs.getD p default)) := by
                      rw [hs2]
                      by_cases h0 : 0 ≤ nxt xs p (-(xs.getD p default))
                      · obtain ⟨j, hj, h1, h2, h3, h4⟩ := nxt_spec h0
                        rw [hj]; exact ⟨by omega, fun _ => h3⟩
                      · exact ⟨by omega, fun h => absurd h h0⟩
                    have hs4 : xs.getD ((sp xs xs.length).getD (k : Int).toNat default).1.toNat default = xs.getD p default := by rw [hs1n]
                    refine stepQ h (yl_move h rfl) rfl ?_; clear h a; intro a h
                    refine stepQ h (yl_move h rfl) rfl ?_; clear h a; intro a h
                    refine stepQ h (yl_move h rfl) rfl ?_; clear h a; intro a h
                    refine stepQ h (yl_ix h rfl rfl p41 (by assumption) (by simp) (by omega)) rfl ?_; clear h a; intro a h
                    refine stepQ h (yl_indexAddr_arr h rfl rfl p77 (by first | decide | omega)) rfl ?_; clear h a; intro a h
                    refine stepQ h (yl_ldF h rfl p1 (by assumption) (by first | assumption | exact Val.sub (by assumption) (by repeat (first | with_reducible exact List.Sublist.refl _ | with_reducible refine List.Sublist.cons_cons _ ?_ | refine List.Sublist.cons _ ?_)) | with_reducible exact Val.ext _ _ | exact Val.ent (by first | with_reducible exact mem0 | with_reducible exact memS (mem0) | with_reducible exact memS (memS (mem0)) | with_reducible exact memS (memS (memS (mem0))) | with_reducible exact memS (memS (memS (memS (mem0)))) | with_reducible exact memS (memS (memS (memS (memS (mem0))))) | with_reducible exact memS (memS (memS (memS (memS (memS (mem0)))))) | with_reducible exact memS (memS (memS (memS (memS (memS (memS (mem0))))))) | with_reducible exact memS (memS (memS (memS (memS (memS (memS (memS (mem0)))))))) | with_reducible exact memS (memS (memS (memS (memS (memS (memS (memS (memS (mem0))))))))) | with_reducible exact memS (memS (memS (memS (memS (memS (memS (memS (memS (memS (mem0)))))))))) | with_reducible exact memS (memS (memS (memS (memS (memS (memS (memS (memS (memS (memS (mem0))))))))))) | with_reducible exact memS (memS (memS (memS (memS (memS (memS (memS (memS (memS (memS (memS (mem0)))))))))))) | with_reducible exact memS (memS (memS (memS (memS (memS (memS (memS (memS (memS (memS (memS (memS (mem0))))))))))))))) (by omega) rfl) rfl ?_; clear h a; intro a h
                    refine stepQ h (yl_ix h rfl rfl p0 (by assumption) (by simp) (by omega)) rfl ?_; clear h a; intro a h
                    refine stepQ h (yl_ld1 h rfl p1 (by assumption) (by first | assumption | exact Val.sub (by assumption) (by repeat (first | with_reducible exact List.Sublist.refl _ | with_reducible refine List.Sublist.cons_cons _ ?_ | refine List.Sublist.cons _ ?_)) | with_reducible exact Val.ext _ _ | exact Val.ent (by first | with_reducible exact mem0 | with_reducible exact memS (mem0) | with_reducible exact memS (memS (mem0)) | with_reducible exact memS (memS (memS (mem0))) | with_reducible exact memS (memS (memS (memS (mem0)))) | with_reducible exact memS (memS (memS (memS (memS (mem0))))) | with_reducible exact memS (memS (memS (memS (memS (memS (mem0)))))) | with_reducible exact memS (memS (memS (memS (memS (memS (memS (mem0))))))) | with_reducible exact memS (memS (memS (memS (memS (memS (memS (memS (mem0)))))))) | with_reducible exact memS (memS (memS (memS (memS (memS (memS (memS (memS (mem0))))))))) | with_reducible exact memS (memS (memS (memS (memS (memS (memS (memS (memS (memS (mem0)))))))))) | with_reducible exact memS (memS (memS (memS (memS (memS (memS (memS (memS (memS (memS (mem0))))))))))) | with_reducible exact memS (memS (memS (memS (memS (memS (memS (memS (memS (memS (memS (memS (mem0)))))))))))) | with_reducible exact memS (memS (memS (memS (memS (memS (memS (memS (memS (memS (memS (memS (memS (mem0))))))))))))))) (by omega) (fun _ => rfl)) rfl ?_; clear h a; intro a h
                    refine stepQ h (yl_lt h rfl rfl) rfl ?_; clear h a; intro a h
                    refine stepQ h (yl_move h rfl) rfl ?_; clear h a; intro a h
                    refine split h 298 rfl (fun hb44 => ?_) (fun hb44 => ?_)
                    · have hp44 := hb44
                      try simp only [decide_eq_true_eq, decide_eq_false_iff_not, Bool.not_eq_true', Bool.not_eq_false', Int.not_lt, Int.not_le, ne_eq, Decidable.not_not] at hp44
                      exfalso; first | (have h1 := of_decide_eq_true hb44; omega) | (cases hb44; done) | exact (of_decide_eq_true hb44) (by rw [hs4]; exact hs3.2 (by omega))
                    · have hp44 := hb44
                      try simp only [decide_eq_true_eq, decide_eq_false_iff_not, Bool.not_eq_true', Bool.not_eq_false', Int.not_lt, Int.not_le, ne_eq, Decidable.not_not] at hp44
                      refine stepQg h (j := 9) rfl rfl hb44 (yl_move h rfl) rfl ?_; clear h a; intro a h
                      refine stepQg h (j := 9) rfl rfl hb44 (yl_move h rfl) rfl ?_; clear h a; intro a h
                      refine stepQg h (j := 9) rfl rfl hb44 (yl_ix h rfl rfl p41 (by assumption) (by simp) (by omega)) rfl ?_; clear h a; intro a h
                      refine stepQg h (j := 9) rfl rfl hb44 (yl_indexAddr_arr h rfl rfl p77 (by first | decide | omega)) rfl ?_; clear h a; intro a h
                      refine stepQg h (j := 9) rfl rfl hb44 (yl_ldF h rfl p1 (by assumption) (by first | assumption | exact Val.sub (by assumption) (by repeat (first | with_reducible exact List.Sublist.refl _ | with_reducible refine List.Sublist.cons_cons _ ?_ | refine List.Sublist.cons _ ?_)) | with_reducible exact Val.ext _ _ | exact Val.ent (by first | with_reducible exact mem0 | with_reducible exact memS (mem0) | with_reducible exact memS (memS (mem0)) | with_reducible exact memS (memS (memS (mem0))) | with_reducible exact memS (memS (memS (memS (mem0)))) | with_reducible exact memS (memS (memS (memS (memS (mem0))))) | with_reducible exact memS (memS (memS (memS (memS (memS (mem0)))))) | with_reducible exact memS (memS (memS (memS (memS (memS (memS (mem0))))))) | with_reducible exact memS (memS (memS (memS (memS (memS (memS (memS (mem0)))))))) | with_reducible exact memS (memS (memS (memS (memS (memS (memS (memS (memS (mem0))))))))) | with_reducible exact memS (memS (memS (memS (memS (memS (memS (memS (memS (memS (mem0)))))))))) | with_reducible exact memS (memS (memS (memS (memS (memS (memS (memS (memS (memS (memS (mem0))))))))))) | with_reducible exact memS (memS (memS (memS (memS (memS (memS (memS (memS (memS (memS (memS (mem0)))))))))))) | with_reducible exact memS (memS (memS (memS (memS (memS (memS (memS (memS (memS (memS (memS (memS (mem0))))))))))))))) (by omega) rfl) rfl ?_; clear h a; intro a h
                      refine stepQg h (j := 9) rfl rfl hb44 (yl_ge h rfl rfl) rfl ?_; clear h a; intro a h
                      refine stepQg h (j := 9) rfl rfl hb44 (yl_move h rfl) rfl ?_; clear h a; intro a h
                      refine split h 305 rfl (fun hb45 => ?_) (fun hb45 => ?_)
                      · have hp45 := hb45
                        try simp only [decide_eq_true_eq, decide_eq_false_iff_not, Bool.not_eq_true', Bool.not_eq_false', Int.not_lt, Int.not_le, ne_eq, Decidable.not_not] at hp45
                        refine stepQg h (j := 16) rfl rfl hb45 (yl_move h rfl) rfl ?_; clear h a; intro a h
                        refine stepQg h (j := 16) rfl rfl hb45 (yl_move h rfl) rfl ?_; clear h a; intro a h
                        refine stepQg h (j := 16) rfl rfl hb45 (yl_move h rfl) rfl ?_; clear h a; intro a h
                        refine stepQg h (j := 16) rfl rfl hb45 (yl_ix h rfl rfl p41 (by assumption) (by simp) (by omega)) rfl ?_; clear h a; intro a h
                        refine stepQg h (j := 16) rfl rfl hb45 (yl_indexAddr_arr h rfl rfl p77 (by first | decide | omega)) rfl ?_; clear h a; intro a h
                        refine stepQg h (j := 16) rfl rfl hb45 (yl_ldF h rfl p1 (by assumption) (by first | assumption | exact Val.sub (by assumption) (by repeat (first | with_reducible exact List.Sublist.refl _ | with_reducible refine List.Sublist.cons_cons _ ?_ | refine List.Sublist.cons _ ?_)) | with_reducible exact Val.ext _ _ | exact Val.ent (by first | with_reducible exact mem0 | with_reducible exact memS (mem0) | with_reducible exact memS (memS (mem0)) | with_reducible exact memS (memS (memS (mem0))) | with_reducible exact memS (memS (memS (memS (mem0)))) | with_reducible exact memS (memS (memS (memS (memS (mem0))))) | with_reducible exact memS (memS (memS (memS (memS (memS (mem0)))))) | with_reducible exact memS (memS (memS (memS (memS (memS (memS (mem0))))))) | with_reducible exact memS (memS (memS (memS (memS (memS (memS (memS (mem0)))))))) | with_reducible exact memS (memS (memS (memS (memS (memS (memS (memS (memS (mem0))))))))) | with_reducible exact memS (memS (memS (memS (memS (memS (memS (memS (memS (memS (mem0)))))))))) | with_reducible exact memS (memS (memS (memS (memS (memS (memS (memS (memS (memS (memS (mem0))))))))))) | with_reducible exact memS (memS (memS (memS (memS (memS (memS (memS (memS (memS (memS (memS (mem0)))))))))))) | with_reducible exact memS (memS (memS (memS (memS (memS (memS (memS (memS (memS (memS (memS (memS (mem0))))))))))))))) (by omega) rfl) rfl ?_; clear h a; intro a h
                        refine stepQg h (j := 16) rfl rfl hb45 (yl_ix h rfl rfl p0 (by assumption) (by simp) (by omega)) rfl ?_; clear h a; intro a h
                        refine stepQg h (j := 16) rfl rfl hb45 (yl_ld1 h rfl p1 (by assumption) (by first | assumption | exact Val.sub (by assumption) (by repeat (first | with_reducible exact List.Sublist.refl _ | with_reducible refine List.Sublist.cons_cons _ ?_ | refine List.Sublist.cons _ ?_)) | with_reducible exact Val.ext _ _ | exact Val.ent (by first | with_reducible exact mem0 | with_reducible exact memS (mem0) | with_reducible exact memS (memS (mem0)) | with_reducible exact memS (memS (memS (mem0))) | with_reducible exact memS (memS (memS (memS (mem0)))) | with_reducible exact memS (memS (memS (memS (memS (mem0))))) | with_reducible exact memS (memS (memS (memS (memS (memS (mem0)))))) | with_reducible exact memS (memS (memS (memS (memS (memS (memS (mem0))))))) | with_reducible exact memS (memS (memS (memS (memS (memS (memS (memS (mem0)))))))) | with_reducible exact memS (memS (memS (memS (memS (memS (memS (memS (memS (mem0))))))))) | with_reducible exact memS (memS (memS (memS (memS (memS (memS (memS (memS (memS (mem0)))))))))) | with_reducible exact memS (memS (memS (memS (memS (memS (memS (memS (memS (memS (memS (mem0))))))))))) | with_reducible exact memS (memS (memS (memS (memS (memS (memS (memS (memS (memS (memS (memS (mem0)))))))))))) | with_reducible exact memS (memS (memS (memS (memS (memS (memS (memS (memS (memS (memS (memS (memS (mem0))))))))))))))) (by omega) (fun _ => rfl)) rfl ?_; clear h a; intro a h
                        refine stepQg h (j := 16) rfl rfl hb45 (yl_move h rfl) rfl ?_; clear h a; intro a h
                        refine stepQg h (j := 16) rfl rfl hb45 (yl_move h rfl) rfl ?_; clear h a; intro a h
                        refine stepQg h (j := 16) rfl rfl hb45 (yl_move h rfl) rfl ?_; clear h a; intro a h
                        refine stepQg h (j := 16) rfl rfl hb45 (yl_ix h rfl rfl p41 (by assumption) (by simp) (by omega)) rfl ?_; clear h a; intro a h
                        refine stepQg h (j := 16) rfl rfl hb45 (yl_indexAddr_arr h rfl rfl p77 (by first | decide | omega)) rfl ?_; clear h a; intro a h
                        refine stepQg h (j := 16) rfl rfl hb45 (yl_ldF h rfl p1 (by assumption) (by first | assumption | exact Val.sub (by assumption) (by repeat (first | with_reducible exact List.Sublist.refl _ | with_reducible refine List.Sublist.cons_cons _ ?_ | refine List.Sublist.cons _ ?_)) | with_reducible exact Val.ext _ _ | exact Val.ent (by first | with_reducible exact mem0 | with_reducible exact memS (mem0) | with_reducible exact memS (memS (mem0)) | with_reducible exact memS (memS (memS (mem0))) | with_reducible exact memS (memS (memS (memS (mem0)))) | with_reducible exact memS (memS (memS (memS (memS (mem0))))) | with_reducible exact memS (memS (memS (memS (memS (memS (mem0)))))) | with_reducible exact memS (memS (memS (memS (memS (memS (memS (mem0))))))) | with_reducible exact memS (memS (memS (memS (memS (memS (memS (memS (mem0)))))))) | with_reducible exact memS (memS (memS (memS (memS (memS (memS (memS (memS (mem0))))))))) | with_reducible exact memS (memS (memS (memS (memS (memS (memS (memS (memS (memS (mem0)))))))))) | with_reducible exact memS (memS (memS (memS (memS (memS (memS (memS (memS (memS (memS (mem0))))))))))) | with_reducible exact memS (memS (memS (memS (memS (memS (memS (memS (memS (memS (memS (memS (mem0)))))))))))) | with_reducible exact memS (memS (memS (memS (memS (memS (memS (memS (memS (memS (memS (memS (memS (mem0))))))))))))))) (by omega) rfl) rfl ?_; clear h a; intro a h
                        refine stepQg h (j := 16) rfl rfl hb45 (yl_ix h rfl rfl p0 (by assumption) (by simp) (by omega)) rfl ?_; clear h a; intro a h
                        refine stepQg h (j := 16) rfl rfl hb45 (yl_ld1 h rfl p1 (by assumption) (by first | assumption | exact Val.sub (by assumption) (by repeat (first | with_reducible exact List.Sublist.refl _ | with_reducible refine List.Sublist.cons_cons _ ?_ | refine List.Sublist.cons _ ?_)) | with_reducible exact Val.ext _ _ | exact Val.ent (by first | with_reducible exact mem0 | with_reducible exact memS (mem0) | with_reducible exact memS (memS (mem0)) | with_reducible exact memS (memS (memS (mem0))) | with_reducible exact memS (memS (memS (memS (mem0)))) | with_reducible exact memS (memS (memS (memS (memS (mem0))))) | with_reducible exact memS (memS (memS (memS (memS (memS (mem0)))))) | with_reducible exact memS (memS (memS (memS (memS (memS (memS (mem0))))))) | with_reducible exact memS (memS (memS (memS (memS (memS (memS (memS (mem0)))))))) | with_reducible exact memS (memS (memS (memS (memS (memS (memS (memS (memS (mem0))))))))) | with_reducible exact memS (memS (memS (memS (memS (memS (memS (memS (memS (memS (mem0)))))))))) | with_reducible exact memS (memS (memS (memS (memS (memS (memS (memS (memS (memS (memS (mem0))))))))))) | with_reducible exact memS (memS (memS (memS (memS (memS (memS (memS (memS (memS (memS (memS (mem0)))))))))))) | with_reducible exact memS (memS (memS (memS (memS (memS (memS (memS (memS (memS (memS (memS (memS (mem0))))))))))))))) (by omega) (fun _ => rfl)) rfl ?_; clear h a; intro a h
                        first | (refine stepQg h (j := 16) rfl rfl hb45 (yl_neg64 h rfl (by omega)) rfl ?_) | (refine stepQg h (j := 16) rfl rfl hb45 (yl_neg h rfl) rfl ?_)
                        clear h a; intro a h
                        refine stepQg h (j := 16) rfl rfl hb45 (yl_ne h rfl rfl) rfl ?_; clear h a; intro a h
                        refine stepQg h (j := 9) rfl rfl hb44 (yl_pick_t h rfl hb45 rfl) rfl ?_; clear h a; intro a h
                        refine stepQ h (yl_pick_f h rfl hb44 rfl) rfl ?_; clear h a; intro a h
                        refine stepQ h (yl_move h rfl) rfl ?_; clear h a; intro a h
                        refine split h 326 rfl (fun hb46 => ?_) (fun hb46 => ?_)
                        · have hp46 := hb46
                          try simp only [decide_eq_true_eq, decide_eq_false_iff_not, Bool.not_eq_true', Bool.not_eq_false', Int.not_lt, Int.not_le, ne_eq, Decidable.not_not] at hp46
                          exfalso; first | (have h1 := of_decide_eq_true hb46; omega) | (cases hb46; done) | exact (of_decide_eq_true hb46) (by rw [hs4]; exact hs3.2 (by omega))
                        · have hp46 := hb46
                          try simp only [decide_eq_true_eq, decide_eq_false_iff_not, Bool.not_eq_true', Bool.not_eq_false', Int.not_lt, Int.not_le, ne_eq, Decidable.not_not] at hp46
                          refine stepQg h (j := 37) rfl rfl hb46 (yl_move h rfl) rfl ?_; clear h a; intro a h
                          refine stepQg h (j := 37) rfl rfl hb46 (yl_move h rfl) rfl ?_; clear h a; intro a h
                          refine split h 328 rfl (fun hb47 => ?_) (fun hb47 => ?_)
                          · have hp47 := hb47
                            try simp only [decide_eq_true_eq, decide_eq_false_iff_not, Bool.not_eq_true', Bool.not_eq_false', Int.not_lt, Int.not_le, ne_eq, Decidable.not_not] at hp47
                            refine stepQg h (j := 39) rfl rfl hb47 (yl_move h rfl) rfl ?_; clear h a; intro a h
                            refine stepQg h (j := 39) rfl rfl hb47 (yl_move h rfl) rfl ?_; clear h a; intro a h
                            refine stepQg h (j := 39) rfl rfl hb47 (yl_ix h rfl rfl p41 (by assumption) (by simp) (by omega)) rfl ?_; clear h a; intro a h
                            refine stepQg h (j := 39) rfl rfl hb47 (yl_indexAddr_arr h rfl rfl p77 (by first | decide | omega)) rfl ?_; clear h a; intro a h
                            refine stepQg h (j := 39) rfl rfl hb47 (yl_ldF h rfl p1 (by assumption) (by first | assumption | exact Val.sub (by assumption) (by repeat (first | with_reducible exact List.Sublist.refl _ | with_reducible refine List.Sublist.cons_cons _ ?_ | refine List.Sublist.cons _ ?_)) | with_reducible exact Val.ext _ _ | exact Val.ent (by first | with_reducible exact mem0 | with_reducible exact memS (mem0) | with_reducible exact memS (memS (mem0)) | with_reducible exact memS (memS (memS (mem0))) | with_reducible exact memS (memS (memS (memS (mem0)))) | with_reducible exact memS (memS (memS (memS (memS (mem0))))) | with_reducible exact memS (memS (memS (memS (memS (memS (mem0)))))) | with_reducible exact memS (memS (memS (memS (memS (memS (memS (mem0))))))) | with_reducible exact memS (memS (memS (memS (memS (memS (memS (memS (mem0)))))))) | with_reducible exact memS (memS (memS (memS (memS (memS (memS (memS (memS (mem0))))))))) | with_reducible exact memS (memS (memS (memS (memS (memS (memS (memS (memS (memS (mem0)))))))))) | with_reducible exact memS (memS (memS (memS (memS (memS (memS (memS (memS (memS (memS (mem0))))))))))) | with_reducible exact memS (memS (memS (memS (memS (memS (memS (memS (memS (memS (memS (memS (mem0)))))))))))) | with_reducible exact memS (memS (memS (memS (memS (memS (memS (memS (memS (memS (memS (memS (memS (mem0))))))))))))))) (by omega) rfl) rfl ?_; clear h a; intro a h
                            refine stepQg h (j := 39) rfl rfl hb47 (yl_lt h rfl rfl) rfl ?_; clear h a; intro a h
                            refine stepQg h (j := 37) rfl rfl hb46 (yl_pick_t h rfl hb47 rfl) rfl ?_; clear h a; intro a h
                            refine stepQ h (yl_pick_f h rfl hb46 rfl) rfl ?_; clear h a; intro a h
                            refine endQ ?_; intro w hO
                            refine then_n ?_
                            refine ⟨_, ?_, h.weak (subB_cons rfl (subB_cons rfl (subB_cons rfl (subB_cons rfl (subB_cons rfl (subB_cons rfl (subB_nil))))))), hO⟩
                            first | rfl | (have ht : tidy xs = true := (by simp_all); exact decide_eq_false (by rw [hs2]; have := tidy_closed ht hpl hpos; omega))
                          · have hp47 := hb47
                            try simp only [decide_eq_true_eq, decide_eq_false_iff_not, Bool.not_eq_true', Bool.not_eq_false', Int.not_lt, Int.not_le, ne_eq, Decidable.not_not] at hp47
                            refine stepQn h (j := 39) rfl rfl hb47 rfl ?_; clear h a; intro a h
                            refine stepQn h (j := 39) rfl rfl hb47 rfl ?_; clear h a; intro a h
                            refine stepQn h (j := 39) rfl rfl hb47 rfl ?_; clear h a; intro a h
                            refine stepQn h (j := 39) rfl rfl hb47 rfl ?_; clear h a; intro a h
                            refine stepQn h (j := 39) rfl rfl hb47 rfl ?_; clear h a; intro a h
                            refine stepQn h (j := 39) rfl rfl hb47 rfl ?_; clear h a; intro a h
                            refine stepQg h (j := 37) rfl rfl hb46 (yl_pick_f h rfl hb47 rfl) rfl ?_; clear h a; intro a h
                            refine stepQ h (yl_pick_f h rfl hb46 rfl) rfl ?_; clear h a; intro a h
                            refine endQ ?_; intro w hO
                            refine then_n ?_
                            refine ⟨_, ?_, h.weak (subB_cons rfl (subB_cons rfl (subB_cons rfl (subB_cons rfl (subB_cons rfl (subB_cons rfl (subB_nil))))))), hO⟩
                            first | rfl | (have ht : tidy xs = true := (by simp_all); exact decide_eq_false (by rw [hs2]; have := tidy_closed ht hpl hpos; omega))
                      · have hp45 := hb45
                        try simp only [decide_eq_true_eq, decide_eq_false_iff_not, Bool.not_eq_true', Bool.not_eq_false', Int.not_lt, Int.not_le, ne_eq, Decidable.not_not] at hp45
                        refine stepQn h (j := 16) rfl rfl hb45 rfl ?_; clear h a; intro a h
                        refine stepQn h (j := 16) rfl rfl hb45 rfl ?_; clear h a; intro a h
                        refine stepQn h (j := 16) rfl rfl hb45 rfl ?_; clear h a; intro a h
                        refine stepQn h (j := 16) rfl rfl hb45 rfl ?_; clear h a; intro a h
                        refine stepQn h (j := 16) rfl rfl hb45 rfl ?_; clear h a; intro a h
                        refine stepQn h (j := 16) rfl rfl hb45 rfl ?_; clear h a; intro a h
                        refine stepQn h (j := 16) rfl rfl hb45 rfl ?_; clear h a; intro a h
                        refine stepQn h (j := 16) rfl rfl hb45 rfl ?_; clear h a; intro a h
                        refine stepQn h (j := 16) rfl rfl hb45 rfl ?_; clear h a; intro a h
                        refine stepQn h (j := 16) rfl rfl hb45 rfl ?_; clear h a; intro a h
                        refine stepQn h (j := 16) rfl rfl hb45 rfl ?_; clear h a; intro a h
                        refine stepQn h (j := 16) rfl rfl hb45 rfl ?_; clear h a; intro a h
                        refine stepQn h (j := 16) rfl rfl hb45 rfl ?_; clear h a; intro a h
                        refine stepQn h (j := 16) rfl rfl hb45 rfl ?_; clear h a; intro a h
                        refine stepQn h (j := 16) rfl rfl hb45 rfl ?_; clear h a; intro a h
                        refine stepQn h (j := 16) rfl rfl hb45 rfl ?_; clear h a; intro a h
                        refine stepQn h (j := 16) rfl rfl hb45 rfl ?_; clear h a; intro a h
                        refine stepQn h (j := 16) rfl rfl hb45 rfl ?_; clear h a; intro a h
                        refine stepQg h (j := 9) rfl rfl hb44 (yl_pick_f h rfl hb45 rfl) rfl ?_; clear h a; intro a h
                        refine stepQ h (yl_pick_f h rfl hb44 rfl) rfl ?_; clear h a; intro a h
                        refine stepQ h (yl_move h rfl) rfl ?_; clear h a; intro a h
                        refine stepQg h (j := 37) rfl rfl rfl (yl_move h rfl) rfl ?_; clear h a; intro a h
                        refine stepQg h (j := 37) rfl rfl rfl (yl_move h rfl) rfl ?_; clear h a; intro a h
                        refine split h 328 rfl (fun hb48 => ?_) (fun hb48 => ?_)
                        · have hp48 := hb48
                          try simp only [decide_eq_true_eq, decide_eq_false_iff_not, Bool.not_eq_true', Bool.not_eq_false', Int.not_lt, Int.not_le, ne_eq, Decidable.not_not] at hp48
                          refine stepQg h (j := 39) rfl rfl hb48 (yl_move h rfl) rfl ?_; clear h a; intro a h
                          refine stepQg h (j := 39) rfl rfl hb48 (yl_move h rfl) rfl ?_; clear h a; intro a h
                          refine stepQg h (j := 39) rfl rfl hb48 (yl_ix h rfl rfl p41 (by assumption) (by simp) (by omega)) rfl ?_; clear h a; intro a h
                          refine stepQg h (j := 39) rfl rfl hb48 (yl_indexAddr_arr h rfl rfl p77 (by first | decide | omega)) rfl ?_; clear h a; intro a h
                          refine stepQg h (j := 39) rfl rfl hb48 (yl_ldF h rfl p1 (by assumption) (by first | assumption | exact Val.sub (by assumption) (by repeat (first | with_reducible exact List.Sublist.refl _ | with_reducible refine List.Sublist.cons_cons _ ?_ | refine List.Sublist.cons _ ?_)) | with_reducible exact Val.ext _ _ | exact Val.ent (by first | with_reducible exact mem0 | with_reducible exact memS (mem0) | with_reducible exact memS (memS (mem0)) | with_reducible exact memS (memS (memS (mem0))) | with_reducible exact memS (memS (memS (memS (mem0)))) | with_reducible exact memS (memS (memS (memS (memS (mem0))))) | with_reducible exact memS (memS (memS (memS (memS (memS (mem0)))))) | with_reducible exact memS (memS (memS (memS (memS (memS (memS (mem0))))))) | with_reducible exact memS (memS (memS (memS (memS (memS (memS (memS (mem0)))))))) | with_reducible exact memS (memS (memS (memS (memS (memS (memS (memS (memS (mem0))))))))) | with_reducible exact memS (memS (memS (memS (memS (memS (memS (memS (memS (memS (mem0)))))))))) | with_reducible exact memS (memS (memS (memS (memS (memS (memS (memS (memS (memS (memS (mem0))))))))))) | with_reducible exact memS (memS (memS (memS (memS (memS (memS (memS (memS (memS (memS (memS (mem0)))))))))))) | with_reducible exact memS (memS (memS (memS (memS (memS (memS (memS (memS (memS (memS (memS (memS (mem0))))))))))))))) (by omega) rfl) rfl ?_; clear h a; intro a h
                          refine stepQg h (j := 39) rfl rfl hb48 (yl_lt h rfl rfl) rfl ?_; clear h a; intro a h
                          refine stepQg h (j := 37) rfl rfl rfl (yl_pick_t h rfl hb48 rfl) rfl ?_; clear h a; intro a h
                          refine stepQ h (yl_pick_f h rfl rfl rfl) rfl ?_; clear h a; intro a h
                          refine endQ ?_; intro w hO
                          refine then_n ?_
                          refine ⟨_, ?_, h.weak (subB_cons rfl (subB_cons rfl (subB_cons rfl (subB_cons rfl (subB_cons rfl (subB_cons rfl (subB_nil))))))), hO⟩
                          first | rfl | (have ht : tidy xs = true := (by simp_all); exact decide_eq_false (by rw [hs2]; have := tidy_closed ht hpl hpos; omega))
                        · have hp48 := hb48
                          try simp only [decide_eq_true_eq, decide_eq_false_iff_not, Bool.not_eq_true', Bool.not_eq_false', Int.not_lt, Int.not_le, ne_eq, Decidable.not_not] at hp48
                          refine stepQn h (j := 39) rfl rfl hb48 rfl ?_; clear h a; intro a h
                          refine stepQn h (j := 39) rfl rfl hb48 rfl ?_; clear h a; intro a h
                          refine stepQn h (j := 39) rfl rfl hb48 rfl ?_; clear h a; intro a h
                          refine stepQn h (j := 39) rfl rfl hb48 rfl ?_; clear h a; intro a h
                          refine stepQn h (j := 39) rfl rfl hb48 rfl ?_; clear h a; intro a h
                          refine stepQn h (j := 39) rfl rfl hb48 rfl ?_; clear h a; intro a h
                          refine stepQg h (j := 37) rfl rfl rfl (yl_pick_f h rfl hb48 rfl) rfl ?_; clear h a; intro a h
                          refine stepQ h (yl_pick_f h rfl rfl rfl) rfl ?_; clear h a; intro a h
                          refine endQ ?_; intro w hO
                          refine then_n ?_
                          refine ⟨_, ?_, h.weak (subB_cons rfl (subB_cons rfl (subB_cons rfl (subB_cons rfl (subB_cons rfl (subB_cons rfl (subB_nil))))))), hO⟩
                          first | rfl | (have ht : tidy xs = true := (by simp_all); exact decide_eq_false (by rw [hs2]; have := tidy_closed ht hpl hpos; omega))
                  · clear h hO a w
                    rintro a w ⟨b, rfl, h, hO⟩
                    refine cond_s h rfl (fun hb49 => ?_) (fun hb49 => ?_)
                    · have hp49 := hb49
                      try simp only [decide_eq_true_eq, decide_eq_false_iff_not, Bool.not_eq_true', Bool.not_eq_false', Int.not_lt, Int.not_le, ne_eq, Decidable.not_not] at hp49
                      cases hb49
                    · have hp49 := hb49
                      try simp only [decide_eq_true_eq, decide_eq_false_iff_not, Bool.not_eq_true', Bool.not_eq_false', Int.not_lt, Int.not_le, ne_eq, Decidable.not_not] at hp49
                      refine skip ?_
                      refine then_n ?_
                      refine seq ?_
                      refine region ?_
                      refine so h hO (yl_assign h rfl) rfl ?_; clear h a; intro a h
                      refine endL ?_
                      refine then_n ?_
                      refine block ?_
                      refine loop (fun (m : Nat) a w => St 369 [] [(37, .int .i64 m), (36, .int .i64 k), (3, .slice A0 xs.length c0), (12, .bool (ok xs && tidy xs)), (16, .bool bm), (24, .slice A5 (sp xs xs.length).length c5)] a ∧ OwnE w0 w (e5 :: e0 :: L)) (fun m => k - m) 0 ?_ ?_
                      · exact ⟨h.weak (subB_cons rfl (subB_cons rfl (subB_cons rfl (subB_cons rfl (subB_cons rfl (subB_cons rfl (subB_nil))))))), hO⟩
                      · clear h a hO w
                        rintro m a w ⟨h, hO⟩
                        refine seq ?_
                        refine seq ?_
                        refine region ?_
                        refine so h hO (yl_move h rfl) rfl ?_; clear h a; intro a h
                        refine so h hO (yl_move h rfl) rfl ?_; clear h a; intro a h
                        refine split h 338 rfl (fun hb50 => ?_) (fun hb50 => ?_)
                        · have hp50 := hb50
                          try simp only [decide_eq_true_eq, decide_eq_false_iff_not, Bool.not_eq_true', Bool.not_eq_false', Int.not_lt, Int.not_le, ne_eq, Decidable.not_not] at hp50
                          refine sog h hO (j := 1) rfl rfl hb50 (yl_move h rfl) rfl ?_; clear h a; intro a h
                          refine sog h hO (j := 1) rfl rfl hb50 (yl_move h rfl) rfl ?_; clear h a; intro a h
                          refine sog h hO (j := 1) rfl rfl hb50 (yl_lt h rfl rfl) rfl ?_; clear h a; intro a h
                          refine so h hO (yl_pick_t h rfl hb50 rfl) rfl ?_; clear h a; intro a h
                          refine endL ?_
                          refine then_n ?_
                          refine cond_s h rfl (fun hb51 => ?_) (fun hb51 => ?_)
                          · have hp51 := hb51
                            try simp only [decide_eq_true_eq, decide_eq_false_iff_not, Bool.not_eq_true', Bool.not_eq_false', Int.not_lt, Int.not_le, ne_eq, Decidable.not_not] at hp51
                            refine skip ?_
                            refine then_n ?_
                            refine seq ?_
                            refine block ?_
                            refine seq ?_
                            refine regionQ (C := fun w => OwnE w0 w _) (by kernel_rfl) (by kernel_rfl) hO.drew ?_
                            clear hO w
                            refine stepQ h (yl_move h rfl) rfl ?_; clear h a; intro a h
                            refine stepQ h (yl_move h rfl) rfl ?_; clear h a; intro a h
                            refine stepQ h (yl_ix h rfl rfl p41 (by assumption) (by simp) (by omega)) rfl ?_; clear h a; intro a h
                            refine stepQ h (yl_indexAddr_arr h rfl rfl p77 (by first | decide | omega)) rfl ?_; clear h a; intro a h
                            refine stepQ h (yl_ldF h rfl p1 (by assumption) (by first | assumption | exact Val.sub (by assumption) (by repeat (first | with_reducible exact List.Sublist.refl _ | with_reducible refine List.Sublist.cons_cons _ ?_ | refine List.Sublist.cons _ ?_)) | with_reducible exact Val.ext _ _ | exact Val.ent (by first | with_reducible exact mem0 | with_reducible exact memS (mem0) | with_reducible exact memS (memS (mem0)) | with_reducible exact memS (memS (memS (mem0))) | with_reducible exact memS (memS (memS (memS (mem0)))) | with_reducible exact memS (memS (memS (memS (memS (mem0))))) | with_reducible exact memS (memS (memS (memS (memS (memS (mem0)))))) | with_reducible exact memS (memS (memS (memS (memS (memS (memS (mem0))))))) | with_reducible exact memS (memS (memS (memS (memS (memS (memS (memS (mem0)))))))) | with_reducible exact memS (memS (memS (memS (memS (memS (memS (memS (memS (mem0))))))))) | with_reducible exact memS (memS (memS (memS (memS (memS (memS (memS (memS (memS (mem0)))))))))) | with_reducible exact memS (memS (memS (memS (memS (memS (memS (memS (memS (memS (memS (mem0))))))))))) | with_reducible exact memS (memS (memS (memS (memS (memS (memS (memS (memS (memS (memS (memS (mem0)))))))))))) | with_reducible exact memS (memS (memS (memS (memS (memS (memS (memS (memS (memS (memS (memS (memS (mem0))))))))))))))) (by omega) rfl) rfl ?_; clear h a; intro a h
                            refine stepQ h (yl_move h rfl) rfl ?_; clear h a; intro a h
                            refine stepQ h (yl_move h rfl) rfl ?_; clear h a; intro a h
                            refine stepQ h (yl_ix h rfl rfl p41 (by assumption) (by simp) (by omega)) rfl ?_; clear h a; intro a h
                            refine stepQ h (yl_indexAddr_arr h rfl rfl p77 (by first | decide | omega)) rfl ?_; clear h a; intro a h
                            refine stepQ h (yl_ldF h rfl p1 (by assumption) (by first | assumption | exact Val.sub (by assumption) (by repeat (first | with_reducible exact List.Sublist.refl _ | with_reducible refine List.Sublist.cons_cons _ ?_ | refine List.Sublist.cons _ ?_)) | with_reducible exact Val.ext _ _ | exact Val.ent (by first | with_reducible exact mem0 | with_reducible exact memS (mem0) | with_reducible exact memS (memS (mem0)) | with_reducible exact memS (memS (memS (mem0))) | with_reducible exact memS (memS (memS (memS (mem0)))) | with_reducible exact memS (memS (memS (memS (memS (mem0))))) | with_reducible exact memS (memS (memS (memS (memS (memS (mem0)))))) | with_reducible exact memS (memS (memS (memS (memS (memS (memS (mem0))))))) | with_reducible exact memS (memS (memS (memS (memS (memS (memS (memS (mem0)))))))) | with_reducible exact memS (memS (memS (memS (memS (memS (memS (memS (memS (mem0))))))))) | with_reducible exact memS (memS (memS (memS (memS (memS (memS (memS (memS (memS (mem0)))))))))) | with_reducible exact memS (memS (memS (memS (memS (memS (memS (memS (memS (memS (memS (mem0))))))))))) | with_reducible exact memS (memS (memS (memS (memS (memS (memS (memS (memS (memS (memS (memS (mem0)))))))))))) | with_reducible exact memS (memS (memS (memS (memS (memS (memS (memS (memS (memS (memS (memS (memS (mem0))))))))))))))) (by omega) rfl) rfl ?_; clear h a; intro a h
                            refine stepQ h (yl_lt h rfl rfl) rfl ?_; clear h a; intro a h
                            refine stepQ h (yl_move h rfl) rfl ?_; clear h a; intro a h
                            refine split h 356 rfl (fun hb52 => ?_) (fun hb52 => ?_)
                            · have hp52 := hb52
                              try simp only [decide_eq_true_eq, decide_eq_false_iff_not, Bool.not_eq_true', Bool.not_eq_false', Int.not_lt, Int.not_le, ne_eq, Decidable.not_not] at hp52
                              refine stepQg h (j := 11) rfl rfl hb52 (yl_move h rfl) rfl ?_; clear h a; intro a h
                              refine stepQg h (j := 11) rfl rfl hb52 (yl_move h rfl) rfl ?_; clear h a; intro a h
                              refine stepQg h (j := 11) rfl rfl hb52 (yl_ix h rfl rfl p41 (by assumption) (by simp) (by omega)) rfl ?_; clear h a; intro a h
                              refine stepQg h (j := 11) rfl rfl hb52 (yl_indexAddr_arr h rfl rfl p77 (by first | decide | omega)) rfl ?_; clear h a; intro a h
                              refine stepQg h (j := 11) rfl rfl hb52 (yl_ldF h rfl p1 (by assumption) (by first | assumption | exact Val.sub (by assumption) (by repeat (first | with_reducible exact List.Sublist.refl _ | with_reducible refine List.Sublist.cons_cons _ ?_ | refine List.Sublist.cons _ ?_)) | with_reducible exact Val.ext _ _ | exact Val.ent (by first | with_reducible exact mem0 | with_reducible exact memS (mem0) | with_reducible exact memS (memS (mem0)) | with_reducible exact memS (memS (memS (mem0))) | with_reducible exact memS (memS (memS (memS (mem0)))) | with_reducible exact memS (memS (memS (memS (memS (mem0))))) | with_reducible exact memS (memS (memS (memS (memS (memS (mem0)))))) | with_reducible exact memS (memS (memS (memS (memS (memS (memS (mem0))))))) | with_reducible exact memS (memS (memS (memS (memS (memS (memS (memS (mem0)))))))) | with_reducible exact memS (memS (memS (memS (memS (memS (memS (memS (memS (mem0))))))))) | with_reducible exact memS (memS (memS (memS (memS (memS (memS (memS (memS (memS (mem0)))))))))) | with_reducible exact memS (memS (memS (memS (memS (memS (memS (memS (memS (memS (memS (mem0))))))))))) | with_reducible exact memS (memS (memS (memS (memS (memS (memS (memS (memS (memS (memS (memS (mem0)))))))))))) | with_reducible exact memS (memS (memS (memS (memS (memS (memS (memS (memS (memS (memS (memS (memS (mem0))))))))))))))) (by omega) rfl) rfl ?_; clear h a; intro a h
                              refine stepQg h (j := 11) rfl rfl hb52 (yl_move h rfl) rfl ?_; clear h a; intro a h
                              refine stepQg h (j := 11) rfl rfl hb52 (yl_move h rfl) rfl ?_; clear h a; intro a h
                              refine stepQg h (j := 11) rfl rfl hb52 (yl_ix h rfl rfl p41 (by assumption) (by simp) (by omega)) rfl ?_; clear h a; intro a h
                              refine stepQg h (j := 11) rfl rfl hb52 (yl_indexAddr_arr h rfl rfl p77 (by first | decide | omega)) rfl ?_; clear h a; intro a h
                              refine stepQg h (j := 11) rfl rfl hb52 (yl_ldF h rfl p1 (by assumption) (by first | assumption | exact Val.sub (by assumption) (by repeat (first | with_reducible exact List.Sublist.refl _ | with_reducible refine List.Sublist.cons_cons _ ?_ | refine List.Sublist.cons _ ?_)) | with_reducible exact Val.ext _ _ | exact Val.ent (by first | with_reducible exact mem0 | with_reducible exact memS (mem0) | with_reducible exact memS (memS (mem0)) | with_reducible exact memS (memS (memS (mem0))) | with_reducible exact memS (memS (memS (memS (mem0)))) | with_reducible exact memS (memS (memS (memS (memS (mem0))))) | with_reducible exact memS (memS (memS (memS (memS (memS (mem0)))))) | with_reducible exact memS (memS (memS (memS (memS (memS (memS (mem0))))))) | with_reducible exact memS (memS (memS (memS (memS (memS (memS (memS (mem0)))))))) | with_reducible exact memS (memS (memS (memS (memS (memS (memS (memS (memS (mem0))))))))) | with_reducible exact memS (memS (memS (memS (memS (memS (memS (memS (memS (memS (mem0)))))))))) | with_reducible exact memS (memS (memS (memS (memS (memS (memS (memS (memS (memS (memS (mem0))))))))))) | with_reducible exact memS (memS (memS (memS (memS (memS (memS (memS (memS (memS (memS (memS (mem0)))))))))))) | with_reducible exact memS (memS (memS (memS (memS (memS (memS (memS (memS (memS (memS (memS (memS (mem0))))))))))))))) (by omega) rfl) rfl ?_; clear h a; intro a h
                              refine stepQg h (j := 11) rfl rfl hb52 (yl_gt h rfl rfl) rfl ?_; clear h a; intro a h
                              refine stepQ h (yl_pick_t h rfl hb52 rfl) rfl ?_; clear h a; intro a h
                              refine endQ ?_; intro w hO
                              refine then_n ?_
                              refine cond_s h rfl (fun hb53 => ?_) (fun hb53 => ?_)
                              · have hp53 := hb53
                                try simp only [decide_eq_true_eq, decide_eq_false_iff_not, Bool.not_eq_true', Bool.not_eq_false', Int.not_lt, Int.not_le, ne_eq, Decidable.not_not] at hp53
                                exfalso
                                have hk1 : k < (sp xs xs.length).length := by omega
                                have hm1 : m < (sp xs xs.length).length := by omega
                                obtain ⟨q, hql, hsq, hqpos⟩ := sp_mem (getD_mem (xs := sp xs xs.length) (k := (k : Int).toNat) (by omega))
                                obtain ⟨p2, hpl2, hsp2, hppos2⟩ := sp_mem (getD_mem (xs := sp xs xs.length) (k := (m : Int).toNat) (by omega))
                                have hso := sp_sorted (xs := xs) (K := xs.length) (m := (m : Int).toNat) (k := (k : Int).toNat) (by omega) (by omega)
                                have h2 := of_decide_eq_true hb53
                                have h1 : ((sp xs xs.length).getD (k : Int).toNat default).1 < ((sp xs xs.length).getD (m : Int).toNat default).2 := by assumption
                                rw [hsq, hsp2] at hso h1 h2
                                have hbt := hbm.1 (by assumption)
                                obtain ⟨c9, hc9, hcc1, hcc2, hcc3, hcc4⟩ := nxt_spec (tidy_closed hbt.2.2 hpl2 hppos2)
                                obtain ⟨d9, hd9, hdd1, hdd2, hdd3, hdd4⟩ := nxt_spec (tidy_closed hbt.2.2 hql hqpos)
                                simp only [hc9, hd9] at h1 h2 hso
                                have := no_cross (d := d9) hbt.2.2 hbt.2.1 hppos2 hqpos (by omega) (by omega) hcc2 hcc3 hcc4 hdd4
                                omega
                              · have hp53 := hb53
                                try simp only [decide_eq_true_eq, decide_eq_false_iff_not, Bool.not_eq_true', Bool.not_eq_false', Int.not_lt, Int.not_le, ne_eq, Decidable.not_not] at hp53
                                refine skip ?_
                                refine inB_n ?_
                                refine then_n ?_
                                refine region ?_
                                refine so h hO (yl_move h rfl) rfl ?_; clear h a; intro a h
                                first | (refine so h hO (yl_add64 h rfl rfl (by omega)) rfl ?_) | (refine so h hO (yl_add h rfl rfl) rfl ?_)
                                clear h a; intro a h
                                refine so h hO (yl_assign h rfl) rfl ?_; clear h a; intro a h
                                refine endL ?_
                                refine then_n ?_
                                exact ⟨m + 1, by omega, h.weak (subB_cons rfl (subB_cons rfl (subB_cons rfl (subB_cons rfl (subB_cons rfl (subB_cons rfl (subB_nil))))))), hO⟩
                            · have hp52 := hb52
                              try simp only [decide_eq_true_eq, decide_eq_false_iff_not, Bool.not_eq_true', Bool.not_eq_false', Int.not_lt, Int.not_le, ne_eq, Decidable.not_not] at hp52
                              refine stepQn h (j := 11) rfl rfl hb52 rfl ?_; clear h a; intro a h
                              refine stepQn h (j := 11) rfl rfl hb52 rfl ?_; clear h a; intro a h
                              refine stepQn h (j := 11) rfl rfl hb52 rfl ?_; clear h a; intro a h
                              refine stepQn h (j := 11) rfl rfl hb52 rfl ?_; clear h a; intro a h
                              refine stepQn h (j := 11) rfl rfl hb52 rfl ?_; clear h a; intro a h
                              refine stepQn h (j := 11) rfl rfl hb52 rfl ?_; clear h a; intro a h
                              refine stepQn h (j := 11) rfl rfl hb52 rfl ?_; clear h a; intro a h
                              refine stepQn h (j := 11) rfl rfl hb52 rfl ?_; clear h a; intro a h
                              refine stepQn h (j := 11) rfl rfl hb52 rfl ?_; clear h a; intro a h
                              refine stepQn h (j := 11) rfl rfl hb52 rfl ?_; clear h a; intro a h
                              refine stepQn h (j := 11) rfl rfl hb52 rfl ?_; clear h a; intro a h
                              refine stepQ h (yl_pick_f h rfl hb52 rfl) rfl ?_; clear h a; intro a h
                              refine endQ ?_; intro w hO
                              refine then_n ?_
                              refine cond_f h rfl rfl ?_
                              refine skip ?_
                              refine inB_n ?_
                              refine then_n ?_
                              refine region ?_
                              refine so h hO (yl_move h rfl) rfl ?_; clear h a; intro a h
                              first | (refine so h hO (yl_add64 h rfl rfl (by omega)) rfl ?_) | (refine so h hO (yl_add h rfl rfl) rfl ?_)
                              clear h a; intro a h
                              refine so h hO (yl_assign h rfl) rfl ?_; clear h a; intro a h
                              refine endL ?_
                              refine then_n ?_
                              exact ⟨m + 1, by omega, h.weak (subB_cons rfl (subB_cons rfl (subB_cons rfl (subB_cons rfl (subB_cons rfl (subB_cons rfl (subB_nil))))))), hO⟩
                          · have hp51 := hb51
                            try simp only [decide_eq_true_eq, decide_eq_false_iff_not, Bool.not_eq_true', Bool.not_eq_false', Int.not_lt, Int.not_le, ne_eq, Decidable.not_not] at hp51
                            refine exit_ ?_
                            refine then_x ?_
                            refine then_x ?_
                            refine inB_same ?_
                            refine inB_n ?_
                            refine then_n ?_
                            refine region ?_
                            refine so h hO (yl_move h rfl) rfl ?_; clear h a; intro a h
                            first | (refine so h hO (yl_add64 h rfl rfl (by omega)) rfl ?_) | (refine so h hO (yl_add h rfl rfl) rfl ?_)
                            clear h a; intro a h
                            refine so h hO (yl_assign h rfl) rfl ?_; clear h a; intro a h
                            refine endL ?_
                            refine then_n ?_
                            refine ⟨k + 1, by omega, by omega, ?_, hO⟩
                            rw [if_pos hok]
                            exact h.weak (subB_cons rfl (subB_cons rfl (subB_cons rfl (subB_cons rfl (subB_cons rfl (subB_nil))))))
                        · have hp50 := hb50
                          try simp only [decide_eq_true_eq, decide_eq_false_iff_not, Bool.not_eq_true', Bool.not_eq_false', Int.not_lt, Int.not_le, ne_eq, Decidable.not_not] at hp50
                          refine son h (j := 1) rfl rfl hb50 rfl ?_; clear h a; intro a h
                          refine son h (j := 1) rfl rfl hb50 rfl ?_; clear h a; intro a h
                          refine son h (j := 1) rfl rfl hb50 rfl ?_; clear h a; intro a h
                          refine so h hO (yl_pick_f h rfl hb50 rfl) rfl ?_; clear h a; intro a h
                          refine endL ?_
                          refine then_n ?_
                          refine cond_f h rfl rfl ?_
                          refine exit_ ?_
                          refine then_x ?_
                          refine then_x ?_
                          refine inB_same ?_
                          refine inB_n ?_
                          refine then_n ?_
                          refine region ?_
                          refine so h hO (yl_move h rfl) rfl ?_; clear h a; intro a h
                          first | (refine so h hO (yl_add64 h rfl rfl (by omega)) rfl ?_) | (refine so h hO (yl_add h rfl rfl) rfl ?_)
                          clear h a; intro a h
                          refine so h hO (yl_assign h rfl) rfl ?_; clear h a; intro a h
                          refine endL ?_
                          refine then_n ?_
                          refine ⟨k + 1, by omega, by omega, ?_, hO⟩
                          rw [if_pos hok]
                          exact h.weak (subB_cons rfl (subB_cons rfl (subB_cons rfl (subB_cons rfl (subB_cons rfl (subB_nil))))))
                · have hp43 := hb43
                  try simp only [decide_eq_true_eq, decide_eq_false_iff_not, Bool.not_eq_true', Bool.not_eq_false', Int.not_lt, Int.not_le, ne_eq, Decidable.not_not] at hp43
                  refine exit_ ?_
                  refine then_x ?_
                  refine then_x ?_
                  refine inB_same ?_
                  refine then_n ?_
                  refine seq ?_
                  refine region ?_
                  refine so h hO (yl_assign h rfl) rfl ?_; clear h a; intro a h
                  refine endL ?_
                  refine then_n ?_
                  refine retc ?_
                  refine ret1 h hO Try.results3 (.tmp rfl .nil) ?_
                  refine Ret.mk ?_
                  exact ⟨rfl, (by exact hO.sub (by repeat (first | with_reducible exact List.Sublist.refl _ | with_reducible refine List.Sublist.cons_cons _ ?_ | refine List.Sublist.cons _ ?_)))⟩
end Go.Proofs.Ytebfglbnemahiaa
