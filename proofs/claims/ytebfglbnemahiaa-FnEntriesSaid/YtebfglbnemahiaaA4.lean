import Derived.Test.YtebfglbnemahiaaProg
import Derived.Test.YtebfglbnemahiaaA3
namespace Go.Proofs.Ytebfglbnemahiaa
open Go.RowKit Go.E Go.Ents
set_option linter.unusedVariables false
set_option linter.unusedSimpArgs false
theorem p47 : aggB Try.prog 37 2 = true := by kernel_rfl
theorem p48 : intArrB Try.prog 37 2 = true := by kernel_rfl
set_option maxHeartbeats 4000000 in
theorem SpansOf_i (xs : List Int) {v : Value} {H : Nat → Obj → Prop} {w0 w : World} {L : List Ent} (hO : OwnE w0 w L) (hv : Rd I 1 H xs v) (hH : Val w0 L H) : Calls Try.prog 16 ⟨[v]⟩ w (Ret (fun v w => ∃ v1 e, v = .tuple ⟨[v1, .bool (ok xs)]⟩ ∧ Rd encP 2 (inE e) (if ok xs then sp xs xs.length else []) v1 ∧ OwnE w0 w (e :: L))) := by
  refine enter Try.func16 rfl Try.ntmps16 rfl ?_
  intro a h
  have hv0 := hv
  obtain ⟨A, c, rfl, hc, hr⟩ := hv
  refine seq ?_
  refine region ?_
  refine so h hO (yl_assign h rfl) rfl ?_; clear h a; intro a h
  refine so h hO (yl_assign h rfl) rfl ?_; clear h a; intro a h
  refine endL ?_
  refine then_n ?_
  refine seq ?_
  refine seq ?_
  refine region ?_
  refine so h hO (yl_move h rfl) rfl ?_; clear h a; intro a h
  refine callR h rfl rfl p37 (areEntries_spec _ hO (by assumption) (by first | assumption | exact Val.sub (by assumption) (by repeat (first | with_reducible exact List.Sublist.refl _ | with_reducible refine List.Sublist.cons_cons _ ?_ | refine List.Sublist.cons _ ?_)) | with_reducible exact Val.ext _ _ | exact Val.ent (by first | with_reducible exact mem0 | with_reducible exact memS (mem0) | with_reducible exact memS (memS (mem0)) | with_reducible exact memS (memS (memS (mem0))) | with_reducible exact memS (memS (memS (memS (mem0)))) | with_reducible exact memS (memS (memS (memS (memS (mem0))))) | with_reducible exact memS (memS (memS (memS (memS (memS (mem0)))))) | with_reducible exact memS (memS (memS (memS (memS (memS (memS (mem0))))))) | with_reducible exact memS (memS (memS (memS (memS (memS (memS (memS (mem0)))))))) | with_reducible exact memS (memS (memS (memS (memS (memS (memS (memS (memS (mem0))))))))) | with_reducible exact memS (memS (memS (memS (memS (memS (memS (memS (memS (memS (mem0)))))))))) | with_reducible exact memS (memS (memS (memS (memS (memS (memS (memS (memS (memS (memS (mem0))))))))))) | with_reducible exact memS (memS (memS (memS (memS (memS (memS (memS (memS (memS (memS (memS (mem0)))))))))))) | with_reducible exact memS (memS (memS (memS (memS (memS (memS (memS (memS (memS (memS (memS (memS (mem0)))))))))))))))) rfl ?_; clear h a hO w
  rintro _ w ⟨rfl, hO⟩ a h
  refine so h hO (yl_not h rfl) rfl ?_; clear h a; intro a h
  refine endL ?_
  refine then_n ?_
  refine cond_s h rfl (fun hb1 => ?_) (fun hb1 => ?_)
  · have hp1 := hb1
    try simp only [decide_eq_true_eq, decide_eq_false_iff_not, Bool.not_eq_true', Bool.not_eq_false', Int.not_lt, Int.not_le, ne_eq, Decidable.not_not] at hp1
    refine seq ?_
    refine region ?_
    refine so h hO (yl_assign h rfl) rfl ?_; clear h a; intro a h
    refine so h hO (yl_assign h rfl) rfl ?_; clear h a; intro a h
    refine endL ?_
    refine then_n ?_
    refine retc ?_
    refine then_r (ret2 h hO Try.results16 (.tmp rfl (.tmp rfl .nil)) ?_)
    refine Ret.mk ?_
    have hok : ok xs = false := by simpa using hb1
    rw [hok]
    exact ⟨_, [], rfl, Rd.nil _ _ _ _ (by decide), hO.nilE⟩
  · have hp1 := hb1
    try simp only [decide_eq_true_eq, decide_eq_false_iff_not, Bool.not_eq_true', Bool.not_eq_false', Int.not_lt, Int.not_le, ne_eq, Decidable.not_not] at hp1
    refine skip ?_
    refine then_n ?_
    refine seq ?_
    refine region ?_
    have hok : ok xs = true := by simpa using hb1
    have hsm := (ok_spec hok).2
    have hb := (ok_spec hok).1
    refine stepBuildAll (us := []) h hO rfl p41 rfl p42 rfl rfl rfl rfl rfl ?_; clear h hO a w; intro a b11 w h hO
    refine so h hO (yl_assign h rfl) rfl ?_; clear h a; intro a h
    refine endL ?_
    refine then_n ?_
    refine seq ?_
    refine seq ?_
    refine region ?_
    refine so h hO (yl_move h rfl) rfl ?_; clear h a; intro a h
    refine so h hO (yl_len h rfl p0) rfl ?_; clear h a; intro a h
    refine so h hO (yl_move h rfl) rfl ?_; clear h a; intro a h
    refine endL ?_
    refine then_n ?_
    refine block ?_
    refine loop (fun (k : Nat) a w => ∃ (u : Value) (e : Ent), k ≤ xs.length ∧ (Mu encP 37 2 (sp xs k) u e) ∧ St 40 [] [(0, .slice A xs.length c), (12, .slice A xs.length c), (13, .int .i64 xs.length), (14, .int .i64 k), (4, u)] a ∧ OwnE w0 w (e :: L)) (fun k => xs.length - k) 0 ?_ ?_
    · exact ⟨_, _, Nat.zero_le _, Mu.nil' _ _ _ _, h.weak (subB_cons rfl (subB_cons rfl (subB_cons rfl (subB_cons rfl (subB_cons rfl (subB_nil)))))), hO⟩
    · clear h a hO w
      rintro k a w ⟨u, e, hk, hM, h, hO⟩
      obtain ⟨A1, c1, rfl, hc1⟩ := hM.form
      have hl1 := sp_len xs k
      refine seq ?_
      refine region ?_
      refine so h hO (yl_lt h rfl rfl) rfl ?_; clear h a; intro a h
      refine endL ?_
      refine then_n ?_
      refine seq ?_
      refine cond_s h rfl (fun hb2 => ?_) (fun hb2 => ?_)
      · have hp2 := hb2
        try simp only [decide_eq_true_eq, decide_eq_false_iff_not, Bool.not_eq_true', Bool.not_eq_false', Int.not_lt, Int.not_le, ne_eq, Decidable.not_not] at hp2
        refine skip ?_
        refine then_n ?_
        refine seq ?_
        refine block ?_
        refine seq ?_
        refine region ?_
        have hx := hsm _ (getD_mem (xs := xs) (k := k) (by omega))
        rw [show k = ((k : Int)).toNat by simp] at hx
        refine so h hO (yl_move h rfl) rfl ?_; clear h a; intro a h
        refine so h hO (yl_ix h rfl rfl p0 (by assumption) (by simp) (by omega)) rfl ?_; clear h a; intro a h
        refine so h hO (yl_ld1 h rfl p1 (by assumption) (by first | assumption | exact Val.sub (by assumption) (by repeat (first | with_reducible exact List.Sublist.refl _ | with_reducible refine List.Sublist.cons_cons _ ?_ | refine List.Sublist.cons _ ?_)) | with_reducible exact Val.ext _ _ | exact Val.ent (by first | with_reducible exact mem0 | with_reducible exact memS (mem0) | with_reducible exact memS (memS (mem0)) | with_reducible exact memS (memS (memS (mem0))) | with_reducible exact memS (memS (memS (memS (mem0)))) | with_reducible exact memS (memS (memS (memS (memS (mem0))))) | with_reducible exact memS (memS (memS (memS (memS (memS (mem0)))))) | with_reducible exact memS (memS (memS (memS (memS (memS (memS (mem0))))))) | with_reducible exact memS (memS (memS (memS (memS (memS (memS (memS (mem0)))))))) | with_reducible exact memS (memS (memS (memS (memS (memS (memS (memS (memS (mem0))))))))) | with_reducible exact memS (memS (memS (memS (memS (memS (memS (memS (memS (memS (mem0)))))))))) | with_reducible exact memS (memS (memS (memS (memS (memS (memS (memS (memS (memS (memS (mem0))))))))))) | with_reducible exact memS (memS (memS (memS (memS (memS (memS (memS (memS (memS (memS (memS (mem0)))))))))))) | with_reducible exact memS (memS (memS (memS (memS (memS (memS (memS (memS (memS (memS (memS (memS (mem0))))))))))))))) (by omega) (fun _ => rfl)) rfl ?_; clear h a; intro a h
        refine so h hO (yl_assign h rfl) rfl ?_; clear h a; intro a h
        refine so h hO (yl_assign h rfl) rfl ?_; clear h a; intro a h
        refine endL ?_
        refine then_n ?_
        refine seq ?_
        refine seq ?_
        refine region ?_
        refine so h hO (yl_move h rfl) rfl ?_; clear h a; intro a h
        refine so h hO (yl_le h rfl rfl) rfl ?_; clear h a; intro a h
        refine endL ?_
        refine then_n ?_
        refine cond_s h rfl (fun hb3 => ?_) (fun hb3 => ?_)
        · have hp3 := hb3
          try simp only [decide_eq_true_eq, decide_eq_false_iff_not, Bool.not_eq_true', Bool.not_eq_false', Int.not_lt, Int.not_le, ne_eq, Decidable.not_not] at hp3
          refine exit_ ?_
          refine then_x ?_
          refine inB_same ?_
          refine then_n ?_
          refine region ?_
          first | (refine so h hO (yl_add64 h rfl rfl (by omega)) rfl ?_) | (refine so h hO (yl_add h rfl rfl) rfl ?_)
          clear h a; intro a h
          refine so h hO (yl_move h rfl) rfl ?_; clear h a; intro a h
          refine endL ?_
          refine then_n ?_
          have hk1 : k < xs.length := by omega
          try simp only [Int.toNat_natCast] at *
          exact ⟨k + 1, by omega, _, _, by omega, (by show Mu _ _ _ (sp xs k ++ _) _ _; rw [if_neg (by omega), List.append_nil]; exact hM), h.weak (subB_cons rfl (subB_cons rfl (subB_cons rfl (subB_cons rfl (subB_cons rfl (subB_nil)))))), (by exact hO)⟩
        · have hp3 := hb3
          try simp only [decide_eq_true_eq, decide_eq_false_iff_not, Bool.not_eq_true', Bool.not_eq_false', Int.not_lt, Int.not_le, ne_eq, Decidable.not_not] at hp3
          refine skip ?_
          refine then_n ?_
          refine seq ?_
          refine region ?_
          refine so h hO (yl_move h rfl) rfl ?_; clear h a; intro a h
          refine so h hO (yl_move h rfl) rfl ?_; clear h a; intro a h
          refine so h hO (yl_sliceLo h rfl rfl p0 (by omega)) rfl ?_; clear h a; intro a h
          refine so h hO (yl_move h rfl) rfl ?_; clear h a; intro a h
          first | (refine so h hO (yl_neg64 h rfl (by omega)) rfl ?_) | (refine so h hO (yl_neg h rfl) rfl ?_)
          clear h a; intro a h
          refine callR h rfl rfl p2 (Index_spec (-(xs.getD (k : Int).toNat default)) (xs.drop k) hO (Rd.cutLo hv0 k (by omega)) (by first | assumption | exact Val.sub (by assumption) (by repeat (first | with_reducible exact List.Sublist.refl _ | with_reducible refine List.Sublist.cons_cons _ ?_ | refine List.Sublist.cons _ ?_)) | with_reducible exact Val.ext _ _ | exact Val.ent (by first | with_reducible exact mem0 | with_reducible exact memS (mem0) | with_reducible exact memS (memS (mem0)) | with_reducible exact memS (memS (memS (mem0))) | with_reducible exact memS (memS (memS (memS (mem0)))) | with_reducible exact memS (memS (memS (memS (memS (mem0))))) | with_reducible exact memS (memS (memS (memS (memS (memS (mem0)))))) | with_reducible exact memS (memS (memS (memS (memS (memS (memS (mem0))))))) | with_reducible exact memS (memS (memS (memS (memS (memS (memS (memS (mem0)))))))) | with_reducible exact memS (memS (memS (memS (memS (memS (memS (memS (memS (mem0))))))))) | with_reducible exact memS (memS (memS (memS (memS (memS (memS (memS (memS (memS (mem0)))))))))) | with_reducible exact memS (memS (memS (memS (memS (memS (memS (memS (memS (memS (memS (mem0))))))))))) | with_reducible exact memS (memS (memS (memS (memS (memS (memS (memS (memS (memS (memS (memS (mem0)))))))))))) | with_reducible exact memS (memS (memS (memS (memS (memS (memS (memS (memS (memS (memS (memS (memS (mem0)))))))))))))))) rfl ?_; clear h a hO w
          rintro _ w ⟨rfl, hO⟩ a h
          have hbd := idx_bd (xs.drop k) (-(xs.getD (k : Int).toNat default))
          rw [List.length_drop] at hbd
          refine so h hO (yl_assign h rfl) rfl ?_; clear h a; intro a h
          refine endL ?_
          refine then_n ?_
          refine seq ?_
          refine seq ?_
          refine region ?_
          refine so h hO (yl_move h rfl) rfl ?_; clear h a; intro a h
          refine so h hO (yl_ge h rfl rfl) rfl ?_; clear h a; intro a h
          refine endL ?_
          refine then_n ?_
          refine cond_s h rfl (fun hb4 => ?_) (fun hb4 => ?_)
          · have hp4 := hb4
            try simp only [decide_eq_true_eq, decide_eq_false_iff_not, Bool.not_eq_true', Bool.not_eq_false', Int.not_lt, Int.not_le, ne_eq, Decidable.not_not] at hp4
            refine region ?_
            refine so h hO (yl_move h rfl) rfl ?_; clear h a; intro a h
            refine so h hO (yl_move h rfl) rfl ?_; clear h a; intro a h
            first | (refine so h hO (yl_add64 h rfl rfl (by omega)) rfl ?_) | (refine so h hO (yl_add h rfl rfl) rfl ?_)
            clear h a; intro a h
            refine so h hO (yl_assign h rfl) rfl ?_; clear h a; intro a h
            refine endL ?_
            refine then_n ?_
            refine region ?_
            refine so h hO (yl_move h rfl) rfl ?_; clear h a; intro a h
            refine so h hO (yl_move h rfl) rfl ?_; clear h a; intro a h
            refine so h hO (yl_move h rfl) rfl ?_; clear h a; intro a h
            refine so h hO (yl_build h rfl ⟨_, p42, .inr ⟨2, 3, 1, p44, sizeB_spec p13, rfl⟩⟩) rfl ?_; clear h a; intro a h
            refine stepBuildAll (us := [_]) h hO rfl p41 rfl p42 rfl rfl rfl rfl rfl ?_; clear h hO a w; intro a b36 w h hO
            refine stepApp (enc := encP) (u := (_, _)) h hO rfl rfl p45 rfl (by assumption) (by first | with_reducible exact mem0 | with_reducible exact memS (mem0) | with_reducible exact memS (memS (mem0)) | with_reducible exact memS (memS (memS (mem0))) | with_reducible exact memS (memS (memS (memS (mem0)))) | with_reducible exact memS (memS (memS (memS (memS (mem0))))) | with_reducible exact memS (memS (memS (memS (memS (memS (mem0)))))) | with_reducible exact memS (memS (memS (memS (memS (memS (memS (mem0))))))) | with_reducible exact memS (memS (memS (memS (memS (memS (memS (memS (mem0)))))))) | with_reducible exact memS (memS (memS (memS (memS (memS (memS (memS (memS (mem0))))))))) | with_reducible exact memS (memS (memS (memS (memS (memS (memS (memS (memS (memS (mem0)))))))))) | with_reducible exact memS (memS (memS (memS (memS (memS (memS (memS (memS (memS (memS (mem0))))))))))) | with_reducible exact memS (memS (memS (memS (memS (memS (memS (memS (memS (memS (memS (memS (mem0)))))))))))) | with_reducible exact memS (memS (memS (memS (memS (memS (memS (memS (memS (memS (memS (memS (memS (mem0)))))))))))))) (by rfl) (by rfl) (by rfl) (by (try simp); omega) (by intro e_; first | with_reducible exact .here | with_reducible exact .there (.here) | with_reducible exact .there (.there (.here)) | with_reducible exact .there (.there (.there (.here))) | with_reducible exact .there (.there (.there (.there (.here)))) | with_reducible exact .there (.there (.there (.there (.there (.here))))) | with_reducible exact .there (.there (.there (.there (.there (.there (.here)))))) | with_reducible exact .there (.there (.there (.there (.there (.there (.there (.here))))))) | with_reducible exact .there (.there (.there (.there (.there (.there (.there (.there (.here)))))))) | with_reducible exact .there (.there (.there (.there (.there (.there (.there (.there (.there (.here))))))))) | with_reducible exact .there (.there (.there (.there (.there (.there (.there (.there (.there (.there (.here)))))))))) | with_reducible exact .there (.there (.there (.there (.there (.there (.there (.there (.there (.there (.there (.here))))))))))) | with_reducible exact .there (.there (.there (.there (.there (.there (.there (.there (.there (.there (.there (.there (.here)))))))))))) | with_reducible exact .there (.there (.there (.there (.there (.there (.there (.there (.there (.there (.there (.there (.there (.here)))))))))))))) rfl ?_
            clear h hO a w; intro a v37 e37 w h hM37 hO
            obtain ⟨A37, c37, rfl, hc37⟩ := hM37.form
            have hr37 := hM37.rr
            refine so h hO (yl_assign h rfl) rfl ?_; clear h a; intro a h
            refine endL ?_
            refine inB_n ?_
            refine then_n ?_
            refine region ?_
            first | (refine so h hO (yl_add64 h rfl rfl (by omega)) rfl ?_) | (refine so h hO (yl_add h rfl rfl) rfl ?_)
            clear h a; intro a h
            refine so h hO (yl_move h rfl) rfl ?_; clear h a; intro a h
            refine endL ?_
            refine then_n ?_
            have hk1 : k < xs.length := by omega
            try simp only [Int.toNat_natCast] at *
            exact ⟨k + 1, by omega, _, _, by omega, (by show Mu _ _ _ (sp xs k ++ _) _ _; rw [if_pos (by omega), ← nxt_eq hk1 (by omega), if_pos hp4]; exact hM37), h.weak (subB_cons rfl (subB_cons rfl (subB_cons rfl (subB_cons rfl (subB_cons rfl (subB_nil)))))), (by exact hO.sub (by repeat (first | with_reducible exact List.Sublist.refl _ | with_reducible refine List.Sublist.cons_cons _ ?_ | refine List.Sublist.cons _ ?_)))⟩
          · have hp4 := hb4
            try simp only [decide_eq_true_eq, decide_eq_false_iff_not, Bool.not_eq_true', Bool.not_eq_false', Int.not_lt, Int.not_le, ne_eq, Decidable.not_not] at hp4
            refine skip ?_
            refine then_n ?_
            refine region ?_
            refine so h hO (yl_move h rfl) rfl ?_; clear h a; intro a h
            refine so h hO (yl_move h rfl) rfl ?_; clear h a; intro a h
            refine so h hO (yl_move h rfl) rfl ?_; clear h a; intro a h
            refine so h hO (yl_build h rfl ⟨_, p42, .inr ⟨2, 3, 1, p44, sizeB_spec p13, rfl⟩⟩) rfl ?_; clear h a; intro a h
            refine stepBuildAll (us := [_]) h hO rfl p41 rfl p42 rfl rfl rfl rfl rfl ?_; clear h hO a w; intro a b36 w h hO
            refine stepApp (enc := encP) (u := (_, _)) h hO rfl rfl p45 rfl (by assumption) (by first | with_reducible exact mem0 | with_reducible exact memS (mem0) | with_reducible exact memS (memS (mem0)) | with_reducible exact memS (memS (memS (mem0))) | with_reducible exact memS (memS (memS (memS (mem0)))) | with_reducible exact memS (memS (memS (memS (memS (mem0))))) | with_reducible exact memS (memS (memS (memS (memS (memS (mem0)))))) | with_reducible exact memS (memS (memS (memS (memS (memS (memS (mem0))))))) | with_reducible exact memS (memS (memS (memS (memS (memS (memS (memS (mem0)))))))) | with_reducible exact memS (memS (memS (memS (memS (memS (memS (memS (memS (mem0))))))))) | with_reducible exact memS (memS (memS (memS (memS (memS (memS (memS (memS (memS (mem0)))))))))) | with_reducible exact memS (memS (memS (memS (memS (memS (memS (memS (memS (memS (memS (mem0))))))))))) | with_reducible exact memS (memS (memS (memS (memS (memS (memS (memS (memS (memS (memS (memS (mem0)))))))))))) | with_reducible exact memS (memS (memS (memS (memS (memS (memS (memS (memS (memS (memS (memS (memS (mem0)))))))))))))) (by rfl) (by rfl) (by rfl) (by (try simp); omega) (by intro e_; first | with_reducible exact .here | with_reducible exact .there (.here) | with_reducible exact .there (.there (.here)) | with_reducible exact .there (.there (.there (.here))) | with_reducible exact .there (.there (.there (.there (.here)))) | with_reducible exact .there (.there (.there (.there (.there (.here))))) | with_reducible exact .there (.there (.there (.there (.there (.there (.here)))))) | with_reducible exact .there (.there (.there (.there (.there (.there (.there (.here))))))) | with_reducible exact .there (.there (.there (.there (.there (.there (.there (.there (.here)))))))) | with_reducible exact .there (.there (.there (.there (.there (.there (.there (.there (.there (.here))))))))) | with_reducible exact .there (.there (.there (.there (.there (.there (.there (.there (.there (.there (.here)))))))))) | with_reducible exact .there (.there (.there (.there (.there (.there (.there (.there (.there (.there (.there (.here))))))))))) | with_reducible exact .there (.there (.there (.there (.there (.there (.there (.there (.there (.there (.there (.there (.here)))))))))))) | with_reducible exact .there (.there (.there (.there (.there (.there (.there (.there (.there (.there (.there (.there (.there (.here)))))))))))))) rfl ?_
            clear h hO a w; intro a v37 e37 w h hM37 hO
            obtain ⟨A37, c37, rfl, hc37⟩ := hM37.form
            have hr37 := hM37.rr
            refine so h hO (yl_assign h rfl) rfl ?_; clear h a; intro a h
            refine endL ?_
            refine inB_n ?_
            refine then_n ?_
            refine region ?_
            first | (refine so h hO (yl_add64 h rfl rfl (by omega)) rfl ?_) | (refine so h hO (yl_add h rfl rfl) rfl ?_)
            clear h a; intro a h
            refine so h hO (yl_move h rfl) rfl ?_; clear h a; intro a h
            refine endL ?_
            refine then_n ?_
            have hk1 : k < xs.length := by omega
            try simp only [Int.toNat_natCast] at *
            exact ⟨k + 1, by omega, _, _, by omega, (by show Mu _ _ _ (sp xs k ++ _) _ _; rw [if_pos (by omega), ← nxt_eq hk1 (by omega), if_neg (by omega)]; exact hM37), h.weak (subB_cons rfl (subB_cons rfl (subB_cons rfl (subB_cons rfl (subB_cons rfl (subB_nil)))))), (by exact hO.sub (by repeat (first | with_reducible exact List.Sublist.refl _ | with_reducible refine List.Sublist.cons_cons _ ?_ | refine List.Sublist.cons _ ?_)))⟩
      · have hp2 := hb2
        try simp only [decide_eq_true_eq, decide_eq_false_iff_not, Bool.not_eq_true', Bool.not_eq_false', Int.not_lt, Int.not_le, ne_eq, Decidable.not_not] at hp2
        refine exit_ ?_
        refine then_x ?_
        refine then_x ?_
        refine inB_same ?_
        refine then_n ?_
        refine seq ?_
        refine region ?_
        refine so h hO (yl_move h rfl) rfl ?_; clear h a; intro a h
        refine so h hO (yl_assign h rfl) rfl ?_; clear h a; intro a h
        refine so h hO (yl_assign h rfl) rfl ?_; clear h a; intro a h
        refine endL ?_
        refine then_n ?_
        refine retc ?_
        refine ret2 h hO Try.results16 (.tmp rfl (.tmp rfl .nil)) ?_
        refine Ret.mk ?_
        have hk1 : k = xs.length := by omega
        subst hk1
        rw [hok]
        exact ⟨_, _, rfl, hM.rd, (by exact hO.sub (by repeat (first | with_reducible exact List.Sublist.refl _ | with_reducible refine List.Sublist.cons_cons _ ?_ | refine List.Sublist.cons _ ?_)))⟩
set_option maxHeartbeats 4000000 in
theorem MendEntries_s (xs : List Int) {v : Value} {H : Nat → Obj → Prop} {w0 w : World} {L : List Ent} (hO : OwnE w0 w L) (hv : Rd I 1 H xs v) (hH : Val w0 L H) : Calls Try.prog 19 ⟨[v]⟩ w (Ret (fun v w => ∃ v1 e, v = .tuple ⟨[v1, .bool (ok xs && decide ((mend xs).length ≤ 60))]⟩ ∧ Rd I 1 (inE e) (if (ok xs && decide ((mend xs).length ≤ 60)) then mend xs else []) v1 ∧ OwnE w0 w (e :: L))) := by
  refine enter Try.func19 rfl Try.ntmps19 rfl ?_
  intro a h
  have hv0 := hv
  obtain ⟨A, c, rfl, hc, hr⟩ := hv
  refine seq ?_
  refine region ?_
  refine so h hO (yl_assign h rfl) rfl ?_; clear h a; intro a h
  refine so h hO (yl_assign h rfl) rfl ?_; clear h a; intro a h
  refine endL ?_
  refine then_n ?_
  refine seq ?_
  refine seq ?_
  refine region ?_
  refine so h hO (yl_move h rfl) rfl ?_; clear h a; intro a h
  refine callR h rfl rfl p38 (l7Good_spec _ hO (by assumption) (by first | assumption | exact Val.sub (by assumption) (by repeat (first | with_reducible exact List.Sublist.refl _ | with_reducible refine List.Sublist.cons_cons _ ?_ | refine List.Sublist.cons _ ?_)) | with_reducible exact Val.ext _ _ | exact Val.ent (by first | with_reducible exact mem0 | with_reducible exact memS (mem0) | with_reducible exact memS (memS (mem0)) | with_reducible exact memS (memS (memS (mem0))) | with_reducible exact memS (memS (memS (memS (mem0)))) | with_reducible exact memS (memS (memS (memS (memS (mem0))))) | with_reducible exact memS (memS (memS (memS (memS (memS (mem0)))))) | with_reducible exact memS (memS (memS (memS (memS (memS (memS (mem0))))))) | with_reducible exact memS (memS (memS (memS (memS (memS (memS (memS (mem0)))))))) | with_reducible exact memS (memS (memS (memS (memS (memS (memS (memS (memS (mem0))))))))) | with_reducible exact memS (memS (memS (memS (memS (memS (memS (memS (memS (memS (mem0)))))))))) | with_reducible exact memS (memS (memS (memS (memS (memS (memS (memS (memS (memS (memS (mem0))))))))))) | with_reducible exact memS (memS (memS (memS (memS (memS (memS (memS (memS (memS (memS (memS (mem0)))))))))))) | with_reducible exact memS (memS (memS (memS (memS (memS (memS (memS (memS (memS (memS (memS (memS (mem0)))))))))))))))) rfl ?_; clear h a hO w
  rintro _ w ⟨rfl, hO⟩ a h
  refine so h hO (yl_not h rfl) rfl ?_; clear h a; intro a h
  refine endL ?_
  refine then_n ?_
  refine cond_s h rfl (fun hb1 => ?_) (fun hb1 => ?_)
  · have hp1 := hb1
    try simp only [decide_eq_true_eq, decide_eq_false_iff_not, Bool.not_eq_true', Bool.not_eq_false', Int.not_lt, Int.not_le, ne_eq, Decidable.not_not] at hp1
    refine seq ?_
    refine region ?_
    refine stepBuildAll (us := []) h hO rfl p0 rfl p4 rfl rfl rfl rfl rfl ?_; clear h hO a w; intro a b14 w h hO
    refine so h hO (yl_assign h rfl) rfl ?_; clear h a; intro a h
    refine so h hO (yl_assign h rfl) rfl ?_; clear h a; intro a h
    refine endL ?_
    refine then_n ?_
    refine retc ?_
    refine then_r (ret2 h hO Try.results19 (.tmp rfl (.tmp rfl .nil)) ?_)
    refine Ret.mk ?_
    have hok : ok xs = false := by simpa using hb1
    rw [hok]
    exact ⟨_, _, rfl, Rd.nil _ _ _ _ (by decide), hO⟩
  · have hp1 := hb1
    try simp only [decide_eq_true_eq, decide_eq_false_iff_not, Bool.not_eq_true', Bool.not_eq_false', Int.not_lt, Int.not_le, ne_eq, Decidable.not_not] at hp1
    refine skip ?_
    refine then_n ?_
    refine seq ?_
    refine region ?_
    have hok : ok xs = true := by simpa using hb1
    have hsm := (ok_spec hok).2
    have hb := (ok_spec hok).1
    refine stepBuildAll (us := []) h hO rfl p0 rfl p4 rfl rfl rfl rfl rfl ?_; clear h hO a w; intro a b15 w h hO
    refine so h hO (yl_assign h rfl) rfl ?_; clear h a; intro a h
    refine endL ?_
    refine then_n ?_
    refine seq ?_
    refine region ?_
    refine so h hO (yl_move h rfl) rfl ?_; clear h a; intro a h
    refine callR h rfl rfl p36 (l7Read_spec _ hO (by assumption) (by first | assumption | exact Val.sub (by assumption) (by repeat (first | with_reducible exact List.Sublist.refl _ | with_reducible refine List.Sublist.cons_cons _ ?_ | refine List.Sublist.cons _ ?_)) | with_reducible exact Val.ext _ _ | exact Val.ent (by first | with_reducible exact mem0 | with_reducible exact memS (mem0) | with_reducible exact memS (memS (mem0)) | with_reducible exact memS (memS (memS (mem0))) | with_reducible exact memS (memS (memS (memS (mem0)))) | with_reducible exact memS (memS (memS (memS (memS (mem0))))) | with_reducible exact memS (memS (memS (memS (memS (memS (mem0)))))) | with_reducible exact memS (memS (memS (memS (memS (memS (memS (mem0))))))) | with_reducible exact memS (memS (memS (memS (memS (memS (memS (memS (mem0)))))))) | with_reducible exact memS (memS (memS (memS (memS (memS (memS (memS (memS (mem0))))))))) | with_reducible exact memS (memS (memS (memS (memS (memS (memS (memS (memS (memS (mem0)))))))))) | with_reducible exact memS (memS (memS (memS (memS (memS (memS (memS (memS (memS (memS (mem0))))))))))) | with_reducible exact memS (memS (memS (memS (memS (memS (memS (memS (memS (memS (memS (memS (mem0)))))))))))) | with_reducible exact memS (memS (memS (memS (memS (memS (memS (memS (memS (memS (memS (memS (memS (mem0))))))))))))))) (by assumption) (by omega)) rfl ?_; clear h a hO w
    rintro _ w ⟨v1, v2, e1, e2, rfl, hM1, hM2, hO⟩ a h
    obtain ⟨A1, c1, rfl, hc1⟩ := hM1.form
    obtain ⟨A2, c2, rfl, hc2⟩ := hM2.form
    have hrd1 := hM1.rd
    have hrd2 := hM2.rd
    have hr1 := hM1.rr
    have hr2 := hM2.rr
    refine so h hO (yl_move h rfl) rfl ?_; clear h a; intro a h
    refine so h hO (yl_extract h rfl rfl) rfl ?_; clear h a; intro a h
    refine so h hO (yl_extract h rfl rfl) rfl ?_; clear h a; intro a h
    refine so h hO (yl_assign h rfl) rfl ?_; clear h a; intro a h
    refine so h hO (yl_assign h rfl) rfl ?_; clear h a; intro a h
    refine endL ?_
    refine then_n ?_
    refine seq ?_
    refine seq ?_
    refine region ?_
    refine so h hO (yl_assign h rfl) rfl ?_; clear h a; intro a h
    refine endL ?_
    refine then_n ?_
    refine block ?_
    refine loop (fun (k : Nat) a w => ∃ (u : Value) (e : Ent), k ≤ xs.length ∧ (Mu I 3 1 (kp xs k) u e) ∧ St 63 [] [(0, .slice A xs.length c), (6, .slice A2 (faults xs).length c2), (7, .int .i64 k), (4, u)] a ∧ OwnE w0 w (e :: e2 :: L)) (fun k => xs.length - k) 0 ?_ ?_
    · exact ⟨_, _, Nat.zero_le _, Mu.nil' _ _ _ _, h.weak (subB_cons rfl (subB_cons rfl (subB_cons rfl (subB_cons rfl (subB_nil))))), hO.drop.swap⟩
    · clear h a hO w
      rintro k a w ⟨u, e, hk, hM, h, hO⟩
      obtain ⟨A3, c3, rfl, hc3⟩ := hM.form
      have hl3 := kp_len xs k
      refine seq ?_
      refine seq ?_
      refine region ?_
      refine so h hO (yl_move h rfl) rfl ?_; clear h a; intro a h
      refine so h hO (yl_move h rfl) rfl ?_; clear h a; intro a h
      refine so h hO (yl_len h rfl p0) rfl ?_; clear h a; intro a h
      refine so h hO (yl_lt h rfl rfl) rfl ?_; clear h a; intro a h
      refine endL ?_
      refine then_n ?_
      refine cond_s h rfl (fun hb2 => ?_) (fun hb2 => ?_)
      · have hp2 := hb2
        try simp only [decide_eq_true_eq, decide_eq_false_iff_not, Bool.not_eq_true', Bool.not_eq_false', Int.not_lt, Int.not_le, ne_eq, Decidable.not_not] at hp2
        refine skip ?_
        refine then_n ?_
        refine seq ?_
        refine block ?_
        refine seq ?_
        refine region ?_
        have hx := hsm _ (getD_mem (xs := xs) (k := k) (by omega))
        rw [show k = ((k : Int)).toNat by simp] at hx
        refine so h hO (yl_move h rfl) rfl ?_; clear h a; intro a h
        refine so h hO (yl_move h rfl) rfl ?_; clear h a; intro a h
        refine callR h rfl rfl p21 (l1Has_spec _ _ hO (by assumption) (by first | assumption | exact Val.sub (by assumption) (by repeat (first | with_reducible exact List.Sublist.refl _ | with_reducible refine List.Sublist.cons_cons _ ?_ | refine List.Sublist.cons _ ?_)) | with_reducible exact Val.ext _ _ | exact Val.ent (by first | with_reducible exact mem0 | with_reducible exact memS (mem0) | with_reducible exact memS (memS (mem0)) | with_reducible exact memS (memS (memS (mem0))) | with_reducible exact memS (memS (memS (memS (mem0)))) | with_reducible exact memS (memS (memS (memS (memS (mem0))))) | with_reducible exact memS (memS (memS (memS (memS (memS (mem0)))))) | with_reducible exact memS (memS (memS (memS (memS (memS (memS (mem0))))))) | with_reducible exact memS (memS (memS (memS (memS (memS (memS (memS (mem0)))))))) | with_reducible exact memS (memS (memS (memS (memS (memS (memS (memS (memS (mem0))))))))) | with_reducible exact memS (memS (memS (memS (memS (memS (memS (memS (memS (memS (mem0)))))))))) | with_reducible exact memS (memS (memS (memS (memS (memS (memS (memS (memS (memS (memS (mem0))))))))))) | with_reducible exact memS (memS (memS (memS (memS (memS (memS (memS (memS (memS (memS (memS (mem0)))))))))))) | with_reducible exact memS (memS (memS (memS (memS (memS (memS (memS (memS (memS (memS (memS (memS (mem0)))))))))))))))) rfl ?_; clear h a hO w
        rintro _ w ⟨rfl, hO⟩ a h
        refine so h hO (yl_not h rfl) rfl ?_; clear h a; intro a h
        refine endL ?_
        refine then_n ?_
        refine cond_s h rfl (fun hb3 => ?_) (fun hb3 => ?_)
        · have hp3 := hb3
          try simp only [decide_eq_true_eq, decide_eq_false_iff_not, Bool.not_eq_true', Bool.not_eq_false', Int.not_lt, Int.not_le, ne_eq, Decidable.not_not] at hp3
          refine region ?_
          refine so h hO (yl_move h rfl) rfl ?_; clear h a; intro a h
          refine so h hO (yl_move h rfl) rfl ?_; clear h a; intro a h
          refine so h hO (yl_move h rfl) rfl ?_; clear h a; intro a h
          refine so h hO (yl_ix h rfl rfl p0 (by assumption) (by simp) (by omega)) rfl ?_; clear h a; intro a h
          refine so h hO (yl_ld1 h rfl p1 (by assumption) (by first | assumption | exact Val.sub (by assumption) (by repeat (first | with_reducible exact List.Sublist.refl _ | with_reducible refine List.Sublist.cons_cons _ ?_ | refine List.Sublist.cons _ ?_)) | with_reducible exact Val.ext _ _ | exact Val.ent (by first | with_reducible exact mem0 | with_reducible exact memS (mem0) | with_reducible exact memS (memS (mem0)) | with_reducible exact memS (memS (memS (mem0))) | with_reducible exact memS (memS (memS (memS (mem0)))) | with_reducible exact memS (memS (memS (memS (memS (mem0))))) | with_reducible exact memS (memS (memS (memS (memS (memS (mem0)))))) | with_reducible exact memS (memS (memS (memS (memS (memS (memS (mem0))))))) | with_reducible exact memS (memS (memS (memS (memS (memS (memS (memS (mem0)))))))) | with_reducible exact memS (memS (memS (memS (memS (memS (memS (memS (memS (mem0))))))))) | with_reducible exact memS (memS (memS (memS (memS (memS (memS (memS (memS (memS (mem0)))))))))) | with_reducible exact memS (memS (memS (memS (memS (memS (memS (memS (memS (memS (memS (mem0))))))))))) | with_reducible exact memS (memS (memS (memS (memS (memS (memS (memS (memS (memS (memS (memS (mem0)))))))))))) | with_reducible exact memS (memS (memS (memS (memS (memS (memS (memS (memS (memS (memS (memS (memS (mem0))))))))))))))) (by omega) (fun _ => rfl)) rfl ?_; clear h a; intro a h
          refine stepBuildAll (us := [_]) h hO rfl p0 rfl p4 rfl rfl rfl rfl rfl ?_; clear h hO a w; intro a b36 w h hO
          refine stepApp  h hO rfl rfl p5 rfl (by assumption) (by first | with_reducible exact mem0 | with_reducible exact memS (mem0) | with_reducible exact memS (memS (mem0)) | with_reducible exact memS (memS (memS (mem0))) | with_reducible exact memS (memS (memS (memS (mem0)))) | with_reducible exact memS (memS (memS (memS (memS (mem0))))) | with_reducible exact memS (memS (memS (memS (memS (memS (mem0)))))) | with_reducible exact memS (memS (memS (memS (memS (memS (memS (mem0))))))) | with_reducible exact memS (memS (memS (memS (memS (memS (memS (memS (mem0)))))))) | with_reducible exact memS (memS (memS (memS (memS (memS (memS (memS (memS (mem0))))))))) | with_reducible exact memS (memS (memS (memS (memS (memS (memS (memS (memS (memS (mem0)))))))))) | with_reducible exact memS (memS (memS (memS (memS (memS (memS (memS (memS (memS (memS (mem0))))))))))) | with_reducible exact memS (memS (memS (memS (memS (memS (memS (memS (memS (memS (memS (memS (mem0)))))))))))) | with_reducible exact memS (memS (memS (memS (memS (memS (memS (memS (memS (memS (memS (memS (memS (mem0)))))))))))))) (by rfl) (by rfl) (by rfl) (by (try simp); omega) (by intro e_; first | with_reducible exact .here | with_reducible exact .there (.here) | with_reducible exact .there (.there (.here)) | with_reducible exact .there (.there (.there (.here))) | with_reducible exact .there (.there (.there (.there (.here)))) | with_reducible exact .there (.there (.there (.there (.there (.here))))) | with_reducible exact .there (.there (.there (.there (.there (.there (.here)))))) | with_reducible exact .there (.there (.there (.there (.there (.there (.there (.here))))))) | with_reducible exact .there (.there (.there (.there (.there (.there (.there (.there (.here)))))))) | with_reducible exact .there (.there (.there (.there (.there (.there (.there (.there (.there (.here))))))))) | with_reducible exact .there (.there (.there (.there (.there (.there (.there (.there (.there (.there (.here)))))))))) | with_reducible exact .there (.there (.there (.there (.there (.there (.there (.there (.there (.there (.there (.here))))))))))) | with_reducible exact .there (.there (.there (.there (.there (.there (.there (.there (.there (.there (.there (.there (.here)))))))))))) | with_reducible exact .there (.there (.there (.there (.there (.there (.there (.there (.there (.there (.there (.there (.there (.here)))))))))))))) rfl ?_
          clear h hO a w; intro a v37 e37 w h hM37 hO
          obtain ⟨A37, c37, rfl, hc37⟩ := hM37.form
          have hr37 := hM37.rr
          refine so h hO (yl_assign h rfl) rfl ?_; clear h a; intro a h
          refine endL ?_
          refine inB_n ?_
          refine then_n ?_
          refine region ?_
          refine so h hO (yl_move h rfl) rfl ?_; clear h a; intro a h
          first | (refine so h hO (yl_add64 h rfl rfl (by omega)) rfl ?_) | (refine so h hO (yl_add h rfl rfl) rfl ?_)
          clear h a; intro a h
          refine so h hO (yl_assign h rfl) rfl ?_; clear h a; intro a h
          refine endL ?_
          refine then_n ?_
          have hk1 : k < xs.length := by omega
          try simp only [Int.toNat_natCast] at *
          exact ⟨k + 1, by omega, _, _, by omega, (by show Mu _ _ _ (kp xs k ++ _) _ _; rw [if_neg hp3]; exact hM37), h.weak (subB_cons rfl (subB_cons rfl (subB_cons rfl (subB_cons rfl (subB_nil))))), (by exact hO.sub (by repeat (first | with_reducible exact List.Sublist.refl _ | with_reducible refine List.Sublist.cons_cons _ ?_ | refine List.Sublist.cons _ ?_)))⟩
        · have hp3 := hb3
          try simp only [decide_eq_true_eq, decide_eq_false_iff_not, Bool.not_eq_true', Bool.not_eq_false', Int.not_lt, Int.not_le, ne_eq, Decidable.not_not] at hp3
          refine skip ?_
          refine inB_n ?_
          refine then_n ?_
          refine region ?_
          refine so h hO (yl_move h rfl) rfl ?_; clear h a; intro a h
          first | (refine so h hO (yl_add64 h rfl rfl (by omega)) rfl ?_) | (refine so h hO (yl_add h rfl rfl) rfl ?_)
          clear h a; intro a h
          refine so h hO (yl_assign h rfl) rfl ?_; clear h a; intro a h
          refine endL ?_
          refine then_n ?_
          have hk1 : k < xs.length := by omega
          try simp only [Int.toNat_natCast] at *
          exact ⟨k + 1, by omega, _, _, by omega, (by show Mu _ _ _ (kp xs k ++ _) _ _; rw [if_pos hp3, List.append_nil]; exact hM), h.weak (subB_cons rfl (subB_cons rfl (subB_cons rfl (subB_cons rfl (subB_nil))))), (by exact hO)⟩
      · have hp2 := hb2
        try simp only [decide_eq_true_eq, decide_eq_false_iff_not, Bool.not_eq_true', Bool.not_eq_false', Int.not_lt, Int.not_le, ne_eq, Decidable.not_not] at hp2
        refine exit_ ?_
        refine then_x ?_
        refine then_x ?_
        refine inB_same ?_
        refine then_n ?_
        refine seq ?_
        refine region ?_
        have hk1 : k = xs.length := by omega
        subst hk1
        have hrd3 := hM.rd
        refine so h hO (yl_move h rfl) rfl ?_; clear h a; intro a h
        refine callR h rfl rfl p36 (l7Read_spec (kp xs xs.length) hO hrd3 (by first | assumption | exact Val.sub (by assumption) (by repeat (first | with_reducible exact List.Sublist.refl _ | with_reducible refine List.Sublist.cons_cons _ ?_ | refine List.Sublist.cons _ ?_)) | with_reducible exact Val.ext _ _ | exact Val.ent (by first | with_reducible exact mem0 | with_reducible exact memS (mem0) | with_reducible exact memS (memS (mem0)) | with_reducible exact memS (memS (memS (mem0))) | with_reducible exact memS (memS (memS (memS (mem0)))) | with_reducible exact memS (memS (memS (memS (memS (mem0))))) | with_reducible exact memS (memS (memS (memS (memS (memS (mem0)))))) | with_reducible exact memS (memS (memS (memS (memS (memS (memS (mem0))))))) | with_reducible exact memS (memS (memS (memS (memS (memS (memS (memS (mem0)))))))) | with_reducible exact memS (memS (memS (memS (memS (memS (memS (memS (memS (mem0))))))))) | with_reducible exact memS (memS (memS (memS (memS (memS (memS (memS (memS (memS (mem0)))))))))) | with_reducible exact memS (memS (memS (memS (memS (memS (memS (memS (memS (memS (memS (mem0))))))))))) | with_reducible exact memS (memS (memS (memS (memS (memS (memS (memS (memS (memS (memS (memS (mem0)))))))))))) | with_reducible exact memS (memS (memS (memS (memS (memS (memS (memS (memS (memS (memS (memS (memS (mem0))))))))))))))) (fun x hx => hsm x (kp_mem (Nat.le_refl _) x hx)) (by omega)) rfl ?_; clear h a hO w
        rintro _ w ⟨v5, v6, e3, e4, rfl, hM5, hM6, hO⟩ a h
        obtain ⟨A5, c5, rfl, hc5⟩ := hM5.form
        obtain ⟨A6, c6, rfl, hc6⟩ := hM6.form
        have hrd5 := hM5.rd
        have hr5 := hM5.rr
        have hl5 := opens_le (kp xs xs.length)
        refine so h hO (yl_move h rfl) rfl ?_; clear h a; intro a h
        refine so h hO (yl_extract h rfl rfl) rfl ?_; clear h a; intro a h
        refine so h hO (yl_extract h rfl rfl) rfl ?_; clear h a; intro a h
        refine so h hO (yl_assign h rfl) rfl ?_; clear h a; intro a h
        refine so h hO (yl_assign h rfl) rfl ?_; clear h a; intro a h
        refine endL ?_
        refine then_n ?_
        refine seq ?_
        refine seq ?_
        refine region ?_
        refine so h hO (yl_move h rfl) rfl ?_; clear h a; intro a h
        refine so h hO (yl_len h rfl p0) rfl ?_; clear h a; intro a h
        first | (refine so h hO (yl_sub64 h rfl rfl (by omega)) rfl ?_) | (refine so h hO (yl_sub h rfl rfl) rfl ?_)
        clear h a; intro a h
        refine so h hO (yl_assign h rfl) rfl ?_; clear h a; intro a h
        refine endL ?_
        refine then_n ?_
        refine block ?_
        refine loop (fun (k : Nat) a w => ∃ (u : Value) (e : Ent) (i : Int), k ≤ (opens (kp xs xs.length)).length ∧ (i = ((opens (kp xs xs.length)).length : Int) - 1 - k) ∧ (Mu I 3 1 ((kp xs xs.length) ++ ((opens (kp xs xs.length)).reverse.map fun n => -n).take k) u e) ∧ St 63 [] [(4, u), (8, .slice A5 (opens (kp xs xs.length)).length c5), (10, .int .i64 i)] a ∧ OwnE w0 w (e :: e3 :: L)) (fun k => (opens (kp xs xs.length)).length - k) 0 ?_ ?_
        · refine ⟨_, _, _, Nat.zero_le _, ?_, (by rw [List.take_zero, List.append_nil]; exact hM), h.weak (subB_cons rfl (subB_cons rfl (subB_cons rfl (subB_nil)))), (OwnE.swap (by exact hO.sub (by repeat (first | with_reducible exact List.Sublist.refl _ | with_reducible refine List.Sublist.cons_cons _ ?_ | refine List.Sublist.cons _ ?_))))⟩
          simp
        · clear h a hO w
          rintro k a w ⟨u, e, i, hk, hi, hM, h, hO⟩
          obtain ⟨A7, c7, rfl, hc7⟩ := hM.form
          have hl7 := kp_len xs xs.length
          have hl8 := opens_le (kp xs xs.length)
          have hl9 : ((kp xs xs.length) ++ ((opens (kp xs xs.length)).reverse.map fun n => -n).take k).length ≤ 200 := by simp only [List.length_append, List.length_take, List.length_map, List.length_reverse]; omega
          refine seq ?_
          refine seq ?_
          refine region ?_
          refine so h hO (yl_move h rfl) rfl ?_; clear h a; intro a h
          refine so h hO (yl_ge h rfl rfl) rfl ?_; clear h a; intro a h
          refine endL ?_
          refine then_n ?_
          refine cond_s h rfl (fun hb4 => ?_) (fun hb4 => ?_)
          · have hp4 := hb4
            try simp only [decide_eq_true_eq, decide_eq_false_iff_not, Bool.not_eq_true', Bool.not_eq_false', Int.not_lt, Int.not_le, ne_eq, Decidable.not_not] at hp4
            refine skip ?_
            refine then_n ?_
            refine seq ?_
            refine block ?_
            refine region ?_
            refine so h hO (yl_move h rfl) rfl ?_; clear h a; intro a h
            refine so h hO (yl_move h rfl) rfl ?_; clear h a; intro a h
            refine so h hO (yl_move h rfl) rfl ?_; clear h a; intro a h
            refine so h hO (yl_ix h rfl rfl p0 (by assumption) (by simp) (by omega)) rfl ?_; clear h a; intro a h
            have hx := hsm _ (kp_mem (Nat.le_refl _) _ (opens_mem (getD_mem (xs := opens (kp xs xs.length)) (k := i.toNat) (by omega))))
            refine so h hO (yl_ld1 h rfl p1 (by assumption) (by first | assumption | exact Val.sub (by assumption) (by repeat (first | with_reducible exact List.Sublist.refl _ | with_reducible refine List.Sublist.cons_cons _ ?_ | refine List.Sublist.cons _ ?_)) | with_reducible exact Val.ext _ _ | exact Val.ent (by first | with_reducible exact mem0 | with_reducible exact memS (mem0) | with_reducible exact memS (memS (mem0)) | with_reducible exact memS (memS (memS (mem0))) | with_reducible exact memS (memS (memS (memS (mem0)))) | with_reducible exact memS (memS (memS (memS (memS (mem0))))) | with_reducible exact memS (memS (memS (memS (memS (memS (mem0)))))) | with_reducible exact memS (memS (memS (memS (memS (memS (memS (mem0))))))) | with_reducible exact memS (memS (memS (memS (memS (memS (memS (memS (mem0)))))))) | with_reducible exact memS (memS (memS (memS (memS (memS (memS (memS (memS (mem0))))))))) | with_reducible exact memS (memS (memS (memS (memS (memS (memS (memS (memS (memS (mem0)))))))))) | with_reducible exact memS (memS (memS (memS (memS (memS (memS (memS (memS (memS (memS (mem0))))))))))) | with_reducible exact memS (memS (memS (memS (memS (memS (memS (memS (memS (memS (memS (memS (mem0)))))))))))) | with_reducible exact memS (memS (memS (memS (memS (memS (memS (memS (memS (memS (memS (memS (memS (mem0))))))))))))))) (by omega) (fun _ => rfl)) rfl ?_; clear h a; intro a h
            first | (refine so h hO (yl_neg64 h rfl (by omega)) rfl ?_) | (refine so h hO (yl_neg h rfl) rfl ?_)
            clear h a; intro a h
            refine stepBuildAll (us := [_]) h hO rfl p0 rfl p4 rfl rfl rfl rfl rfl ?_; clear h hO a w; intro a b56 w h hO
            refine stepApp  h hO rfl rfl p5 rfl (by assumption) (by first | with_reducible exact mem0 | with_reducible exact memS (mem0) | with_reducible exact memS (memS (mem0)) | with_reducible exact memS (memS (memS (mem0))) | with_reducible exact memS (memS (memS (memS (mem0)))) | with_reducible exact memS (memS (memS (memS (memS (mem0))))) | with_reducible exact memS (memS (memS (memS (memS (memS (mem0)))))) | with_reducible exact memS (memS (memS (memS (memS (memS (memS (mem0))))))) | with_reducible exact memS (memS (memS (memS (memS (memS (memS (memS (mem0)))))))) | with_reducible exact memS (memS (memS (memS (memS (memS (memS (memS (memS (mem0))))))))) | with_reducible exact memS (memS (memS (memS (memS (memS (memS (memS (memS (memS (mem0)))))))))) | with_reducible exact memS (memS (memS (memS (memS (memS (memS (memS (memS (memS (memS (mem0))))))))))) | with_reducible exact memS (memS (memS (memS (memS (memS (memS (memS (memS (memS (memS (memS (mem0)))))))))))) | with_reducible exact memS (memS (memS (memS (memS (memS (memS (memS (memS (memS (memS (memS (memS (mem0)))))))))))))) (by rfl) (by rfl) (by rfl) (by (try simp); omega) (by intro e_; first | with_reducible exact .here | with_reducible exact .there (.here) | with_reducible exact .there (.there (.here)) | with_reducible exact .there (.there (.there (.here))) | with_reducible exact .there (.there (.there (.there (.here)))) | with_reducible exact .there (.there (.there (.there (.there (.here))))) | with_reducible exact .there (.there (.there (.there (.there (.there (.here)))))) | with_reducible exact .there (.there (.there (.there (.there (.there (.there (.here))))))) | with_reducible exact .there (.there (.there (.there (.there (.there (.there (.there (.here)))))))) | with_reducible exact .there (.there (.there (.there (.there (.there (.there (.there (.there (.here))))))))) | with_reducible exact .there (.there (.there (.there (.there (.there (.there (.there (.there (.there (.here)))))))))) | with_reducible exact .there (.there (.there (.there (.there (.there (.there (.there (.there (.there (.there (.here))))))))))) | with_reducible exact .there (.there (.there (.there (.there (.there (.there (.there (.there (.there (.there (.there (.here)))))))))))) | with_reducible exact .there (.there (.there (.there (.there (.there (.there (.there (.there (.there (.there (.there (.there (.here)))))))))))))) rfl ?_
            clear h hO a w; intro a v57 e57 w h hM57 hO
            obtain ⟨A57, c57, rfl, hc57⟩ := hM57.form
            have hr57 := hM57.rr
            refine so h hO (yl_assign h rfl) rfl ?_; clear h a; intro a h
            refine endL ?_
            refine inB_n ?_
            refine then_n ?_
            refine region ?_
            refine so h hO (yl_move h rfl) rfl ?_; clear h a; intro a h
            first | (refine so h hO (yl_sub64 h rfl rfl (by omega)) rfl ?_) | (refine so h hO (yl_sub h rfl rfl) rfl ?_)
            clear h a; intro a h
            refine so h hO (yl_assign h rfl) rfl ?_; clear h a; intro a h
            refine endL ?_
            refine then_n ?_
            have hk1 : k < (opens (kp xs xs.length)).length := by omega
            refine ⟨k + 1, by omega, _, _, _, by omega, ?_, (by rw [mend_step _ _ hk1, show (opens (kp xs xs.length)).length - 1 - k = i.toNat by omega, ← List.append_assoc]; exact hM57), h.weak (subB_cons rfl (subB_cons rfl (subB_cons rfl (subB_nil)))), (by exact hO.sub (by repeat (first | with_reducible exact List.Sublist.refl _ | with_reducible refine List.Sublist.cons_cons _ ?_ | refine List.Sublist.cons _ ?_)))⟩
            subst hi; omega
          · have hp4 := hb4
            try simp only [decide_eq_true_eq, decide_eq_false_iff_not, Bool.not_eq_true', Bool.not_eq_false', Int.not_lt, Int.not_le, ne_eq, Decidable.not_not] at hp4
            refine exit_ ?_
            refine then_x ?_
            refine then_x ?_
            refine inB_same ?_
            refine then_n ?_
            refine seq ?_
            refine seq ?_
            refine region ?_
            refine so h hO (yl_move h rfl) rfl ?_; clear h a; intro a h
            refine so h hO (yl_len h rfl p0) rfl ?_; clear h a; intro a h
            refine so h hO (yl_gt h rfl rfl) rfl ?_; clear h a; intro a h
            refine endL ?_
            refine then_n ?_
            refine cond_s h rfl (fun hb5 => ?_) (fun hb5 => ?_)
            · have hp5 := hb5
              try simp only [decide_eq_true_eq, decide_eq_false_iff_not, Bool.not_eq_true', Bool.not_eq_false', Int.not_lt, Int.not_le, ne_eq, Decidable.not_not] at hp5
              refine seq ?_
              refine region ?_
              refine stepBuildAll (us := []) h hO rfl p0 rfl p4 rfl rfl rfl rfl rfl ?_; clear h hO a w; intro a b61 w h hO
              refine so h hO (yl_assign h rfl) rfl ?_; clear h a; intro a h
              refine so h hO (yl_assign h rfl) rfl ?_; clear h a; intro a h
              refine endL ?_
              refine then_n ?_
              refine retc ?_
              refine then_r (ret2 h hO Try.results19 (.tmp rfl (.tmp rfl .nil)) ?_)
              refine Ret.mk ?_
              have hk1 : k = (opens (kp xs xs.length)).length := by omega
              subst hk1
              have hmm : mend xs = (kp xs xs.length) ++ ((opens (kp xs xs.length)).reverse.map fun n => -n).take (opens (kp xs xs.length)).length := by rw [List.take_of_length_le (by simp)]; rfl
              rw [← hmm] at hM hp5 hb5
              rw [hok, decide_eq_false (by omega)]
              exact ⟨_, _, rfl, Rd.nil _ _ _ _ (by decide), (by exact hO.sub (by repeat (first | with_reducible exact List.Sublist.refl _ | with_reducible refine List.Sublist.cons_cons _ ?_ | refine List.Sublist.cons _ ?_)))⟩
            · have hp5 := hb5
              try simp only [decide_eq_true_eq, decide_eq_false_iff_not, Bool.not_eq_true', Bool.not_eq_false', Int.not_lt, Int.not_le, ne_eq, Decidable.not_not] at hp5
              refine skip ?_
              refine then_n ?_
              refine seq ?_
              refine region ?_
              refine so h hO (yl_move h rfl) rfl ?_; clear h a; intro a h
              refine so h hO (yl_assign h rfl) rfl ?_; clear h a; intro a h
              refine so h hO (yl_assign h rfl) rfl ?_; clear h a; intro a h
              refine endL ?_
              refine then_n ?_
              refine retc ?_
              refine ret2 h hO Try.results19 (.tmp rfl (.tmp rfl .nil)) ?_
              refine Ret.mk ?_
              have hk1 : k = (opens (kp xs xs.length)).length := by omega
              subst hk1
              have hmm : mend xs = (kp xs xs.length) ++ ((opens (kp xs xs.length)).reverse.map fun n => -n).take (opens (kp xs xs.length)).length := by rw [List.take_of_length_le (by simp)]; rfl
              rw [← hmm] at hM hp5 hb5
              have hm : (mend xs).length ≤ 60 := by omega
              rw [hok, decide_eq_true hm, ← hmm]
              exact ⟨_, _, rfl, hM.rd, (by exact hO.sub (by repeat (first | with_reducible exact List.Sublist.refl _ | with_reducible refine List.Sublist.cons_cons _ ?_ | refine List.Sublist.cons _ ?_)))⟩
set_option maxHeartbeats 4000000 in
theorem vPairs_spec (xs ys : List (Int × Int)) {v u : Value} {H G : Nat → Obj → Prop} {w0 w : World} {L : List Ent} (hO : OwnE w0 w L) (hv : Rd encP 2 H xs v) (hH : Val w0 L H) (hu : Rd encP 2 G ys u) (hG : Val w0 L G) : Calls Try.prog 21 ⟨[v, u]⟩ w (Ret (fun v w => v = .bool (decide (xs = ys)) ∧ OwnE w0 w L)) := by
  refine enter Try.func21 rfl Try.ntmps21 rfl ?_
  intro a h
  obtain ⟨A, c, rfl, hc, hr⟩ := hv
  obtain ⟨B, d, rfl, hd, hq⟩ := hu
  refine seq ?_
  refine region ?_
  refine so h hO (yl_assign h rfl) rfl ?_; clear h a; intro a h
  refine endL ?_
  refine then_n ?_
  refine seq ?_
  refine seq ?_
  refine region ?_
  refine so h hO (yl_move h rfl) rfl ?_; clear h a; intro a h
  refine so h hO (yl_len h rfl p41) rfl ?_; clear h a; intro a h
  refine so h hO (yl_move h rfl) rfl ?_; clear h a; intro a h
  refine so h hO (yl_len h rfl p41) rfl ?_; clear h a; intro a h
  refine so h hO (yl_ne h rfl rfl) rfl ?_; clear h a; intro a h
  refine endL ?_
  refine then_n ?_
  refine cond_s h rfl (fun hb1 => ?_) (fun hb1 => ?_)
  · have hp1 := hb1
    try simp only [decide_eq_true_eq, decide_eq_false_iff_not, Bool.not_eq_true', Bool.not_eq_false', Int.not_lt, Int.not_le, ne_eq, Decidable.not_not] at hp1
    refine seq ?_
    refine region ?_
    refine so h hO (yl_assign h rfl) rfl ?_; clear h a; intro a h
    refine endL ?_
    refine then_n ?_
    refine retc ?_
    refine then_r (ret1 h hO Try.results21 (.tmp rfl .nil) ?_)
    refine Ret.mk ?_
    exact ⟨congrArg Value.bool (decide_eq_false fun hh => by subst hh; omega).symm, hO⟩
  · have hp1 := hb1
    try simp only [decide_eq_true_eq, decide_eq_false_iff_not, Bool.not_eq_true', Bool.not_eq_false', Int.not_lt, Int.not_le, ne_eq, Decidable.not_not] at hp1
    refine skip ?_
    refine then_n ?_
    refine seq ?_
    refine seq ?_
    refine region ?_
    refine so h hO (yl_assign h rfl) rfl ?_; clear h a; intro a h
    refine endL ?_
    refine then_n ?_
    refine block ?_
    refine loop (fun (k : Nat) a w =>  k ≤ xs.length ∧ (xs.take k = ys.take k) ∧ St 26 [] [(0, .slice A xs.length c), (1, .slice B ys.length d), (5, .int .i64 k)] a ∧ OwnE w0 w L) (fun k => xs.length - k) 0 ?_ ?_
    · exact ⟨Nat.zero_le _, by simp, h.weak (subB_cons rfl (subB_cons rfl (subB_cons rfl (subB_nil)))), hO⟩
    · clear h a hO w
      rintro k a w ⟨hk, heq, h, hO⟩
      refine seq ?_
      refine seq ?_
      refine region ?_
      refine so h hO (yl_move h rfl) rfl ?_; clear h a; intro a h
      refine so h hO (yl_move h rfl) rfl ?_; clear h a; intro a h
      refine so h hO (yl_len h rfl p41) rfl ?_; clear h a; intro a h
      refine so h hO (yl_lt h rfl rfl) rfl ?_; clear h a; intro a h
      refine endL ?_
      refine then_n ?_
      refine cond_s h rfl (fun hb2 => ?_) (fun hb2 => ?_)
      · have hp2 := hb2
        try simp only [decide_eq_true_eq, decide_eq_false_iff_not, Bool.not_eq_true', Bool.not_eq_false', Int.not_lt, Int.not_le, ne_eq, Decidable.not_not] at hp2
        refine skip ?_
        refine then_n ?_
        refine seq ?_
        refine block ?_
        refine seq ?_
        refine regionQ (C := fun w => OwnE w0 w _) (by kernel_rfl) (by kernel_rfl) hO.drew ?_
        clear hO w
        refine stepQ h (yl_move h rfl) rfl ?_; clear h a; intro a h
        refine stepQ h (yl_move h rfl) rfl ?_; clear h a; intro a h
        refine stepQ h (yl_ix h rfl rfl p41 (by assumption) (by simp) (by omega)) rfl ?_; clear h a; intro a h
        refine stepQ h (yl_ldN (encL := fun p : Int × Int => [I p.1, I p.2]) h rfl p47 (by assumption) (by first | assumption | exact Val.sub (by assumption) (by repeat (first | with_reducible exact List.Sublist.refl _ | with_reducible refine List.Sublist.cons_cons _ ?_ | refine List.Sublist.cons _ ?_)) | with_reducible exact Val.ext _ _ | exact Val.ent (by first | with_reducible exact mem0 | with_reducible exact memS (mem0) | with_reducible exact memS (memS (mem0)) | with_reducible exact memS (memS (memS (mem0))) | with_reducible exact memS (memS (memS (memS (mem0)))) | with_reducible exact memS (memS (memS (memS (memS (mem0))))) | with_reducible exact memS (memS (memS (memS (memS (memS (mem0)))))) | with_reducible exact memS (memS (memS (memS (memS (memS (memS (mem0))))))) | with_reducible exact memS (memS (memS (memS (memS (memS (memS (memS (mem0)))))))) | with_reducible exact memS (memS (memS (memS (memS (memS (memS (memS (memS (mem0))))))))) | with_reducible exact memS (memS (memS (memS (memS (memS (memS (memS (memS (memS (mem0)))))))))) | with_reducible exact memS (memS (memS (memS (memS (memS (memS (memS (memS (memS (memS (mem0))))))))))) | with_reducible exact memS (memS (memS (memS (memS (memS (memS (memS (memS (memS (memS (memS (mem0)))))))))))) | with_reducible exact memS (memS (memS (memS (memS (memS (memS (memS (memS (memS (memS (memS (memS (mem0))))))))))))))) (by omega) (fun _ => rfl)) rfl ?_; clear h a; intro a h
        refine stepQ h (yl_move h rfl) rfl ?_; clear h a; intro a h
        refine stepQ h (yl_move h rfl) rfl ?_; clear h a; intro a h
        refine stepQ h (yl_ix h rfl rfl p41 (by assumption) (by simp) (by omega)) rfl ?_; clear h a; intro a h
        refine stepQ h (yl_ldN (encL := fun p : Int × Int => [I p.1, I p.2]) h rfl p47 (by assumption) (by first | assumption | exact Val.sub (by assumption) (by repeat (first | with_reducible exact List.Sublist.refl _ | with_reducible refine List.Sublist.cons_cons _ ?_ | refine List.Sublist.cons _ ?_)) | with_reducible exact Val.ext _ _ | exact Val.ent (by first | with_reducible exact mem0 | with_reducible exact memS (mem0) | with_reducible exact memS (memS (mem0)) | with_reducible exact memS (memS (memS (mem0))) | with_reducible exact memS (memS (memS (memS (mem0)))) | with_reducible exact memS (memS (memS (memS (memS (mem0))))) | with_reducible exact memS (memS (memS (memS (memS (memS (mem0)))))) | with_reducible exact memS (memS (memS (memS (memS (memS (memS (mem0))))))) | with_reducible exact memS (memS (memS (memS (memS (memS (memS (memS (mem0)))))))) | with_reducible exact memS (memS (memS (memS (memS (memS (memS (memS (memS (mem0))))))))) | with_reducible exact memS (memS (memS (memS (memS (memS (memS (memS (memS (memS (mem0)))))))))) | with_reducible exact memS (memS (memS (memS (memS (memS (memS (memS (memS (memS (memS (mem0))))))))))) | with_reducible exact memS (memS (memS (memS (memS (memS (memS (memS (memS (memS (memS (memS (mem0)))))))))))) | with_reducible exact memS (memS (memS (memS (memS (memS (memS (memS (memS (memS (memS (memS (memS (mem0))))))))))))))) (by omega) (fun _ => rfl)) rfl ?_; clear h a; intro a h
        refine stepQ h (yl_neArr (xs := [(xs.getD (k : Int).toNat default).1, (xs.getD (k : Int).toNat default).2]) (ys := [(ys.getD (k : Int).toNat default).1, (ys.getD (k : Int).toNat default).2]) h rfl rfl p48 rfl rfl) rfl ?_; clear h a; intro a h
        refine endQ ?_; intro w hO
        refine then_n ?_
        refine cond_s h rfl (fun hb3 => ?_) (fun hb3 => ?_)
        · have hp3 := hb3
          try simp only [decide_eq_true_eq, decide_eq_false_iff_not, Bool.not_eq_true', Bool.not_eq_false', Int.not_lt, Int.not_le, ne_eq, Decidable.not_not] at hp3
          refine seq ?_
          refine region ?_
          refine so h hO (yl_assign h rfl) rfl ?_; clear h a; intro a h
          refine endL ?_
          refine then_n ?_
          refine retc ?_
          refine inB_r (then_r (then_r (inB_r (then_r (ret1 h hO Try.results21 (.tmp rfl .nil) ?_)))))
          refine Ret.mk ?_
          refine ⟨congrArg Value.bool (decide_eq_false fun hh => ?_).symm, hO⟩
          subst hh
          exact hp3 rfl
        · have hp3 := hb3
          try simp only [decide_eq_true_eq, decide_eq_false_iff_not, Bool.not_eq_true', Bool.not_eq_false', Int.not_lt, Int.not_le, ne_eq, Decidable.not_not] at hp3
          refine skip ?_
          refine inB_n ?_
          refine then_n ?_
          refine region ?_
          refine so h hO (yl_move h rfl) rfl ?_; clear h a; intro a h
          first | (refine so h hO (yl_add64 h rfl rfl (by omega)) rfl ?_) | (refine so h hO (yl_add h rfl rfl) rfl ?_)
          clear h a; intro a h
          refine so h hO (yl_assign h rfl) rfl ?_; clear h a; intro a h
          refine endL ?_
          refine then_n ?_
          have hk1 : k < xs.length := by omega
          try simp only [Int.toNat_natCast] at *
          have ht := getD_take_succ (xs := xs) hk1
          refine ⟨k + 1, by omega, by omega, ?_, h.weak (subB_cons rfl (subB_cons rfl (subB_cons rfl (subB_nil)))), hO⟩
          rw [ht, getD_take_succ (show k < ys.length by omega), heq]; congr 2; (have h1 := hp3; simp only [List.cons.injEq, and_true] at h1; exact Prod.ext h1.1 h1.2)
      · have hp2 := hb2
        try simp only [decide_eq_true_eq, decide_eq_false_iff_not, Bool.not_eq_true', Bool.not_eq_false', Int.not_lt, Int.not_le, ne_eq, Decidable.not_not] at hp2
        refine exit_ ?_
        refine then_x ?_
        refine then_x ?_
        refine inB_same ?_
        refine then_n ?_
        refine seq ?_
        refine region ?_
        refine so h hO (yl_assign h rfl) rfl ?_; clear h a; intro a h
        refine endL ?_
        refine then_n ?_
        refine retc ?_
        refine ret1 h hO Try.results21 (.tmp rfl .nil) ?_
        refine Ret.mk ?_
        rw [List.take_of_length_le (by omega), List.take_of_length_le (by omega)] at heq
        exact ⟨congrArg Value.bool (decide_eq_true heq).symm, hO⟩
end Go.Proofs.Ytebfglbnemahiaa
