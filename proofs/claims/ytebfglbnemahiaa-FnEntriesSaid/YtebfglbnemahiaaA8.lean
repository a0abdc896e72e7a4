import Derived.Test.YtebfglbnemahiaaProg
import Derived.Test.YtebfglbnemahiaaA7
namespace Go.Proofs.Ytebfglbnemahiaa
open Go.RowKit Go.E Go.Ents
set_option linter.unusedVariables false
set_option linter.unusedSimpArgs false
theorem p55 : sizeB Try.prog 24 1 = true := by kernel_rfl
theorem p56 : ((Try.prog.funcs[35]?).any fun fn => fn.body.isSome && fn.name != "runtime.NumGoroutine") = true := by kernel_rfl
theorem p57 : ((Try.prog.funcs[36]?).any fun fn => fn.body.isSome && fn.name != "runtime.NumGoroutine") = true := by kernel_rfl
theorem p58 : ((Try.prog.funcs[48]?).any fun fn => fn.body.isSome && fn.name != "runtime.NumGoroutine") = true := by kernel_rfl
theorem back_all {l : List Int} {ks : List {k : Nat // k < l.length}} (h : ks.map Subtype.val = (List.range l.length).reverse) : ks.map (fun k => -(l.getD k.1 default)) = l.reverse.map fun n => -n := by
  have h1 : ks.map (fun k => -(l.getD k.1 default)) = (ks.map Subtype.val).map fun i => -(l.getD i default) := by simp [List.map_map, Function.comp_def]
  rw [h1, h, List.map_reverse, List.map_reverse]
  congr 1
  apply List.ext_getElem (by simp)
  intro i h1 h2
  simp at h1
  simp [h1]
set_option maxHeartbeats 4000000 in
theorem MendEntries_i (xs : List Int) {v : Value} {H : Nat → Obj → Prop} {w0 w : World} {L : List Ent} (hO : OwnE w0 w L) (hv : Rd I 1 H xs v) (hH : Val w0 L H) : Calls Try.prog 18 ⟨[v]⟩ w (Ret (fun v w => ∃ v1 e, v = .tuple ⟨[v1, .bool (ok xs && decide ((mend xs).length ≤ 60))]⟩ ∧ Rd I 1 (inE e) (if (ok xs && decide ((mend xs).length ≤ 60)) then mend xs else []) v1 ∧ OwnE w0 w (e :: L))) := by
  refine enterM Try.func18 rfl Try.ntmps18 rfl ?_
  intro a h
  have hv0 := hv
  obtain ⟨A, c, rfl, hc, hr⟩ := hv
  refine seq ?_
  refine region ?_
  refine so h hO (yl_assign h rfl) rfl ?_; clear h a; intro a h
  refine so h hO (yl_assign h rfl) rfl ?_; clear h a; intro a h
  refine endL ?_
  refine then_n ?_
  refine seq ?_
  refine seq ?_
  refine region ?_
  refine so h hO (yl_move h rfl) rfl ?_; clear h a; intro a h
  refine callR h rfl rfl p37 (areEntries_spec _ hO (by assumption) (by first | assumption | exact Val.sub (by assumption) (by repeat (first | with_reducible exact List.Sublist.refl _ | with_reducible refine List.Sublist.cons_cons _ ?_ | refine List.Sublist.cons _ ?_)) | with_reducible exact Val.ext _ _ | exact Val.ent (by first | with_reducible exact mem0 | with_reducible exact memS (mem0) | with_reducible exact memS (memS (mem0)) | with_reducible exact memS (memS (memS (mem0))) | with_reducible exact memS (memS (memS (memS (mem0)))) | with_reducible exact memS (memS (memS (memS (memS (mem0))))) | with_reducible exact memS (memS (memS (memS (memS (memS (mem0)))))) | with_reducible exact memS (memS (memS (memS (memS (memS (memS (mem0))))))) | with_reducible exact memS (memS (memS (memS (memS (memS (memS (memS (mem0)))))))) | with_reducible exact memS (memS (memS (memS (memS (memS (memS (memS (memS (mem0))))))))) | with_reducible exact memS (memS (memS (memS (memS (memS (memS (memS (memS (memS (mem0)))))))))) | with_reducible exact memS (memS (memS (memS (memS (memS (memS (memS (memS (memS (memS (mem0))))))))))) | with_reducible exact memS (memS (memS (memS (memS (memS (memS (memS (memS (memS (memS (memS (mem0)))))))))))) | with_reducible exact memS (memS (memS (memS (memS (memS (memS (memS (memS (memS (memS (memS (memS (mem0)))))))))))))))) rfl ?_; clear h a hO w
  rintro _ w ⟨rfl, hO⟩ a h
  refine so h hO (yl_not h rfl) rfl ?_; clear h a; intro a h
  refine endL ?_
  refine then_n ?_
  refine cond_s h rfl (fun hb1 => ?_) (fun hb1 => ?_)
  · have hp1 := hb1
    try simp only [decide_eq_true_eq, decide_eq_false_iff_not, Bool.not_eq_true', Bool.not_eq_false', Int.not_lt, Int.not_le, ne_eq, Decidable.not_not] at hp1
    refine seq ?_
    refine region ?_
    refine so h hO (yl_assign h rfl) rfl ?_; clear h a; intro a h
    refine so h hO (yl_assign h rfl) rfl ?_; clear h a; intro a h
    refine endL ?_
    refine then_n ?_
    refine retc ?_
    have hmk := Marks.nil hO
    refine then_r (retM h hmk Try.results18 (.tmp rfl (.tmp rfl .nil)) (fun w hO => ?_)); clear hmk
    refine Ret.mk ?_
    have hok : ok xs = false := by simpa using hb1
    rw [hok]
    exact ⟨_, [], rfl, Rd.nil _ _ _ _ (by decide), hO.nilE⟩
  · have hp1 := hb1
    try simp only [decide_eq_true_eq, decide_eq_false_iff_not, Bool.not_eq_true', Bool.not_eq_false', Int.not_lt, Int.not_le, ne_eq, Decidable.not_not] at hp1
    refine skip ?_
    refine then_n ?_
    refine seq ?_
    refine region ?_
    have hok : ok xs = true := by simpa using hb1
    have hsm := (ok_spec hok).2
    have hb := (ok_spec hok).1
    refine so h hO (yl_move h rfl) rfl ?_; clear h a; intro a h
    refine callR h rfl rfl p33 (books_spec _ hO hv0 hH (by assumption) (by omega)) rfl ?_; clear h a hO w
    rintro _ w ⟨v1, v2, e1, e2, rfl, hR, hMf, hO⟩ a h
    obtain ⟨A2, c2, rfl, hc2⟩ := hMf.form
    have hrd2 := hMf.rd
    refine so h hO (yl_move h rfl) rfl ?_; clear h a; intro a h
    refine so h hO (yl_extract h rfl rfl) rfl ?_; clear h a; intro a h
    refine so h hO (yl_extract h rfl rfl) rfl ?_; clear h a; intro a h
    refine so h hO (yl_assign h rfl) rfl ?_; clear h a; intro a h
    refine so h hO (yl_assign h rfl) rfl ?_; clear h a; intro a h
    refine endL ?_
    refine then_n ?_
    refine seq ?_
    refine region ?_
    refine stepBuildAll (us := []) h hO rfl p0 rfl p4 rfl rfl rfl rfl rfl ?_; clear h hO a w; intro a b19 w h hO
    refine stepAlloc h hO p25 rfl ?_; clear h hO a w; intro a b6 w h hO
    refine stepStore h hO rfl rfl p55 rfl (by first | with_reducible exact .here | with_reducible exact .there (.here) | with_reducible exact .there (.there (.here)) | with_reducible exact .there (.there (.there (.here))) | with_reducible exact .there (.there (.there (.there (.here)))) | with_reducible exact .there (.there (.there (.there (.there (.here))))) | with_reducible exact .there (.there (.there (.there (.there (.there (.here)))))) | with_reducible exact .there (.there (.there (.there (.there (.there (.there (.here))))))) | with_reducible exact .there (.there (.there (.there (.there (.there (.there (.there (.here)))))))) | with_reducible exact .there (.there (.there (.there (.there (.there (.there (.there (.there (.here))))))))) | with_reducible exact .there (.there (.there (.there (.there (.there (.there (.there (.there (.there (.here)))))))))) | with_reducible exact .there (.there (.there (.there (.there (.there (.there (.there (.there (.there (.there (.here))))))))))) | with_reducible exact .there (.there (.there (.there (.there (.there (.there (.there (.there (.there (.there (.there (.here)))))))))))) | with_reducible exact .there (.there (.there (.there (.there (.there (.there (.there (.there (.there (.there (.there (.there (.here)))))))))))))) (by exact Nat.le_of_ble_eq_true rfl) ?_; clear h hO a w; intro a w h hO
    refine endL ?_
    refine then_n ?_
    refine seq ?_
    refine seq ?_
    refine region ?_
    refine so h hO (yl_move h rfl) rfl ?_; clear h a; intro a h
    refine so h hO (yl_len h rfl p0) rfl ?_; clear h a; intro a h
    refine so h hO (yl_move h rfl) rfl ?_; clear h a; intro a h
    refine endL ?_
    refine then_n ?_
    refine block ?_
    refine loop (fun (k : Nat) a w => ∃ (u : Value) (e : Ent), k ≤ xs.length ∧ (Mu I 3 1 (kp xs k) u e) ∧ St 50 [] [(5, .slice A2 (faults xs).length c2), (6, .pointer (some ⟨b6, 0, none⟩)), (20, .slice A xs.length c), (21, .int .i64 xs.length), (22, .int .i64 k)] a ∧ OwnE w0 w ([(b6, row 24 [u])] :: e :: e2 :: L)) (fun k => xs.length - k) 0 ?_ ?_
    · refine ⟨_, _, Nat.zero_le _, Mu.nil' _ _ _ b19, h.weak (subB_cons rfl (subB_cons rfl (subB_cons rfl (subB_cons rfl (subB_cons rfl (subB_nil)))))), ?_⟩
      exact OwnE.sub (L := [(b6, row 24 [.slice (some ⟨b19, 0, none⟩) 0 0])] :: [(b19, row 3 [])] :: e1 :: e2 :: L) hO (by repeat (first | with_reducible exact List.Sublist.refl _ | with_reducible refine List.Sublist.cons_cons _ ?_ | refine List.Sublist.cons _ ?_))
    · clear h a hO w
      rintro k a w ⟨u, e, hk, hM, h, hO⟩
      obtain ⟨A3, c3, rfl, hc3⟩ := hM.form
      have hl3 := kp_len xs k
      refine seq ?_
      refine region ?_
      refine so h hO (yl_lt h rfl rfl) rfl ?_; clear h a; intro a h
      refine endL ?_
      refine then_n ?_
      refine seq ?_
      refine cond_s h rfl (fun hb2 => ?_) (fun hb2 => ?_)
      · have hp2 := hb2
        try simp only [decide_eq_true_eq, decide_eq_false_iff_not, Bool.not_eq_true', Bool.not_eq_false', Int.not_lt, Int.not_le, ne_eq, Decidable.not_not] at hp2
        refine skip ?_
        refine then_n ?_
        refine seq ?_
        refine block ?_
        refine seq ?_
        refine region ?_
        refine so h hO (yl_move h rfl) rfl ?_; clear h a; intro a h
        refine so h hO (yl_ix h rfl rfl p0 (by assumption) (by simp) (by omega)) rfl ?_; clear h a; intro a h
        refine so h hO (yl_ld1 h rfl p1 (by assumption) (by first | assumption | exact Val.sub (by assumption) (by repeat (first | with_reducible exact List.Sublist.refl _ | with_reducible refine List.Sublist.cons_cons _ ?_ | refine List.Sublist.cons _ ?_)) | with_reducible exact Val.ext _ _ | exact Val.ent (by first | with_reducible exact mem0 | with_reducible exact memS (mem0) | with_reducible exact memS (memS (mem0)) | with_reducible exact memS (memS (memS (mem0))) | with_reducible exact memS (memS (memS (memS (mem0)))) | with_reducible exact memS (memS (memS (memS (memS (mem0))))) | with_reducible exact memS (memS (memS (memS (memS (memS (mem0)))))) | with_reducible exact memS (memS (memS (memS (memS (memS (memS (mem0))))))) | with_reducible exact memS (memS (memS (memS (memS (memS (memS (memS (mem0)))))))) | with_reducible exact memS (memS (memS (memS (memS (memS (memS (memS (memS (mem0))))))))) | with_reducible exact memS (memS (memS (memS (memS (memS (memS (memS (memS (memS (mem0)))))))))) | with_reducible exact memS (memS (memS (memS (memS (memS (memS (memS (memS (memS (memS (mem0))))))))))) | with_reducible exact memS (memS (memS (memS (memS (memS (memS (memS (memS (memS (memS (memS (mem0)))))))))))) | with_reducible exact memS (memS (memS (memS (memS (memS (memS (memS (memS (memS (memS (memS (memS (mem0))))))))))))))) (by omega) (fun _ => rfl)) rfl ?_; clear h a; intro a h
        refine so h hO (yl_assign h rfl) rfl ?_; clear h a; intro a h
        refine so h hO (yl_assign h rfl) rfl ?_; clear h a; intro a h
        refine endL ?_
        refine then_n ?_
        refine seq ?_
        refine region ?_
        refine so h hO (yl_move h rfl) rfl ?_; clear h a; intro a h
        refine so h hO (yl_move h rfl) rfl ?_; clear h a; intro a h
        refine callR h rfl rfl p56 (Contains_spec _ _ hO hrd2 (by first | assumption | exact Val.sub (by assumption) (by repeat (first | with_reducible exact List.Sublist.refl _ | with_reducible refine List.Sublist.cons_cons _ ?_ | refine List.Sublist.cons _ ?_)) | with_reducible exact Val.ext _ _ | exact Val.ent (by first | with_reducible exact mem0 | with_reducible exact memS (mem0) | with_reducible exact memS (memS (mem0)) | with_reducible exact memS (memS (memS (mem0))) | with_reducible exact memS (memS (memS (memS (mem0)))) | with_reducible exact memS (memS (memS (memS (memS (mem0))))) | with_reducible exact memS (memS (memS (memS (memS (memS (mem0)))))) | with_reducible exact memS (memS (memS (memS (memS (memS (memS (mem0))))))) | with_reducible exact memS (memS (memS (memS (memS (memS (memS (memS (mem0)))))))) | with_reducible exact memS (memS (memS (memS (memS (memS (memS (memS (memS (mem0))))))))) | with_reducible exact memS (memS (memS (memS (memS (memS (memS (memS (memS (memS (mem0)))))))))) | with_reducible exact memS (memS (memS (memS (memS (memS (memS (memS (memS (memS (memS (mem0))))))))))) | with_reducible exact memS (memS (memS (memS (memS (memS (memS (memS (memS (memS (memS (memS (mem0)))))))))))) | with_reducible exact memS (memS (memS (memS (memS (memS (memS (memS (memS (memS (memS (memS (memS (mem0)))))))))))))))) rfl ?_; clear h a hO w
        rintro _ w ⟨rfl, hO⟩ a h
        refine so h hO (yl_not h rfl) rfl ?_; clear h a; intro a h
        refine endL ?_
        refine then_n ?_
        refine cond_s h rfl (fun hb3 => ?_) (fun hb3 => ?_)
        · have hp3 := hb3
          try simp only [decide_eq_true_eq, decide_eq_false_iff_not, Bool.not_eq_true', Bool.not_eq_false', Int.not_lt, Int.not_le, ne_eq, Decidable.not_not] at hp3
          refine region ?_
          refine so h hO (yl_load_e h rfl p34 (by first | with_reducible exact mem0 | with_reducible exact memS (mem0) | with_reducible exact memS (memS (mem0)) | with_reducible exact memS (memS (memS (mem0))) | with_reducible exact memS (memS (memS (memS (mem0)))) | with_reducible exact memS (memS (memS (memS (memS (mem0))))) | with_reducible exact memS (memS (memS (memS (memS (memS (mem0)))))) | with_reducible exact memS (memS (memS (memS (memS (memS (memS (mem0))))))) | with_reducible exact memS (memS (memS (memS (memS (memS (memS (memS (mem0)))))))) | with_reducible exact memS (memS (memS (memS (memS (memS (memS (memS (memS (mem0))))))))) | with_reducible exact memS (memS (memS (memS (memS (memS (memS (memS (memS (memS (mem0)))))))))) | with_reducible exact memS (memS (memS (memS (memS (memS (memS (memS (memS (memS (memS (mem0))))))))))) | with_reducible exact memS (memS (memS (memS (memS (memS (memS (memS (memS (memS (memS (memS (mem0)))))))))))) | with_reducible exact memS (memS (memS (memS (memS (memS (memS (memS (memS (memS (memS (memS (memS (mem0)))))))))))))) (by rfl)) rfl ?_; clear h a; intro a h
          refine so h hO (yl_move h rfl) rfl ?_; clear h a; intro a h
          refine stepBuildAll (us := [_]) h hO rfl p0 rfl p4 rfl rfl rfl rfl rfl ?_; clear h hO a w; intro a b33 w h hO
          refine stepApp  h hO rfl rfl p5 rfl (by assumption) (by first | with_reducible exact mem0 | with_reducible exact memS (mem0) | with_reducible exact memS (memS (mem0)) | with_reducible exact memS (memS (memS (mem0))) | with_reducible exact memS (memS (memS (memS (mem0)))) | with_reducible exact memS (memS (memS (memS (memS (mem0))))) | with_reducible exact memS (memS (memS (memS (memS (memS (mem0)))))) | with_reducible exact memS (memS (memS (memS (memS (memS (memS (mem0))))))) | with_reducible exact memS (memS (memS (memS (memS (memS (memS (memS (mem0)))))))) | with_reducible exact memS (memS (memS (memS (memS (memS (memS (memS (memS (mem0))))))))) | with_reducible exact memS (memS (memS (memS (memS (memS (memS (memS (memS (memS (mem0)))))))))) | with_reducible exact memS (memS (memS (memS (memS (memS (memS (memS (memS (memS (memS (mem0))))))))))) | with_reducible exact memS (memS (memS (memS (memS (memS (memS (memS (memS (memS (memS (memS (mem0)))))))))))) | with_reducible exact memS (memS (memS (memS (memS (memS (memS (memS (memS (memS (memS (memS (memS (mem0)))))))))))))) (by rfl) (by rfl) (by rfl) (by (try simp); omega) (by intro e_; first | with_reducible exact .here | with_reducible exact .there (.here) | with_reducible exact .there (.there (.here)) | with_reducible exact .there (.there (.there (.here))) | with_reducible exact .there (.there (.there (.there (.here)))) | with_reducible exact .there (.there (.there (.there (.there (.here))))) | with_reducible exact .there (.there (.there (.there (.there (.there (.here)))))) | with_reducible exact .there (.there (.there (.there (.there (.there (.there (.here))))))) | with_reducible exact .there (.there (.there (.there (.there (.there (.there (.there (.here)))))))) | with_reducible exact .there (.there (.there (.there (.there (.there (.there (.there (.there (.here))))))))) | with_reducible exact .there (.there (.there (.there (.there (.there (.there (.there (.there (.there (.here)))))))))) | with_reducible exact .there (.there (.there (.there (.there (.there (.there (.there (.there (.there (.there (.here))))))))))) | with_reducible exact .there (.there (.there (.there (.there (.there (.there (.there (.there (.there (.there (.there (.here)))))))))))) | with_reducible exact .there (.there (.there (.there (.there (.there (.there (.there (.there (.there (.there (.there (.there (.here)))))))))))))) rfl ?_
          clear h hO a w; intro a v34 e34 w h hM34 hO
          obtain ⟨A34, c34, rfl, hc34⟩ := hM34.form
          have hr34 := hM34.rr
          refine stepStore h hO rfl rfl p55 rfl (by first | with_reducible exact .here | with_reducible exact .there (.here) | with_reducible exact .there (.there (.here)) | with_reducible exact .there (.there (.there (.here))) | with_reducible exact .there (.there (.there (.there (.here)))) | with_reducible exact .there (.there (.there (.there (.there (.here))))) | with_reducible exact .there (.there (.there (.there (.there (.there (.here)))))) | with_reducible exact .there (.there (.there (.there (.there (.there (.there (.here))))))) | with_reducible exact .there (.there (.there (.there (.there (.there (.there (.there (.here)))))))) | with_reducible exact .there (.there (.there (.there (.there (.there (.there (.there (.there (.here))))))))) | with_reducible exact .there (.there (.there (.there (.there (.there (.there (.there (.there (.there (.here)))))))))) | with_reducible exact .there (.there (.there (.there (.there (.there (.there (.there (.there (.there (.there (.here))))))))))) | with_reducible exact .there (.there (.there (.there (.there (.there (.there (.there (.there (.there (.there (.there (.here)))))))))))) | with_reducible exact .there (.there (.there (.there (.there (.there (.there (.there (.there (.there (.there (.there (.there (.here)))))))))))))) (by exact Nat.le_of_ble_eq_true rfl) ?_; clear h hO a w; intro a w h hO
          refine endL ?_
          refine inB_n ?_
          refine then_n ?_
          refine region ?_
          first | (refine so h hO (yl_add64 h rfl rfl (by omega)) rfl ?_) | (refine so h hO (yl_add h rfl rfl) rfl ?_)
          clear h a; intro a h
          refine so h hO (yl_move h rfl) rfl ?_; clear h a; intro a h
          refine endL ?_
          refine then_n ?_
          have hk1 : k < xs.length := by omega
          try simp only [Int.toNat_natCast] at *
          exact ⟨k + 1, by omega, _, _, by omega, (by show Mu _ _ _ (kp xs k ++ _) _ _; rw [if_neg hp3]; exact hM34), h.weak (subB_cons rfl (subB_cons rfl (subB_cons rfl (subB_cons rfl (subB_cons rfl (subB_nil)))))), (by exact hO.drop)⟩
        · have hp3 := hb3
          try simp only [decide_eq_true_eq, decide_eq_false_iff_not, Bool.not_eq_true', Bool.not_eq_false', Int.not_lt, Int.not_le, ne_eq, Decidable.not_not] at hp3
          refine skip ?_
          refine inB_n ?_
          refine then_n ?_
          refine region ?_
          first | (refine so h hO (yl_add64 h rfl rfl (by omega)) rfl ?_) | (refine so h hO (yl_add h rfl rfl) rfl ?_)
          clear h a; intro a h
          refine so h hO (yl_move h rfl) rfl ?_; clear h a; intro a h
          refine endL ?_
          refine then_n ?_
          have hk1 : k < xs.length := by omega
          try simp only [Int.toNat_natCast] at *
          exact ⟨k + 1, by omega, _, _, by omega, (by show Mu _ _ _ (kp xs k ++ _) _ _; rw [if_pos hp3, List.append_nil]; exact hM), h.weak (subB_cons rfl (subB_cons rfl (subB_cons rfl (subB_cons rfl (subB_cons rfl (subB_nil)))))), (by exact hO)⟩
      · have hp2 := hb2
        try simp only [decide_eq_true_eq, decide_eq_false_iff_not, Bool.not_eq_true', Bool.not_eq_false', Int.not_lt, Int.not_le, ne_eq, Decidable.not_not] at hp2
        refine exit_ ?_
        refine then_x ?_
        refine then_x ?_
        refine inB_same ?_
        refine then_n ?_
        refine seq ?_
        refine seq ?_
        refine region ?_
        have hk2 : k = xs.length := by omega
        subst hk2
        have hrd3 := hM.rd
        refine so h hO (yl_load_e h rfl p34 (by first | with_reducible exact mem0 | with_reducible exact memS (mem0) | with_reducible exact memS (memS (mem0)) | with_reducible exact memS (memS (memS (mem0))) | with_reducible exact memS (memS (memS (memS (mem0)))) | with_reducible exact memS (memS (memS (memS (memS (mem0))))) | with_reducible exact memS (memS (memS (memS (memS (memS (mem0)))))) | with_reducible exact memS (memS (memS (memS (memS (memS (memS (mem0))))))) | with_reducible exact memS (memS (memS (memS (memS (memS (memS (memS (mem0)))))))) | with_reducible exact memS (memS (memS (memS (memS (memS (memS (memS (memS (mem0))))))))) | with_reducible exact memS (memS (memS (memS (memS (memS (memS (memS (memS (memS (mem0)))))))))) | with_reducible exact memS (memS (memS (memS (memS (memS (memS (memS (memS (memS (memS (mem0))))))))))) | with_reducible exact memS (memS (memS (memS (memS (memS (memS (memS (memS (memS (memS (memS (mem0)))))))))))) | with_reducible exact memS (memS (memS (memS (memS (memS (memS (memS (memS (memS (memS (memS (memS (mem0)))))))))))))) (by rfl)) rfl ?_; clear h a; intro a h
        refine callR h rfl rfl p35 (left_spec _ hO hrd3 (by first | assumption | exact Val.sub (by assumption) (by repeat (first | with_reducible exact List.Sublist.refl _ | with_reducible refine List.Sublist.cons_cons _ ?_ | refine List.Sublist.cons _ ?_)) | with_reducible exact Val.ext _ _ | exact Val.ent (by first | with_reducible exact mem0 | with_reducible exact memS (mem0) | with_reducible exact memS (memS (mem0)) | with_reducible exact memS (memS (memS (mem0))) | with_reducible exact memS (memS (memS (memS (mem0)))) | with_reducible exact memS (memS (memS (memS (memS (mem0))))) | with_reducible exact memS (memS (memS (memS (memS (memS (mem0)))))) | with_reducible exact memS (memS (memS (memS (memS (memS (memS (mem0))))))) | with_reducible exact memS (memS (memS (memS (memS (memS (memS (memS (mem0)))))))) | with_reducible exact memS (memS (memS (memS (memS (memS (memS (memS (memS (mem0))))))))) | with_reducible exact memS (memS (memS (memS (memS (memS (memS (memS (memS (memS (mem0)))))))))) | with_reducible exact memS (memS (memS (memS (memS (memS (memS (memS (memS (memS (memS (mem0))))))))))) | with_reducible exact memS (memS (memS (memS (memS (memS (memS (memS (memS (memS (memS (memS (mem0)))))))))))) | with_reducible exact memS (memS (memS (memS (memS (memS (memS (memS (memS (memS (memS (memS (memS (mem0))))))))))))))) (fun x hx => hsm x (kp_mem (Nat.le_refl _) x hx)) (by omega)) rfl ?_; clear h a hO w
        rintro _ w ⟨el, hMl, hO⟩ a h
        obtain ⟨Al, cl, rfl, hcl⟩ := hMl.form
        have hrdl := hMl.rd
        refine callR h rfl rfl p57 (Back_spec hO ⟨_, _, _, rfl⟩) rfl ?_; clear h a hO w
        rintro _ w ⟨bx, rfl, hO⟩ a h
        refine endL ?_
        refine then_n ?_
        refine block ?_
        obtain ⟨a1, ha1, hs1⟩ := St.rounds (α := {k : Nat // k < (opens (kp xs xs.length)).length}) (p1 := 39) (p2 := 40) (d := 10) h rfl rfl rfl (fun k => I (k.1 : Int)) (fun k => I ((opens (kp xs xs.length)).getD k.1 default)) (fun k => I ((opens (kp xs xs.length)).getD k.1 default))
        have hO1 := hO.rot22.join
        have hO2 : OwnE w0 w [[(bx, row 24 [.slice Al (opens (kp xs xs.length)).length cl])] ++ el] := (hO.join).sub (by exact .cons_cons _ (List.nil_sublist _))
        refine rangeE (α := {k : Nat // k < (opens (kp xs xs.length)).length}) (encs := (fun k : {k : Nat // k < (opens (kp xs xs.length)).length} => #[I (k.1 : Int), I ((opens (kp xs xs.length)).getD k.1 default)])) (N := (opens (kp xs xs.length)).length) (h.eval rfl) p58 (Back1_seq (opens (kp xs xs.length)) bx hMl.rr hcl (E := el) (by simpa using hO2.nodup) (by simpa using hO2.has)) ((by intro p hp; rcases List.mem_cons.1 hp with rfl | hp; rfl; exact hMl.cells p hp)) (fun _ => rfl) (fun (ks : List {k : Nat // k < (opens (kp xs xs.length)).length}) (E : Ent) => ∃ u eo, E = [(b6, row 24 [u])] ++ eo ∧ Mu I 3 1 ((kp xs xs.length) ++ ks.map fun k => -((opens (kp xs xs.length)).getD k.1 default)) u eo) ((by rintro s e ⟨u, eo, rfl, hM⟩ p hp; rcases List.mem_append.1 hp with hp | hp; (simp at hp; subst hp; rfl); exact hM.cells p hp)) (e := [(b6, row 24 [.slice A3 (kp xs xs.length).length c3])] ++ e) (⟨_, _, rfl, by simpa using hM⟩) (hO1) ((by intro p hp; simp only [List.flatten_cons, List.mem_append, List.mem_cons] at hp ⊢; rcases hp with rfl | hp; simp; simp [hp])) (a1) ?_ ?_ ?_
        · intro l x W K hK
          exact assign1 (v := I ((opens (kp xs xs.length)).getD x.1 default)) ((h.pair rfl rfl _ _).eval (x := .tmp 40) rfl) (by rw [ha1] at hK; exact hK)
        · intro l pre x W e2_ M hΦ hO3 hMM hlt
          have h2 := hs1 x
          clear h hO hO1 hO2 hs1 ha1 hMM hM hc3
          generalize a1 x = a2 at h2 ⊢
          obtain ⟨u, eo, rfl, hM⟩ := hΦ
          have hlM : (pre.map fun k => -((opens (kp xs xs.length)).getD k.1 default)).length = pre.length := by simp
          have hO := hO3.split
          clear hO3 w a
          rename Act => a
          rename World => w
          obtain ⟨A3, c3, rfl, hc3⟩ := hM.form
          have h := h2
          clear h2
          have hl8 := opens_le (kp xs xs.length)
          have hxm := hsm _ (kp_mem (Nat.le_refl _) _ (opens_mem (getD_mem (xs := (opens (kp xs xs.length))) (k := x.1) x.2)))
          refine blockI ?_
          refine regionR ?_
          refine lin rfl ?_
          refine so h hO (yl_load_e h rfl p34 (by first | with_reducible exact mem0 | with_reducible exact memS (mem0) | with_reducible exact memS (memS (mem0)) | with_reducible exact memS (memS (memS (mem0))) | with_reducible exact memS (memS (memS (memS (mem0)))) | with_reducible exact memS (memS (memS (memS (memS (mem0))))) | with_reducible exact memS (memS (memS (memS (memS (memS (mem0)))))) | with_reducible exact memS (memS (memS (memS (memS (memS (memS (mem0))))))) | with_reducible exact memS (memS (memS (memS (memS (memS (memS (memS (mem0)))))))) | with_reducible exact memS (memS (memS (memS (memS (memS (memS (memS (memS (mem0))))))))) | with_reducible exact memS (memS (memS (memS (memS (memS (memS (memS (memS (memS (mem0)))))))))) | with_reducible exact memS (memS (memS (memS (memS (memS (memS (memS (memS (memS (memS (mem0))))))))))) | with_reducible exact memS (memS (memS (memS (memS (memS (memS (memS (memS (memS (memS (memS (mem0)))))))))))) | with_reducible exact memS (memS (memS (memS (memS (memS (memS (memS (memS (memS (memS (memS (memS (mem0)))))))))))))) (by rfl)) rfl ?_; clear h a; intro a h
          refine endE ?_
          refine lin rfl ?_
          refine so h hO (yl_move h rfl) rfl ?_; clear h a; intro a h
          refine endE ?_
          refine lin rfl ?_
          first | (refine so h hO (yl_neg64 h rfl (by omega)) rfl ?_) | (refine so h hO (yl_neg h rfl) rfl ?_)
          clear h a; intro a h
          refine endE ?_
          refine lin rfl ?_
          refine stepBuildAll (us := [_]) h hO rfl p0 rfl p4 rfl rfl rfl rfl rfl ?_; clear h hO a w; intro a b44 w h hO
          refine endE ?_
          refine lin rfl ?_
          refine stepApp  h hO rfl rfl p5 rfl (by assumption) (by first | with_reducible exact mem0 | with_reducible exact memS (mem0) | with_reducible exact memS (memS (mem0)) | with_reducible exact memS (memS (memS (mem0))) | with_reducible exact memS (memS (memS (memS (mem0)))) | with_reducible exact memS (memS (memS (memS (memS (mem0))))) | with_reducible exact memS (memS (memS (memS (memS (memS (mem0)))))) | with_reducible exact memS (memS (memS (memS (memS (memS (memS (mem0))))))) | with_reducible exact memS (memS (memS (memS (memS (memS (memS (memS (mem0)))))))) | with_reducible exact memS (memS (memS (memS (memS (memS (memS (memS (memS (mem0))))))))) | with_reducible exact memS (memS (memS (memS (memS (memS (memS (memS (memS (memS (mem0)))))))))) | with_reducible exact memS (memS (memS (memS (memS (memS (memS (memS (memS (memS (memS (mem0))))))))))) | with_reducible exact memS (memS (memS (memS (memS (memS (memS (memS (memS (memS (memS (memS (mem0)))))))))))) | with_reducible exact memS (memS (memS (memS (memS (memS (memS (memS (memS (memS (memS (memS (memS (mem0)))))))))))))) (by rfl) (by rfl) (by rfl) (by (try simp); omega) (by intro e_; first | with_reducible exact .here | with_reducible exact .there (.here) | with_reducible exact .there (.there (.here)) | with_reducible exact .there (.there (.there (.here))) | with_reducible exact .there (.there (.there (.there (.here)))) | with_reducible exact .there (.there (.there (.there (.there (.here))))) | with_reducible exact .there (.there (.there (.there (.there (.there (.here)))))) | with_reducible exact .there (.there (.there (.there (.there (.there (.there (.here))))))) | with_reducible exact .there (.there (.there (.there (.there (.there (.there (.there (.here)))))))) | with_reducible exact .there (.there (.there (.there (.there (.there (.there (.there (.there (.here))))))))) | with_reducible exact .there (.there (.there (.there (.there (.there (.there (.there (.there (.there (.here)))))))))) | with_reducible exact .there (.there (.there (.there (.there (.there (.there (.there (.there (.there (.there (.here))))))))))) | with_reducible exact .there (.there (.there (.there (.there (.there (.there (.there (.there (.there (.there (.there (.here)))))))))))) | with_reducible exact .there (.there (.there (.there (.there (.there (.there (.there (.there (.there (.there (.there (.there (.here)))))))))))))) rfl ?_
          clear h hO a w; intro a v45 e45 w h hM45 hO
          obtain ⟨A45, c45, rfl, hc45⟩ := hM45.form
          have hr45 := hM45.rr
          refine endE ?_
          refine lin rfl ?_
          refine stepStore h hO rfl rfl p55 rfl (by first | with_reducible exact .here | with_reducible exact .there (.here) | with_reducible exact .there (.there (.here)) | with_reducible exact .there (.there (.there (.here))) | with_reducible exact .there (.there (.there (.there (.here)))) | with_reducible exact .there (.there (.there (.there (.there (.here))))) | with_reducible exact .there (.there (.there (.there (.there (.there (.here)))))) | with_reducible exact .there (.there (.there (.there (.there (.there (.there (.here))))))) | with_reducible exact .there (.there (.there (.there (.there (.there (.there (.there (.here)))))))) | with_reducible exact .there (.there (.there (.there (.there (.there (.there (.there (.there (.here))))))))) | with_reducible exact .there (.there (.there (.there (.there (.there (.there (.there (.there (.there (.here)))))))))) | with_reducible exact .there (.there (.there (.there (.there (.there (.there (.there (.there (.there (.there (.here))))))))))) | with_reducible exact .there (.there (.there (.there (.there (.there (.there (.there (.there (.there (.there (.there (.here)))))))))))) | with_reducible exact .there (.there (.there (.there (.there (.there (.there (.there (.there (.there (.there (.there (.there (.here)))))))))))))) (by exact Nat.le_of_ble_eq_true rfl) ?_; clear h hO a w; intro a w h hO
          refine endE ?_
          refine endLI ?_
          refine inB_n ?_
          exact ⟨_, _, ⟨_, _, rfl, (by rw [List.map_append, ← List.append_assoc]; exact hM45)⟩, OwnE.join2 (OwnE.rot3 (by exact hO)), (by have := hM.le1; simp; omega)⟩
        · intro Db ks W e3_ hS hΦ hO3
          obtain ⟨u, eo, rfl, hM4⟩ := hΦ
          have h2 := h.mark { target := .collected Db, args := #[] }
          rw [back_all hS] at hM4
          have hmm : mend xs = (kp xs xs.length) ++ ((opens (kp xs xs.length)).reverse.map fun n => -n) := rfl
          rw [← hmm] at hM4
          clear h hO hO1 hO2 hs1 ha1 hM hc3 hrdl hS
          have hO := hO3.split2
          clear hO3
          generalize ({ tmps := a.tmps, defers := _ } : Act) = a9 at h2 ⊢
          clear a w
          rename Act => a
          rename World => w
          have h := h2
          clear h2
          have hM := hM4
          obtain ⟨A3, c3, rfl, hc3⟩ := hM.form
          refine inB_n ?_
          refine then_n ?_
          refine seq ?_
          refine seq ?_
          refine region ?_
          refine so h hO (yl_load_e h rfl p34 (by first | with_reducible exact mem0 | with_reducible exact memS (mem0) | with_reducible exact memS (memS (mem0)) | with_reducible exact memS (memS (memS (mem0))) | with_reducible exact memS (memS (memS (memS (mem0)))) | with_reducible exact memS (memS (memS (memS (memS (mem0))))) | with_reducible exact memS (memS (memS (memS (memS (memS (mem0)))))) | with_reducible exact memS (memS (memS (memS (memS (memS (memS (mem0))))))) | with_reducible exact memS (memS (memS (memS (memS (memS (memS (memS (mem0)))))))) | with_reducible exact memS (memS (memS (memS (memS (memS (memS (memS (memS (mem0))))))))) | with_reducible exact memS (memS (memS (memS (memS (memS (memS (memS (memS (memS (mem0)))))))))) | with_reducible exact memS (memS (memS (memS (memS (memS (memS (memS (memS (memS (memS (mem0))))))))))) | with_reducible exact memS (memS (memS (memS (memS (memS (memS (memS (memS (memS (memS (memS (mem0)))))))))))) | with_reducible exact memS (memS (memS (memS (memS (memS (memS (memS (memS (memS (memS (memS (memS (mem0)))))))))))))) (by rfl)) rfl ?_; clear h a; intro a h
          refine so h hO (yl_len h rfl p0) rfl ?_; clear h a; intro a h
          refine so h hO (yl_gt h rfl rfl) rfl ?_; clear h a; intro a h
          refine endL ?_
          refine then_n ?_
          refine cond_s h rfl (fun hb4 => ?_) (fun hb4 => ?_)
          · have hp4 := hb4
            try simp only [decide_eq_true_eq, decide_eq_false_iff_not, Bool.not_eq_true', Bool.not_eq_false', Int.not_lt, Int.not_le, ne_eq, Decidable.not_not] at hp4
            refine seq ?_
            refine region ?_
            refine so h hO (yl_assign h rfl) rfl ?_; clear h a; intro a h
            refine so h hO (yl_assign h rfl) rfl ?_; clear h a; intro a h
            refine endL ?_
            refine then_n ?_
            refine retc ?_
            have hmk := Marks.ofE (hO)
            refine then_r (retM h hmk Try.results18 (.tmp rfl (.tmp rfl .nil)) (fun w hO => ?_)); clear hmk
            refine Ret.mk ?_
            rw [hok, decide_eq_false (by omega)]
            exact ⟨_, [], rfl, Rd.nil _ _ _ _ (by decide), (OwnE.nilE (by exact hO.sub (by repeat (first | with_reducible exact List.Sublist.refl _ | with_reducible refine List.Sublist.cons_cons _ ?_ | refine List.Sublist.cons _ ?_))))⟩
          · have hp4 := hb4
            try simp only [decide_eq_true_eq, decide_eq_false_iff_not, Bool.not_eq_true', Bool.not_eq_false', Int.not_lt, Int.not_le, ne_eq, Decidable.not_not] at hp4
            refine skip ?_
            refine then_n ?_
            refine seq ?_
            refine region ?_
            refine so h hO (yl_load_e h rfl p34 (by first | with_reducible exact mem0 | with_reducible exact memS (mem0) | with_reducible exact memS (memS (mem0)) | with_reducible exact memS (memS (memS (mem0))) | with_reducible exact memS (memS (memS (memS (mem0)))) | with_reducible exact memS (memS (memS (memS (memS (mem0))))) | with_reducible exact memS (memS (memS (memS (memS (memS (mem0)))))) | with_reducible exact memS (memS (memS (memS (memS (memS (memS (mem0))))))) | with_reducible exact memS (memS (memS (memS (memS (memS (memS (memS (mem0)))))))) | with_reducible exact memS (memS (memS (memS (memS (memS (memS (memS (memS (mem0))))))))) | with_reducible exact memS (memS (memS (memS (memS (memS (memS (memS (memS (memS (mem0)))))))))) | with_reducible exact memS (memS (memS (memS (memS (memS (memS (memS (memS (memS (memS (mem0))))))))))) | with_reducible exact memS (memS (memS (memS (memS (memS (memS (memS (memS (memS (memS (memS (mem0)))))))))))) | with_reducible exact memS (memS (memS (memS (memS (memS (memS (memS (memS (memS (memS (memS (memS (mem0)))))))))))))) (by rfl)) rfl ?_; clear h a; intro a h
            refine so h hO (yl_assign h rfl) rfl ?_; clear h a; intro a h
            refine so h hO (yl_assign h rfl) rfl ?_; clear h a; intro a h
            refine endL ?_
            refine then_n ?_
            refine retc ?_
            have hmk := Marks.ofE (hO)
            refine retM h hmk Try.results18 (.tmp rfl (.tmp rfl .nil)) (fun w hO => ?_); clear hmk
            refine Ret.mk ?_
            have hm : (mend xs).length ≤ 60 := by omega
            rw [hok, decide_eq_true hm]
            exact ⟨_, _, rfl, hM.rd, (by exact hO.sub (by repeat (first | with_reducible exact List.Sublist.refl _ | with_reducible refine List.Sublist.cons_cons _ ?_ | refine List.Sublist.cons _ ?_)))⟩
end Go.Proofs.Ytebfglbnemahiaa
