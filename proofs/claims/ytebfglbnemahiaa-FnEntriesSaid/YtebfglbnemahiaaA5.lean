import Derived.Test.YtebfglbnemahiaaProg
import Derived.Test.YtebfglbnemahiaaA4
namespace Go.Proofs.Ytebfglbnemahiaa
open Go.RowKit Go.E Go.Ents
set_option linter.unusedVariables false
set_option linter.unusedSimpArgs false
theorem p49 : ((Try.prog.funcs[38]?).any fun fn => fn.body.isSome && fn.name != "runtime.NumGoroutine") = true := by kernel_rfl
theorem p50 : ((Try.prog.funcs[40]?).any fun fn => fn.body.isSome && fn.name != "runtime.NumGoroutine") = true := by kernel_rfl
theorem p51 : ((Try.prog.funcs[41]?).any fun fn => fn.body.isSome && fn.name != "runtime.NumGoroutine") = true := by kernel_rfl
theorem p52 : (Try.prog.info? 41).bind (·.zero) = some (.agg ⟨[(.slice none 0 0), (.int .i64 0), (.int .u64 0)]⟩) := by kernel_rfl
theorem p53 : structPl Try.prog 41 = some [(0, 1), (1, 1), (2, 1)] := by kernel_rfl
theorem p54 : ((Try.prog.funcs[22]?).any fun fn => fn.body.isSome && fn.name != "runtime.NumGoroutine") = true := by kernel_rfl
set_option maxHeartbeats 4000000 in
theorem entries7_spec {bc : Nat} {e : Ent} {w0 w : World} {L : List Ent} (hO : OwnE w0 w (e :: L)) (hC : CurAt w0 41 bc 0 e) : Calls Try.prog 22 ⟨[.pointer (some ⟨bc, 0, none⟩)]⟩ w (Ret (fun v w => ∃ xs e', Rd I 1 (inE e') xs v ∧ OwnE w0 w (e' :: L))) := by
  refine enter Try.func22 rfl Try.ntmps22 rfl ?_
  intro a h
  refine seq ?_
  refine region ?_
  refine so h hO (yl_assign h rfl) rfl ?_; clear h a; intro a h
  refine endL ?_
  refine then_n ?_
  refine seq ?_
  refine region ?_
  refine stepBuildAll (us := []) h hO rfl p0 rfl p4 rfl rfl rfl rfl rfl ?_; clear h hO a w; intro a b11 w h hO
  refine so h hO (yl_assign h rfl) rfl ?_; clear h a; intro a h
  refine endL ?_
  refine then_n ?_
  refine seq ?_
  refine seq ?_
  refine region ?_
  refine so h hO (yl_move h rfl) rfl ?_; clear h a; intro a h
  refine stepBuildAll (us := [_, _, _, _, _, _, _, _, _]) h hO rfl p0 rfl p4 rfl rfl rfl rfl rfl ?_; clear h hO a w; intro a b13 w h hO
  refine callR h rfl rfl p49 (liftC (by assumption) hO (by intro e_; first | with_reducible exact .here | with_reducible exact .there (.here) | with_reducible exact .there (.there (.here)) | with_reducible exact .there (.there (.there (.here))) | with_reducible exact .there (.there (.there (.there (.here)))) | with_reducible exact .there (.there (.there (.there (.there (.here))))) | with_reducible exact .there (.there (.there (.there (.there (.there (.here)))))) | with_reducible exact .there (.there (.there (.there (.there (.there (.there (.here))))))) | with_reducible exact .there (.there (.there (.there (.there (.there (.there (.there (.here)))))))) | with_reducible exact .there (.there (.there (.there (.there (.there (.there (.there (.there (.here))))))))) | with_reducible exact .there (.there (.there (.there (.there (.there (.there (.there (.there (.there (.here)))))))))) | with_reducible exact .there (.there (.there (.there (.there (.there (.there (.there (.there (.there (.there (.here))))))))))) | with_reducible exact .there (.there (.there (.there (.there (.there (.there (.there (.there (.there (.there (.there (.here)))))))))))) | with_reducible exact .there (.there (.there (.there (.there (.there (.there (.there (.there (.there (.there (.there (.there (.here)))))))))))))) (fun M hk_ hO hC => among_spec [5, 4, 6, 3, 8, 2, 1, 0, 12] hO (Rd.lit [5, 4, 6, 3, 8, 2, 1, 0, 12] b13 3 (by simp)) (Val.ent (hk_ _ (by intro e_; first | exact mem0 | exact memS (mem0) | exact memS (memS (mem0)) | exact memS (memS (memS (mem0))) | exact memS (memS (memS (memS (mem0)))) | exact memS (memS (memS (memS (memS (mem0))))) | exact memS (memS (memS (memS (memS (memS (mem0)))))) | exact memS (memS (memS (memS (memS (memS (memS (mem0))))))) | exact memS (memS (memS (memS (memS (memS (memS (memS (mem0)))))))) | exact memS (memS (memS (memS (memS (memS (memS (memS (memS (mem0))))))))) | exact memS (memS (memS (memS (memS (memS (memS (memS (memS (memS (mem0)))))))))) | exact memS (memS (memS (memS (memS (memS (memS (memS (memS (memS (memS (mem0))))))))))) | exact memS (memS (memS (memS (memS (memS (memS (memS (memS (memS (memS (memS (mem0)))))))))))) | exact memS (memS (memS (memS (memS (memS (memS (memS (memS (memS (memS (memS (memS (mem0)))))))))))))))) (by simp) hC (by omega))) rfl ?_; clear h a hO w
  rintro _ w ⟨ec, ⟨⟨n, hn, rfl⟩, hC⟩, hO⟩ a h
  refine so h hO (yl_assign h rfl) rfl ?_; clear h a; intro a h
  refine endL ?_
  refine then_n ?_
  refine block ?_
  refine loop (fun (x : Nat) a w => ∃ (xs : List Int) (u : Value) (eo ec : Ent) (N : Nat) (n : Int), n = x ∧ xs.length + x ≤ 12 ∧ (∀ y ∈ xs, -32767 ≤ y ∧ y ≤ 32767) ∧ Mu I 3 1 xs u eo ∧ CurAt w0 41 bc N ec ∧ N + 8 * x ≤ 200 ∧ St 101 [] [(0, .pointer (some ⟨bc, 0, none⟩)), (3, u), (4, .int .i64 n)] a ∧ OwnE w0 w (eo :: ec :: L)) (fun x => x) n.toNat ?_ ?_
  · have hn2 : 0 ≤ n ∧ n ≤ 12 := by simp only [List.mem_cons, List.not_mem_nil, or_false] at hn; omega
    exact ⟨[], _, _, _, _, _, by omega, by simp; omega, by simp, Mu.nil' _ _ _ _, hC, by omega, h.weak (subB_cons rfl (subB_cons rfl (subB_cons rfl (subB_nil)))), hO.drop⟩
  · clear h a hO w
    rintro x a w ⟨xs, u, eo, ec, N, n, hnx, hlen, hsm, hM, hC, hN, h, hO⟩
    obtain ⟨A1, c1, rfl, hc1⟩ := hM.form
    have hrd1 := hM.rd
    refine seq ?_
    refine seq ?_
    refine region ?_
    refine so h hO (yl_move h rfl) rfl ?_; clear h a; intro a h
    refine so h hO (yl_gt h rfl rfl) rfl ?_; clear h a; intro a h
    refine endL ?_
    refine then_n ?_
    refine cond_s h rfl (fun hb1 => ?_) (fun hb1 => ?_)
    · have hp1 := hb1
      try simp only [decide_eq_true_eq, decide_eq_false_iff_not, Bool.not_eq_true', Bool.not_eq_false', Int.not_lt, Int.not_le, ne_eq, Decidable.not_not] at hp1
      refine skip ?_
      refine then_n ?_
      refine seq ?_
      refine block ?_
      refine seq ?_
      refine region ?_
      refine so h hO (yl_move h rfl) rfl ?_; clear h a; intro a h
      refine callR h rfl rfl p19 (lift0 (fun M hk_ hO => pick_spec _ (N := _) hO (by assumption) (by omega)) hO (by intro e_; first | with_reducible exact .here | with_reducible exact .there (.here) | with_reducible exact .there (.there (.here)) | with_reducible exact .there (.there (.there (.here))) | with_reducible exact .there (.there (.there (.there (.here)))) | with_reducible exact .there (.there (.there (.there (.there (.here))))) | with_reducible exact .there (.there (.there (.there (.there (.there (.here)))))) | with_reducible exact .there (.there (.there (.there (.there (.there (.there (.here))))))) | with_reducible exact .there (.there (.there (.there (.there (.there (.there (.there (.here)))))))) | with_reducible exact .there (.there (.there (.there (.there (.there (.there (.there (.there (.here))))))))) | with_reducible exact .there (.there (.there (.there (.there (.there (.there (.there (.there (.there (.here)))))))))) | with_reducible exact .there (.there (.there (.there (.there (.there (.there (.there (.there (.there (.there (.here))))))))))) | with_reducible exact .there (.there (.there (.there (.there (.there (.there (.there (.there (.there (.there (.there (.here)))))))))))) | with_reducible exact .there (.there (.there (.there (.there (.there (.there (.there (.there (.there (.there (.there (.there (.here))))))))))))))) rfl ?_; clear h a hO w
      rintro _ w ⟨ec, ⟨⟨r, rfl, hr0, hr1⟩, hC⟩, hO⟩ a h
      first | (refine so h hO (yl_add64 h rfl rfl (by omega)) rfl ?_) | (refine so h hO (yl_add h rfl rfl) rfl ?_)
      clear h a; intro a h
      refine so h hO (yl_assign h rfl) rfl ?_; clear h a; intro a h
      refine endL ?_
      refine then_n ?_
      refine seq ?_
      refine region ?_
      refine so h hO (yl_move h rfl) rfl ?_; clear h a; intro a h
      refine callR h rfl rfl p36 (l7Read_spec _ hO (by assumption) (by first | assumption | exact Val.sub (by assumption) (by repeat (first | with_reducible exact List.Sublist.refl _ | with_reducible refine List.Sublist.cons_cons _ ?_ | refine List.Sublist.cons _ ?_)) | with_reducible exact Val.ext _ _ | exact Val.ent (by first | with_reducible exact mem0 | with_reducible exact memS (mem0) | with_reducible exact memS (memS (mem0)) | with_reducible exact memS (memS (memS (mem0))) | with_reducible exact memS (memS (memS (memS (mem0)))) | with_reducible exact memS (memS (memS (memS (memS (mem0))))) | with_reducible exact memS (memS (memS (memS (memS (memS (mem0)))))) | with_reducible exact memS (memS (memS (memS (memS (memS (memS (mem0))))))) | with_reducible exact memS (memS (memS (memS (memS (memS (memS (memS (mem0)))))))) | with_reducible exact memS (memS (memS (memS (memS (memS (memS (memS (memS (mem0))))))))) | with_reducible exact memS (memS (memS (memS (memS (memS (memS (memS (memS (memS (mem0)))))))))) | with_reducible exact memS (memS (memS (memS (memS (memS (memS (memS (memS (memS (memS (mem0))))))))))) | with_reducible exact memS (memS (memS (memS (memS (memS (memS (memS (memS (memS (memS (memS (mem0)))))))))))) | with_reducible exact memS (memS (memS (memS (memS (memS (memS (memS (memS (memS (memS (memS (memS (mem0))))))))))))))) (by assumption) (by omega)) rfl ?_; clear h a hO w
      rintro _ w ⟨v1, v2, e1, e2, rfl, hM1, hM2, hO⟩ a h
      obtain ⟨A1, c1, rfl, hc1⟩ := hM1.form
      obtain ⟨A2, c2, rfl, hc2⟩ := hM2.form
      have hrd1 := hM1.rd
      have hrd2 := hM2.rd
      have hr1 := hM1.rr
      have hr2 := hM2.rr
      refine so h hO (yl_move h rfl) rfl ?_; clear h a; intro a h
      refine so h hO (yl_extract h rfl rfl) rfl ?_; clear h a; intro a h
      refine so h hO (yl_extract h rfl rfl) rfl ?_; clear h a; intro a h
      refine so h hO (yl_assign h rfl) rfl ?_; clear h a; intro a h
      refine so h hO (yl_assign h rfl) rfl ?_; clear h a; intro a h
      refine endL ?_
      refine then_n ?_
      refine seq ?_
      refine seq ?_
      refine region ?_
      refine so h hO (yl_move h rfl) rfl ?_; clear h a; intro a h
      refine so h hO (yl_len h rfl p0) rfl ?_; clear h a; intro a h
      refine so h hO (yl_gt h rfl rfl) rfl ?_; clear h a; intro a h
      refine so h hO (yl_move h rfl) rfl ?_; clear h a; intro a h
      refine split h 30 rfl (fun hb2 => ?_) (fun hb2 => ?_)
      · have hp2 := hb2
        try simp only [decide_eq_true_eq, decide_eq_false_iff_not, Bool.not_eq_true', Bool.not_eq_false', Int.not_lt, Int.not_le, ne_eq, Decidable.not_not] at hp2
        refine sog h hO (j := 3) rfl rfl hb2 (yl_move h rfl) rfl ?_; clear h a; intro a h
        refine callRg h (j := 3) rfl rfl hb2 rfl rfl p50 (lift0 (fun M hk_ hO => one_spec _ (N := _) hO (by assumption) (by omega)) hO (by intro e_; first | with_reducible exact .here | with_reducible exact .there (.here) | with_reducible exact .there (.there (.here)) | with_reducible exact .there (.there (.there (.here))) | with_reducible exact .there (.there (.there (.there (.here)))) | with_reducible exact .there (.there (.there (.there (.there (.here))))) | with_reducible exact .there (.there (.there (.there (.there (.there (.here)))))) | with_reducible exact .there (.there (.there (.there (.there (.there (.there (.here))))))) | with_reducible exact .there (.there (.there (.there (.there (.there (.there (.there (.here)))))))) | with_reducible exact .there (.there (.there (.there (.there (.there (.there (.there (.there (.here))))))))) | with_reducible exact .there (.there (.there (.there (.there (.there (.there (.there (.there (.there (.here)))))))))) | with_reducible exact .there (.there (.there (.there (.there (.there (.there (.there (.there (.there (.there (.here))))))))))) | with_reducible exact .there (.there (.there (.there (.there (.there (.there (.there (.there (.there (.there (.there (.here)))))))))))) | with_reducible exact .there (.there (.there (.there (.there (.there (.there (.there (.there (.there (.there (.there (.there (.here))))))))))))))) rfl ?_; clear h a hO w
        rintro _ w ⟨ec, ⟨⟨bo, rfl⟩, hC⟩, hO⟩ a h
        refine so h hO (yl_pick_t h rfl hb2 rfl) rfl ?_; clear h a; intro a h
        refine endL ?_
        refine then_n ?_
        refine cond_s h rfl (fun hb3 => ?_) (fun hb3 => ?_)
        · have hp3 := hb3
          try simp only [decide_eq_true_eq, decide_eq_false_iff_not, Bool.not_eq_true', Bool.not_eq_false', Int.not_lt, Int.not_le, ne_eq, Decidable.not_not] at hp3
          refine region ?_
          refine so h hO (yl_move h rfl) rfl ?_; clear h a; intro a h
          refine so h hO (yl_move h rfl) rfl ?_; clear h a; intro a h
          refine so h hO (yl_len h rfl p0) rfl ?_; clear h a; intro a h
          first | (refine so h hO (yl_sub64 h rfl rfl (by omega)) rfl ?_) | (refine so h hO (yl_sub h rfl rfl) rfl ?_)
          clear h a; intro a h
          refine so h hO (yl_move h rfl) rfl ?_; clear h a; intro a h
          refine so h hO (yl_move h rfl) rfl ?_; clear h a; intro a h
          refine so h hO (yl_len h rfl p0) rfl ?_; clear h a; intro a h
          refine callR h rfl rfl p51 (l1Least_spec _ _ hO) rfl ?_; clear h a hO w
          rintro _ w ⟨rfl, hO⟩ a h
          refine callR h rfl rfl p19 (lift0 (fun M hk_ hO => pick_spec _ (N := _) hO (by assumption) (by omega)) hO (by intro e_; first | with_reducible exact .here | with_reducible exact .there (.here) | with_reducible exact .there (.there (.here)) | with_reducible exact .there (.there (.there (.here))) | with_reducible exact .there (.there (.there (.there (.here)))) | with_reducible exact .there (.there (.there (.there (.there (.here))))) | with_reducible exact .there (.there (.there (.there (.there (.there (.here)))))) | with_reducible exact .there (.there (.there (.there (.there (.there (.there (.here))))))) | with_reducible exact .there (.there (.there (.there (.there (.there (.there (.there (.here)))))))) | with_reducible exact .there (.there (.there (.there (.there (.there (.there (.there (.there (.here))))))))) | with_reducible exact .there (.there (.there (.there (.there (.there (.there (.there (.there (.there (.here)))))))))) | with_reducible exact .there (.there (.there (.there (.there (.there (.there (.there (.there (.there (.there (.here))))))))))) | with_reducible exact .there (.there (.there (.there (.there (.there (.there (.there (.there (.there (.there (.there (.here)))))))))))) | with_reducible exact .there (.there (.there (.there (.there (.there (.there (.there (.there (.there (.there (.there (.there (.here))))))))))))))) rfl ?_; clear h a hO w
          rintro _ w ⟨ec, ⟨⟨r, rfl, hr0, hr1⟩, hC⟩, hO⟩ a h
          first | (refine so h hO (yl_sub64 h rfl rfl (by omega)) rfl ?_) | (refine so h hO (yl_sub h rfl rfl) rfl ?_)
          clear h a; intro a h
          refine so h hO (yl_ix h rfl rfl p0 (by assumption) (by simp) (by omega)) rfl ?_; clear h a; intro a h
          have hx := hsm _ (opens_mem (getD_mem (xs := opens xs) (k := (((opens xs).length : Int) - 1 - r).toNat) (by omega)))
          refine so h hO (yl_ld1 h rfl p1 (by assumption) (by first | assumption | exact Val.sub (by assumption) (by repeat (first | with_reducible exact List.Sublist.refl _ | with_reducible refine List.Sublist.cons_cons _ ?_ | refine List.Sublist.cons _ ?_)) | with_reducible exact Val.ext _ _ | exact Val.ent (by first | with_reducible exact mem0 | with_reducible exact memS (mem0) | with_reducible exact memS (memS (mem0)) | with_reducible exact memS (memS (memS (mem0))) | with_reducible exact memS (memS (memS (memS (mem0)))) | with_reducible exact memS (memS (memS (memS (memS (mem0))))) | with_reducible exact memS (memS (memS (memS (memS (memS (mem0)))))) | with_reducible exact memS (memS (memS (memS (memS (memS (memS (mem0))))))) | with_reducible exact memS (memS (memS (memS (memS (memS (memS (memS (mem0)))))))) | with_reducible exact memS (memS (memS (memS (memS (memS (memS (memS (memS (mem0))))))))) | with_reducible exact memS (memS (memS (memS (memS (memS (memS (memS (memS (memS (mem0)))))))))) | with_reducible exact memS (memS (memS (memS (memS (memS (memS (memS (memS (memS (memS (mem0))))))))))) | with_reducible exact memS (memS (memS (memS (memS (memS (memS (memS (memS (memS (memS (memS (mem0)))))))))))) | with_reducible exact memS (memS (memS (memS (memS (memS (memS (memS (memS (memS (memS (memS (memS (mem0))))))))))))))) (by omega) (fun _ => rfl)) rfl ?_; clear h a; intro a h
          first | (refine so h hO (yl_neg64 h rfl (by omega)) rfl ?_) | (refine so h hO (yl_neg h rfl) rfl ?_)
          clear h a; intro a h
          refine so h hO (yl_assign h rfl) rfl ?_; clear h a; intro a h
          refine endL ?_
          refine then_n ?_
          refine region ?_
          refine so h hO (yl_move h rfl) rfl ?_; clear h a; intro a h
          refine so h hO (yl_move h rfl) rfl ?_; clear h a; intro a h
          refine stepBuildAll (us := [_]) h hO rfl p0 rfl p4 rfl rfl rfl rfl rfl ?_; clear h hO a w; intro a b54 w h hO
          refine stepApp  h hO rfl rfl p5 rfl (by assumption) (by first | with_reducible exact mem0 | with_reducible exact memS (mem0) | with_reducible exact memS (memS (mem0)) | with_reducible exact memS (memS (memS (mem0))) | with_reducible exact memS (memS (memS (memS (mem0)))) | with_reducible exact memS (memS (memS (memS (memS (mem0))))) | with_reducible exact memS (memS (memS (memS (memS (memS (mem0)))))) | with_reducible exact memS (memS (memS (memS (memS (memS (memS (mem0))))))) | with_reducible exact memS (memS (memS (memS (memS (memS (memS (memS (mem0)))))))) | with_reducible exact memS (memS (memS (memS (memS (memS (memS (memS (memS (mem0))))))))) | with_reducible exact memS (memS (memS (memS (memS (memS (memS (memS (memS (memS (mem0)))))))))) | with_reducible exact memS (memS (memS (memS (memS (memS (memS (memS (memS (memS (memS (mem0))))))))))) | with_reducible exact memS (memS (memS (memS (memS (memS (memS (memS (memS (memS (memS (memS (mem0)))))))))))) | with_reducible exact memS (memS (memS (memS (memS (memS (memS (memS (memS (memS (memS (memS (memS (mem0)))))))))))))) (by rfl) (by rfl) (by rfl) (by (try simp); omega) (by intro e_; first | with_reducible exact .here | with_reducible exact .there (.here) | with_reducible exact .there (.there (.here)) | with_reducible exact .there (.there (.there (.here))) | with_reducible exact .there (.there (.there (.there (.here)))) | with_reducible exact .there (.there (.there (.there (.there (.here))))) | with_reducible exact .there (.there (.there (.there (.there (.there (.here)))))) | with_reducible exact .there (.there (.there (.there (.there (.there (.there (.here))))))) | with_reducible exact .there (.there (.there (.there (.there (.there (.there (.there (.here)))))))) | with_reducible exact .there (.there (.there (.there (.there (.there (.there (.there (.there (.here))))))))) | with_reducible exact .there (.there (.there (.there (.there (.there (.there (.there (.there (.there (.here)))))))))) | with_reducible exact .there (.there (.there (.there (.there (.there (.there (.there (.there (.there (.there (.here))))))))))) | with_reducible exact .there (.there (.there (.there (.there (.there (.there (.there (.there (.there (.there (.there (.here)))))))))))) | with_reducible exact .there (.there (.there (.there (.there (.there (.there (.there (.there (.there (.there (.there (.there (.here)))))))))))))) rfl ?_
          clear h hO a w; intro a v55 e55 w h hM55 hO
          obtain ⟨A55, c55, rfl, hc55⟩ := hM55.form
          have hr55 := hM55.rr
          refine so h hO (yl_assign h rfl) rfl ?_; clear h a; intro a h
          refine endL ?_
          refine inB_n ?_
          refine then_n ?_
          refine region ?_
          refine so h hO (yl_move h rfl) rfl ?_; clear h a; intro a h
          first | (refine so h hO (yl_sub64 h rfl rfl (by omega)) rfl ?_) | (refine so h hO (yl_sub h rfl rfl) rfl ?_)
          clear h a; intro a h
          refine so h hO (yl_assign h rfl) rfl ?_; clear h a; intro a h
          refine endL ?_
          refine then_n ?_
          refine ⟨x - 1, by omega, xs ++ [_], _, _, _, _, _, by omega, by simp; omega, (by intro y hy; exact (List.mem_append.1 hy).elim (hsm y) (fun hy => by simp only [List.mem_singleton] at hy; subst hy; first | omega | (simp only [List.mem_cons, List.not_mem_nil, or_false] at hn; omega))), hM55, hC, by omega, h.weak (subB_cons rfl (subB_cons rfl (subB_cons rfl (subB_nil)))), (by exact hO.sub (by repeat (first | with_reducible exact List.Sublist.refl _ | with_reducible refine List.Sublist.cons_cons _ ?_ | refine List.Sublist.cons _ ?_)))⟩
        · have hp3 := hb3
          try simp only [decide_eq_true_eq, decide_eq_false_iff_not, Bool.not_eq_true', Bool.not_eq_false', Int.not_lt, Int.not_le, ne_eq, Decidable.not_not] at hp3
          refine seq ?_
          refine region ?_
          refine so h hO (yl_move h rfl) rfl ?_; clear h a; intro a h
          refine callR h rfl rfl p50 (lift0 (fun M hk_ hO => one_spec _ (N := _) hO (by assumption) (by omega)) hO (by intro e_; first | with_reducible exact .here | with_reducible exact .there (.here) | with_reducible exact .there (.there (.here)) | with_reducible exact .there (.there (.there (.here))) | with_reducible exact .there (.there (.there (.there (.here)))) | with_reducible exact .there (.there (.there (.there (.there (.here))))) | with_reducible exact .there (.there (.there (.there (.there (.there (.here)))))) | with_reducible exact .there (.there (.there (.there (.there (.there (.there (.here))))))) | with_reducible exact .there (.there (.there (.there (.there (.there (.there (.there (.here)))))))) | with_reducible exact .there (.there (.there (.there (.there (.there (.there (.there (.there (.here))))))))) | with_reducible exact .there (.there (.there (.there (.there (.there (.there (.there (.there (.there (.here)))))))))) | with_reducible exact .there (.there (.there (.there (.there (.there (.there (.there (.there (.there (.there (.here))))))))))) | with_reducible exact .there (.there (.there (.there (.there (.there (.there (.there (.there (.there (.there (.there (.here)))))))))))) | with_reducible exact .there (.there (.there (.there (.there (.there (.there (.there (.there (.there (.there (.there (.there (.here))))))))))))))) rfl ?_; clear h a hO w
          rintro _ w ⟨ec, ⟨⟨bo, rfl⟩, hC⟩, hO⟩ a h
          refine endL ?_
          refine then_n ?_
          refine cond_s h rfl (fun hb4 => ?_) (fun hb4 => ?_)
          · have hp4 := hb4
            try simp only [decide_eq_true_eq, decide_eq_false_iff_not, Bool.not_eq_true', Bool.not_eq_false', Int.not_lt, Int.not_le, ne_eq, Decidable.not_not] at hp4
            refine region ?_
            refine so h hO (yl_move h rfl) rfl ?_; clear h a; intro a h
            refine stepBuildAll (us := [_, _, _, _, _]) h hO rfl p0 rfl p4 rfl rfl rfl rfl rfl ?_; clear h hO a w; intro a b50 w h hO
            refine callR h rfl rfl p49 (liftC (by assumption) hO (by intro e_; first | with_reducible exact .here | with_reducible exact .there (.here) | with_reducible exact .there (.there (.here)) | with_reducible exact .there (.there (.there (.here))) | with_reducible exact .there (.there (.there (.there (.here)))) | with_reducible exact .there (.there (.there (.there (.there (.here))))) | with_reducible exact .there (.there (.there (.there (.there (.there (.here)))))) | with_reducible exact .there (.there (.there (.there (.there (.there (.there (.here))))))) | with_reducible exact .there (.there (.there (.there (.there (.there (.there (.there (.here)))))))) | with_reducible exact .there (.there (.there (.there (.there (.there (.there (.there (.there (.here))))))))) | with_reducible exact .there (.there (.there (.there (.there (.there (.there (.there (.there (.there (.here)))))))))) | with_reducible exact .there (.there (.there (.there (.there (.there (.there (.there (.there (.there (.there (.here))))))))))) | with_reducible exact .there (.there (.there (.there (.there (.there (.there (.there (.there (.there (.there (.there (.here)))))))))))) | with_reducible exact .there (.there (.there (.there (.there (.there (.there (.there (.there (.there (.there (.there (.there (.here)))))))))))))) (fun M hk_ hO hC => among_spec [-1, -2, 0, 32767, -32767] hO (Rd.lit [-1, -2, 0, 32767, -32767] b50 3 (by simp)) (Val.ent (hk_ _ (by intro e_; first | exact mem0 | exact memS (mem0) | exact memS (memS (mem0)) | exact memS (memS (memS (mem0))) | exact memS (memS (memS (memS (mem0)))) | exact memS (memS (memS (memS (memS (mem0))))) | exact memS (memS (memS (memS (memS (memS (mem0)))))) | exact memS (memS (memS (memS (memS (memS (memS (mem0))))))) | exact memS (memS (memS (memS (memS (memS (memS (memS (mem0)))))))) | exact memS (memS (memS (memS (memS (memS (memS (memS (memS (mem0))))))))) | exact memS (memS (memS (memS (memS (memS (memS (memS (memS (memS (mem0)))))))))) | exact memS (memS (memS (memS (memS (memS (memS (memS (memS (memS (memS (mem0))))))))))) | exact memS (memS (memS (memS (memS (memS (memS (memS (memS (memS (memS (memS (mem0)))))))))))) | exact memS (memS (memS (memS (memS (memS (memS (memS (memS (memS (memS (memS (memS (mem0)))))))))))))))) (by simp) hC (by omega))) rfl ?_; clear h a hO w
            rintro _ w ⟨ec, ⟨⟨n, hn, rfl⟩, hC⟩, hO⟩ a h
            refine so h hO (yl_assign h rfl) rfl ?_; clear h a; intro a h
            refine endL ?_
            refine then_n ?_
            refine region ?_
            refine so h hO (yl_move h rfl) rfl ?_; clear h a; intro a h
            refine so h hO (yl_move h rfl) rfl ?_; clear h a; intro a h
            refine stepBuildAll (us := [_]) h hO rfl p0 rfl p4 rfl rfl rfl rfl rfl ?_; clear h hO a w; intro a b54 w h hO
            refine stepApp  h hO rfl rfl p5 rfl (by assumption) (by first | with_reducible exact mem0 | with_reducible exact memS (mem0) | with_reducible exact memS (memS (mem0)) | with_reducible exact memS (memS (memS (mem0))) | with_reducible exact memS (memS (memS (memS (mem0)))) | with_reducible exact memS (memS (memS (memS (memS (mem0))))) | with_reducible exact memS (memS (memS (memS (memS (memS (mem0)))))) | with_reducible exact memS (memS (memS (memS (memS (memS (memS (mem0))))))) | with_reducible exact memS (memS (memS (memS (memS (memS (memS (memS (mem0)))))))) | with_reducible exact memS (memS (memS (memS (memS (memS (memS (memS (memS (mem0))))))))) | with_reducible exact memS (memS (memS (memS (memS (memS (memS (memS (memS (memS (mem0)))))))))) | with_reducible exact memS (memS (memS (memS (memS (memS (memS (memS (memS (memS (memS (mem0))))))))))) | with_reducible exact memS (memS (memS (memS (memS (memS (memS (memS (memS (memS (memS (memS (mem0)))))))))))) | with_reducible exact memS (memS (memS (memS (memS (memS (memS (memS (memS (memS (memS (memS (memS (mem0)))))))))))))) (by rfl) (by rfl) (by rfl) (by (try simp); omega) (by intro e_; first | with_reducible exact .here | with_reducible exact .there (.here) | with_reducible exact .there (.there (.here)) | with_reducible exact .there (.there (.there (.here))) | with_reducible exact .there (.there (.there (.there (.here)))) | with_reducible exact .there (.there (.there (.there (.there (.here))))) | with_reducible exact .there (.there (.there (.there (.there (.there (.here)))))) | with_reducible exact .there (.there (.there (.there (.there (.there (.there (.here))))))) | with_reducible exact .there (.there (.there (.there (.there (.there (.there (.there (.here)))))))) | with_reducible exact .there (.there (.there (.there (.there (.there (.there (.there (.there (.here))))))))) | with_reducible exact .there (.there (.there (.there (.there (.there (.there (.there (.there (.there (.here)))))))))) | with_reducible exact .there (.there (.there (.there (.there (.there (.there (.there (.there (.there (.there (.here))))))))))) | with_reducible exact .there (.there (.there (.there (.there (.there (.there (.there (.there (.there (.there (.there (.here)))))))))))) | with_reducible exact .there (.there (.there (.there (.there (.there (.there (.there (.there (.there (.there (.there (.there (.here)))))))))))))) rfl ?_
            clear h hO a w; intro a v55 e55 w h hM55 hO
            obtain ⟨A55, c55, rfl, hc55⟩ := hM55.form
            have hr55 := hM55.rr
            refine so h hO (yl_assign h rfl) rfl ?_; clear h a; intro a h
            refine endL ?_
            refine inB_n ?_
            refine then_n ?_
            refine region ?_
            refine so h hO (yl_move h rfl) rfl ?_; clear h a; intro a h
            first | (refine so h hO (yl_sub64 h rfl rfl (by omega)) rfl ?_) | (refine so h hO (yl_sub h rfl rfl) rfl ?_)
            clear h a; intro a h
            refine so h hO (yl_assign h rfl) rfl ?_; clear h a; intro a h
            refine endL ?_
            refine then_n ?_
            refine ⟨x - 1, by omega, xs ++ [_], _, _, _, _, _, by omega, by simp; omega, (by intro y hy; exact (List.mem_append.1 hy).elim (hsm y) (fun hy => by simp only [List.mem_singleton] at hy; subst hy; first | omega | (simp only [List.mem_cons, List.not_mem_nil, or_false] at hn; omega))), hM55, hC, by omega, h.weak (subB_cons rfl (subB_cons rfl (subB_cons rfl (subB_nil)))), (by exact hO.sub (by repeat (first | with_reducible exact List.Sublist.refl _ | with_reducible refine List.Sublist.cons_cons _ ?_ | refine List.Sublist.cons _ ?_)))⟩
          · have hp4 := hb4
            try simp only [decide_eq_true_eq, decide_eq_false_iff_not, Bool.not_eq_true', Bool.not_eq_false', Int.not_lt, Int.not_le, ne_eq, Decidable.not_not] at hp4
            refine skip ?_
            refine then_n ?_
            refine region ?_
            refine so h hO (yl_move h rfl) rfl ?_; clear h a; intro a h
            refine so h hO (yl_move h rfl) rfl ?_; clear h a; intro a h
            refine stepBuildAll (us := [_]) h hO rfl p0 rfl p4 rfl rfl rfl rfl rfl ?_; clear h hO a w; intro a b54 w h hO
            refine stepApp  h hO rfl rfl p5 rfl (by assumption) (by first | with_reducible exact mem0 | with_reducible exact memS (mem0) | with_reducible exact memS (memS (mem0)) | with_reducible exact memS (memS (memS (mem0))) | with_reducible exact memS (memS (memS (memS (mem0)))) | with_reducible exact memS (memS (memS (memS (memS (mem0))))) | with_reducible exact memS (memS (memS (memS (memS (memS (mem0)))))) | with_reducible exact memS (memS (memS (memS (memS (memS (memS (mem0))))))) | with_reducible exact memS (memS (memS (memS (memS (memS (memS (memS (mem0)))))))) | with_reducible exact memS (memS (memS (memS (memS (memS (memS (memS (memS (mem0))))))))) | with_reducible exact memS (memS (memS (memS (memS (memS (memS (memS (memS (memS (mem0)))))))))) | with_reducible exact memS (memS (memS (memS (memS (memS (memS (memS (memS (memS (memS (mem0))))))))))) | with_reducible exact memS (memS (memS (memS (memS (memS (memS (memS (memS (memS (memS (memS (mem0)))))))))))) | with_reducible exact memS (memS (memS (memS (memS (memS (memS (memS (memS (memS (memS (memS (memS (mem0)))))))))))))) (by rfl) (by rfl) (by rfl) (by (try simp); omega) (by intro e_; first | with_reducible exact .here | with_reducible exact .there (.here) | with_reducible exact .there (.there (.here)) | with_reducible exact .there (.there (.there (.here))) | with_reducible exact .there (.there (.there (.there (.here)))) | with_reducible exact .there (.there (.there (.there (.there (.here))))) | with_reducible exact .there (.there (.there (.there (.there (.there (.here)))))) | with_reducible exact .there (.there (.there (.there (.there (.there (.there (.here))))))) | with_reducible exact .there (.there (.there (.there (.there (.there (.there (.there (.here)))))))) | with_reducible exact .there (.there (.there (.there (.there (.there (.there (.there (.there (.here))))))))) | with_reducible exact .there (.there (.there (.there (.there (.there (.there (.there (.there (.there (.here)))))))))) | with_reducible exact .there (.there (.there (.there (.there (.there (.there (.there (.there (.there (.there (.here))))))))))) | with_reducible exact .there (.there (.there (.there (.there (.there (.there (.there (.there (.there (.there (.there (.here)))))))))))) | with_reducible exact .there (.there (.there (.there (.there (.there (.there (.there (.there (.there (.there (.there (.there (.here)))))))))))))) rfl ?_
            clear h hO a w; intro a v55 e55 w h hM55 hO
            obtain ⟨A55, c55, rfl, hc55⟩ := hM55.form
            have hr55 := hM55.rr
            refine so h hO (yl_assign h rfl) rfl ?_; clear h a; intro a h
            refine endL ?_
            refine inB_n ?_
            refine then_n ?_
            refine region ?_
            refine so h hO (yl_move h rfl) rfl ?_; clear h a; intro a h
            first | (refine so h hO (yl_sub64 h rfl rfl (by omega)) rfl ?_) | (refine so h hO (yl_sub h rfl rfl) rfl ?_)
            clear h a; intro a h
            refine so h hO (yl_assign h rfl) rfl ?_; clear h a; intro a h
            refine endL ?_
            refine then_n ?_
            refine ⟨x - 1, by omega, xs ++ [_], _, _, _, _, _, by omega, by simp; omega, (by intro y hy; exact (List.mem_append.1 hy).elim (hsm y) (fun hy => by simp only [List.mem_singleton] at hy; subst hy; first | omega | (simp only [List.mem_cons, List.not_mem_nil, or_false] at hn; omega))), hM55, hC, by omega, h.weak (subB_cons rfl (subB_cons rfl (subB_cons rfl (subB_nil)))), (by exact hO.sub (by repeat (first | with_reducible exact List.Sublist.refl _ | with_reducible refine List.Sublist.cons_cons _ ?_ | refine List.Sublist.cons _ ?_)))⟩
      · have hp2 := hb2
        try simp only [decide_eq_true_eq, decide_eq_false_iff_not, Bool.not_eq_true', Bool.not_eq_false', Int.not_lt, Int.not_le, ne_eq, Decidable.not_not] at hp2
        refine son h (j := 3) rfl rfl hb2 rfl ?_; clear h a; intro a h
        refine son h (j := 3) rfl rfl hb2 rfl ?_; clear h a; intro a h
        refine so h hO (yl_pick_f h rfl hb2 rfl) rfl ?_; clear h a; intro a h
        refine endL ?_
        refine then_n ?_
        refine cond_f h rfl rfl ?_
        refine seq ?_
        refine region ?_
        refine so h hO (yl_move h rfl) rfl ?_; clear h a; intro a h
        refine callR h rfl rfl p50 (lift0 (fun M hk_ hO => one_spec _ (N := _) hO (by assumption) (by omega)) hO (by intro e_; first | with_reducible exact .here | with_reducible exact .there (.here) | with_reducible exact .there (.there (.here)) | with_reducible exact .there (.there (.there (.here))) | with_reducible exact .there (.there (.there (.there (.here)))) | with_reducible exact .there (.there (.there (.there (.there (.here))))) | with_reducible exact .there (.there (.there (.there (.there (.there (.here)))))) | with_reducible exact .there (.there (.there (.there (.there (.there (.there (.here))))))) | with_reducible exact .there (.there (.there (.there (.there (.there (.there (.there (.here)))))))) | with_reducible exact .there (.there (.there (.there (.there (.there (.there (.there (.there (.here))))))))) | with_reducible exact .there (.there (.there (.there (.there (.there (.there (.there (.there (.there (.here)))))))))) | with_reducible exact .there (.there (.there (.there (.there (.there (.there (.there (.there (.there (.there (.here))))))))))) | with_reducible exact .there (.there (.there (.there (.there (.there (.there (.there (.there (.there (.there (.there (.here)))))))))))) | with_reducible exact .there (.there (.there (.there (.there (.there (.there (.there (.there (.there (.there (.there (.there (.here))))))))))))))) rfl ?_; clear h a hO w
        rintro _ w ⟨ec, ⟨⟨bo, rfl⟩, hC⟩, hO⟩ a h
        refine endL ?_
        refine then_n ?_
        refine cond_s h rfl (fun hb5 => ?_) (fun hb5 => ?_)
        · have hp5 := hb5
          try simp only [decide_eq_true_eq, decide_eq_false_iff_not, Bool.not_eq_true', Bool.not_eq_false', Int.not_lt, Int.not_le, ne_eq, Decidable.not_not] at hp5
          refine region ?_
          refine so h hO (yl_move h rfl) rfl ?_; clear h a; intro a h
          refine stepBuildAll (us := [_, _, _, _, _]) h hO rfl p0 rfl p4 rfl rfl rfl rfl rfl ?_; clear h hO a w; intro a b50 w h hO
          refine callR h rfl rfl p49 (liftC (by assumption) hO (by intro e_; first | with_reducible exact .here | with_reducible exact .there (.here) | with_reducible exact .there (.there (.here)) | with_reducible exact .there (.there (.there (.here))) | with_reducible exact .there (.there (.there (.there (.here)))) | with_reducible exact .there (.there (.there (.there (.there (.here))))) | with_reducible exact .there (.there (.there (.there (.there (.there (.here)))))) | with_reducible exact .there (.there (.there (.there (.there (.there (.there (.here))))))) | with_reducible exact .there (.there (.there (.there (.there (.there (.there (.there (.here)))))))) | with_reducible exact .there (.there (.there (.there (.there (.there (.there (.there (.there (.here))))))))) | with_reducible exact .there (.there (.there (.there (.there (.there (.there (.there (.there (.there (.here)))))))))) | with_reducible exact .there (.there (.there (.there (.there (.there (.there (.there (.there (.there (.there (.here))))))))))) | with_reducible exact .there (.there (.there (.there (.there (.there (.there (.there (.there (.there (.there (.there (.here)))))))))))) | with_reducible exact .there (.there (.there (.there (.there (.there (.there (.there (.there (.there (.there (.there (.there (.here)))))))))))))) (fun M hk_ hO hC => among_spec [-1, -2, 0, 32767, -32767] hO (Rd.lit [-1, -2, 0, 32767, -32767] b50 3 (by simp)) (Val.ent (hk_ _ (by intro e_; first | exact mem0 | exact memS (mem0) | exact memS (memS (mem0)) | exact memS (memS (memS (mem0))) | exact memS (memS (memS (memS (mem0)))) | exact memS (memS (memS (memS (memS (mem0))))) | exact memS (memS (memS (memS (memS (memS (mem0)))))) | exact memS (memS (memS (memS (memS (memS (memS (mem0))))))) | exact memS (memS (memS (memS (memS (memS (memS (memS (mem0)))))))) | exact memS (memS (memS (memS (memS (memS (memS (memS (memS (mem0))))))))) | exact memS (memS (memS (memS (memS (memS (memS (memS (memS (memS (mem0)))))))))) | exact memS (memS (memS (memS (memS (memS (memS (memS (memS (memS (memS (mem0))))))))))) | exact memS (memS (memS (memS (memS (memS (memS (memS (memS (memS (memS (memS (mem0)))))))))))) | exact memS (memS (memS (memS (memS (memS (memS (memS (memS (memS (memS (memS (memS (mem0)))))))))))))))) (by simp) hC (by omega))) rfl ?_; clear h a hO w
          rintro _ w ⟨ec, ⟨⟨n, hn, rfl⟩, hC⟩, hO⟩ a h
          refine so h hO (yl_assign h rfl) rfl ?_; clear h a; intro a h
          refine endL ?_
          refine then_n ?_
          refine region ?_
          refine so h hO (yl_move h rfl) rfl ?_; clear h a; intro a h
          refine so h hO (yl_move h rfl) rfl ?_; clear h a; intro a h
          refine stepBuildAll (us := [_]) h hO rfl p0 rfl p4 rfl rfl rfl rfl rfl ?_; clear h hO a w; intro a b54 w h hO
          refine stepApp  h hO rfl rfl p5 rfl (by assumption) (by first | with_reducible exact mem0 | with_reducible exact memS (mem0) | with_reducible exact memS (memS (mem0)) | with_reducible exact memS (memS (memS (mem0))) | with_reducible exact memS (memS (memS (memS (mem0)))) | with_reducible exact memS (memS (memS (memS (memS (mem0))))) | with_reducible exact memS (memS (memS (memS (memS (memS (mem0)))))) | with_reducible exact memS (memS (memS (memS (memS (memS (memS (mem0))))))) | with_reducible exact memS (memS (memS (memS (memS (memS (memS (memS (mem0)))))))) | with_reducible exact memS (memS (memS (memS (memS (memS (memS (memS (memS (mem0))))))))) | with_reducible exact memS (memS (memS (memS (memS (memS (memS (memS (memS (memS (mem0)))))))))) | with_reducible exact memS (memS (memS (memS (memS (memS (memS (memS (memS (memS (memS (mem0))))))))))) | with_reducible exact memS (memS (memS (memS (memS (memS (memS (memS (memS (memS (memS (memS (mem0)))))))))))) | with_reducible exact memS (memS (memS (memS (memS (memS (memS (memS (memS (memS (memS (memS (memS (mem0)))))))))))))) (by rfl) (by rfl) (by rfl) (by (try simp); omega) (by intro e_; first | with_reducible exact .here | with_reducible exact .there (.here) | with_reducible exact .there (.there (.here)) | with_reducible exact .there (.there (.there (.here))) | with_reducible exact .there (.there (.there (.there (.here)))) | with_reducible exact .there (.there (.there (.there (.there (.here))))) | with_reducible exact .there (.there (.there (.there (.there (.there (.here)))))) | with_reducible exact .there (.there (.there (.there (.there (.there (.there (.here))))))) | with_reducible exact .there (.there (.there (.there (.there (.there (.there (.there (.here)))))))) | with_reducible exact .there (.there (.there (.there (.there (.there (.there (.there (.there (.here))))))))) | with_reducible exact .there (.there (.there (.there (.there (.there (.there (.there (.there (.there (.here)))))))))) | with_reducible exact .there (.there (.there (.there (.there (.there (.there (.there (.there (.there (.there (.here))))))))))) | with_reducible exact .there (.there (.there (.there (.there (.there (.there (.there (.there (.there (.there (.there (.here)))))))))))) | with_reducible exact .there (.there (.there (.there (.there (.there (.there (.there (.there (.there (.there (.there (.there (.here)))))))))))))) rfl ?_
          clear h hO a w; intro a v55 e55 w h hM55 hO
          obtain ⟨A55, c55, rfl, hc55⟩ := hM55.form
          have hr55 := hM55.rr
          refine so h hO (yl_assign h rfl) rfl ?_; clear h a; intro a h
          refine endL ?_
          refine inB_n ?_
          refine then_n ?_
          refine region ?_
          refine so h hO (yl_move h rfl) rfl ?_; clear h a; intro a h
          first | (refine so h hO (yl_sub64 h rfl rfl (by omega)) rfl ?_) | (refine so h hO (yl_sub h rfl rfl) rfl ?_)
          clear h a; intro a h
          refine so h hO (yl_assign h rfl) rfl ?_; clear h a; intro a h
          refine endL ?_
          refine then_n ?_
          refine ⟨x - 1, by omega, xs ++ [_], _, _, _, _, _, by omega, by simp; omega, (by intro y hy; exact (List.mem_append.1 hy).elim (hsm y) (fun hy => by simp only [List.mem_singleton] at hy; subst hy; first | omega | (simp only [List.mem_cons, List.not_mem_nil, or_false] at hn; omega))), hM55, hC, by omega, h.weak (subB_cons rfl (subB_cons rfl (subB_cons rfl (subB_nil)))), (by exact hO.sub (by repeat (first | with_reducible exact List.Sublist.refl _ | with_reducible refine List.Sublist.cons_cons _ ?_ | refine List.Sublist.cons _ ?_)))⟩
        · have hp5 := hb5
          try simp only [decide_eq_true_eq, decide_eq_false_iff_not, Bool.not_eq_true', Bool.not_eq_false', Int.not_lt, Int.not_le, ne_eq, Decidable.not_not] at hp5
          refine skip ?_
          refine then_n ?_
          refine region ?_
          refine so h hO (yl_move h rfl) rfl ?_; clear h a; intro a h
          refine so h hO (yl_move h rfl) rfl ?_; clear h a; intro a h
          refine stepBuildAll (us := [_]) h hO rfl p0 rfl p4 rfl rfl rfl rfl rfl ?_; clear h hO a w; intro a b54 w h hO
          refine stepApp  h hO rfl rfl p5 rfl (by assumption) (by first | with_reducible exact mem0 | with_reducible exact memS (mem0) | with_reducible exact memS (memS (mem0)) | with_reducible exact memS (memS (memS (mem0))) | with_reducible exact memS (memS (memS (memS (mem0)))) | with_reducible exact memS (memS (memS (memS (memS (mem0))))) | with_reducible exact memS (memS (memS (memS (memS (memS (mem0)))))) | with_reducible exact memS (memS (memS (memS (memS (memS (memS (mem0))))))) | with_reducible exact memS (memS (memS (memS (memS (memS (memS (memS (mem0)))))))) | with_reducible exact memS (memS (memS (memS (memS (memS (memS (memS (memS (mem0))))))))) | with_reducible exact memS (memS (memS (memS (memS (memS (memS (memS (memS (memS (mem0)))))))))) | with_reducible exact memS (memS (memS (memS (memS (memS (memS (memS (memS (memS (memS (mem0))))))))))) | with_reducible exact memS (memS (memS (memS (memS (memS (memS (memS (memS (memS (memS (memS (mem0)))))))))))) | with_reducible exact memS (memS (memS (memS (memS (memS (memS (memS (memS (memS (memS (memS (memS (mem0)))))))))))))) (by rfl) (by rfl) (by rfl) (by (try simp); omega) (by intro e_; first | with_reducible exact .here | with_reducible exact .there (.here) | with_reducible exact .there (.there (.here)) | with_reducible exact .there (.there (.there (.here))) | with_reducible exact .there (.there (.there (.there (.here)))) | with_reducible exact .there (.there (.there (.there (.there (.here))))) | with_reducible exact .there (.there (.there (.there (.there (.there (.here)))))) | with_reducible exact .there (.there (.there (.there (.there (.there (.there (.here))))))) | with_reducible exact .there (.there (.there (.there (.there (.there (.there (.there (.here)))))))) | with_reducible exact .there (.there (.there (.there (.there (.there (.there (.there (.there (.here))))))))) | with_reducible exact .there (.there (.there (.there (.there (.there (.there (.there (.there (.there (.here)))))))))) | with_reducible exact .there (.there (.there (.there (.there (.there (.there (.there (.there (.there (.there (.here))))))))))) | with_reducible exact .there (.there (.there (.there (.there (.there (.there (.there (.there (.there (.there (.there (.here)))))))))))) | with_reducible exact .there (.there (.there (.there (.there (.there (.there (.there (.there (.there (.there (.there (.there (.here)))))))))))))) rfl ?_
          clear h hO a w; intro a v55 e55 w h hM55 hO
          obtain ⟨A55, c55, rfl, hc55⟩ := hM55.form
          have hr55 := hM55.rr
          refine so h hO (yl_assign h rfl) rfl ?_; clear h a; intro a h
          refine endL ?_
          refine inB_n ?_
          refine then_n ?_
          refine region ?_
          refine so h hO (yl_move h rfl) rfl ?_; clear h a; intro a h
          first | (refine so h hO (yl_sub64 h rfl rfl (by omega)) rfl ?_) | (refine so h hO (yl_sub h rfl rfl) rfl ?_)
          clear h a; intro a h
          refine so h hO (yl_assign h rfl) rfl ?_; clear h a; intro a h
          refine endL ?_
          refine then_n ?_
          refine ⟨x - 1, by omega, xs ++ [_], _, _, _, _, _, by omega, by simp; omega, (by intro y hy; exact (List.mem_append.1 hy).elim (hsm y) (fun hy => by simp only [List.mem_singleton] at hy; subst hy; first | omega | (simp only [List.mem_cons, List.not_mem_nil, or_false] at hn; omega))), hM55, hC, by omega, h.weak (subB_cons rfl (subB_cons rfl (subB_cons rfl (subB_nil)))), (by exact hO.sub (by repeat (first | with_reducible exact List.Sublist.refl _ | with_reducible refine List.Sublist.cons_cons _ ?_ | refine List.Sublist.cons _ ?_)))⟩
    · have hp1 := hb1
      try simp only [decide_eq_true_eq, decide_eq_false_iff_not, Bool.not_eq_true', Bool.not_eq_false', Int.not_lt, Int.not_le, ne_eq, Decidable.not_not] at hp1
      refine exit_ ?_
      refine then_x ?_
      refine then_x ?_
      refine inB_same ?_
      refine then_n ?_
      refine seq_cut (R := fun a w => ∃ (xs : List Int) (u : Value) (eo ec : Ent) (N : Nat), xs.length ≤ 24 ∧ Mu I 3 1 xs u eo ∧ CurAt w0 41 bc N ec ∧ N ≤ 300 ∧ St 101 [] [(0, .pointer (some ⟨bc, 0, none⟩)), (3, u)] a ∧ OwnE w0 w (eo :: ec :: L)) ?_ ?_
      · skip
        refine seq ?_
        refine region ?_
        refine so h hO (yl_move h rfl) rfl ?_; clear h a; intro a h
        refine callR h rfl rfl p50 (lift0 (fun M hk_ hO => one_spec _ (N := _) hO (by assumption) (by omega)) hO (by intro e_; first | with_reducible exact .here | with_reducible exact .there (.here) | with_reducible exact .there (.there (.here)) | with_reducible exact .there (.there (.there (.here))) | with_reducible exact .there (.there (.there (.there (.here)))) | with_reducible exact .there (.there (.there (.there (.there (.here))))) | with_reducible exact .there (.there (.there (.there (.there (.there (.here)))))) | with_reducible exact .there (.there (.there (.there (.there (.there (.there (.here))))))) | with_reducible exact .there (.there (.there (.there (.there (.there (.there (.there (.here)))))))) | with_reducible exact .there (.there (.there (.there (.there (.there (.there (.there (.there (.here))))))))) | with_reducible exact .there (.there (.there (.there (.there (.there (.there (.there (.there (.there (.here)))))))))) | with_reducible exact .there (.there (.there (.there (.there (.there (.there (.there (.there (.there (.there (.here))))))))))) | with_reducible exact .there (.there (.there (.there (.there (.there (.there (.there (.there (.there (.there (.there (.here)))))))))))) | with_reducible exact .there (.there (.there (.there (.there (.there (.there (.there (.there (.there (.there (.there (.there (.here))))))))))))))) rfl ?_; clear h a hO w
        rintro _ w ⟨ec, ⟨⟨bo, rfl⟩, hC⟩, hO⟩ a h
        refine endL ?_
        refine then_n ?_
        refine cond_s h rfl (fun hb6 => ?_) (fun hb6 => ?_)
        · have hp6 := hb6
          try simp only [decide_eq_true_eq, decide_eq_false_iff_not, Bool.not_eq_true', Bool.not_eq_false', Int.not_lt, Int.not_le, ne_eq, Decidable.not_not] at hp6
          refine seq ?_
          refine region ?_
          refine so h hO (yl_move h rfl) rfl ?_; clear h a; intro a h
          refine callR h rfl rfl p36 (l7Read_spec _ hO (by assumption) (by first | assumption | exact Val.sub (by assumption) (by repeat (first | with_reducible exact List.Sublist.refl _ | with_reducible refine List.Sublist.cons_cons _ ?_ | refine List.Sublist.cons _ ?_)) | with_reducible exact Val.ext _ _ | exact Val.ent (by first | with_reducible exact mem0 | with_reducible exact memS (mem0) | with_reducible exact memS (memS (mem0)) | with_reducible exact memS (memS (memS (mem0))) | with_reducible exact memS (memS (memS (memS (mem0)))) | with_reducible exact memS (memS (memS (memS (memS (mem0))))) | with_reducible exact memS (memS (memS (memS (memS (memS (mem0)))))) | with_reducible exact memS (memS (memS (memS (memS (memS (memS (mem0))))))) | with_reducible exact memS (memS (memS (memS (memS (memS (memS (memS (mem0)))))))) | with_reducible exact memS (memS (memS (memS (memS (memS (memS (memS (memS (mem0))))))))) | with_reducible exact memS (memS (memS (memS (memS (memS (memS (memS (memS (memS (mem0)))))))))) | with_reducible exact memS (memS (memS (memS (memS (memS (memS (memS (memS (memS (memS (mem0))))))))))) | with_reducible exact memS (memS (memS (memS (memS (memS (memS (memS (memS (memS (memS (memS (mem0)))))))))))) | with_reducible exact memS (memS (memS (memS (memS (memS (memS (memS (memS (memS (memS (memS (memS (mem0))))))))))))))) (by assumption) (by omega)) rfl ?_; clear h a hO w
          rintro _ w ⟨v1, v2, e1, e2, rfl, hM1, hM2, hO⟩ a h
          obtain ⟨A1, c1, rfl, hc1⟩ := hM1.form
          obtain ⟨A2, c2, rfl, hc2⟩ := hM2.form
          have hrd1 := hM1.rd
          have hrd2 := hM2.rd
          have hr1 := hM1.rr
          have hr2 := hM2.rr
          refine so h hO (yl_move h rfl) rfl ?_; clear h a; intro a h
          refine so h hO (yl_extract h rfl rfl) rfl ?_; clear h a; intro a h
          refine so h hO (yl_extract h rfl rfl) rfl ?_; clear h a; intro a h
          refine so h hO (yl_assign h rfl) rfl ?_; clear h a; intro a h
          refine so h hO (yl_assign h rfl) rfl ?_; clear h a; intro a h
          refine endL ?_
          refine then_n ?_
          refine seq ?_
          refine region ?_
          refine so h hO (yl_move h rfl) rfl ?_; clear h a; intro a h
          refine so h hO (yl_len h rfl p0) rfl ?_; clear h a; intro a h
          first | (refine so h hO (yl_sub64 h rfl rfl (by omega)) rfl ?_) | (refine so h hO (yl_sub h rfl rfl) rfl ?_)
          clear h a; intro a h
          refine so h hO (yl_assign h rfl) rfl ?_; clear h a; intro a h
          refine endL ?_
          refine then_n ?_
          refine block ?_
          refine loop (fun (x : Nat) a w => ∃ (zs : List Int) (u : Value) (eo : Ent) (i : Int), x ≤ (opens xs).length ∧ i = ((opens xs).length : Int) - 1 - x ∧ zs.length ≤ 12 + x ∧ Mu I 3 1 zs u eo ∧ St 101 [] [(0, .pointer (some ⟨bc, 0, none⟩)), (3, u), (8, .slice A1 (opens xs).length c1), (10, .int .i64 i)] a ∧ OwnE w0 w (eo :: e1 :: ec :: L)) (fun x => (opens xs).length - x) 0 ?_ ?_
          · have hox := opens_le xs
            exact ⟨xs, _, _, _, Nat.zero_le _, by omega, by omega, hM, h.weak (subB_cons rfl (subB_cons rfl (subB_cons rfl (subB_cons rfl (subB_nil))))), (OwnE.swap (by exact hO.sub (by repeat (first | with_reducible exact List.Sublist.refl _ | with_reducible refine List.Sublist.cons_cons _ ?_ | refine List.Sublist.cons _ ?_))))⟩
          · clear h a hO w
            rintro x a w ⟨zs, u, eo, i, hxl, hi, hzl, hM, h, hO⟩
            obtain ⟨A3, c3, rfl, hc3⟩ := hM.form
            have hox := opens_le xs
            refine seq ?_
            refine seq ?_
            refine region ?_
            refine so h hO (yl_move h rfl) rfl ?_; clear h a; intro a h
            refine so h hO (yl_ge h rfl rfl) rfl ?_; clear h a; intro a h
            refine endL ?_
            refine then_n ?_
            refine cond_s h rfl (fun hb7 => ?_) (fun hb7 => ?_)
            · have hp7 := hb7
              try simp only [decide_eq_true_eq, decide_eq_false_iff_not, Bool.not_eq_true', Bool.not_eq_false', Int.not_lt, Int.not_le, ne_eq, Decidable.not_not] at hp7
              refine skip ?_
              refine then_n ?_
              refine seq ?_
              refine block ?_
              refine region ?_
              refine so h hO (yl_move h rfl) rfl ?_; clear h a; intro a h
              refine so h hO (yl_move h rfl) rfl ?_; clear h a; intro a h
              refine so h hO (yl_move h rfl) rfl ?_; clear h a; intro a h
              refine so h hO (yl_ix h rfl rfl p0 (by assumption) (by simp) (by omega)) rfl ?_; clear h a; intro a h
              have hx := hsm _ (opens_mem (getD_mem (xs := opens xs) (k := i.toNat) (by omega)))
              refine so h hO (yl_ld1 h rfl p1 (by assumption) (by first | assumption | exact Val.sub (by assumption) (by repeat (first | with_reducible exact List.Sublist.refl _ | with_reducible refine List.Sublist.cons_cons _ ?_ | refine List.Sublist.cons _ ?_)) | with_reducible exact Val.ext _ _ | exact Val.ent (by first | with_reducible exact mem0 | with_reducible exact memS (mem0) | with_reducible exact memS (memS (mem0)) | with_reducible exact memS (memS (memS (mem0))) | with_reducible exact memS (memS (memS (memS (mem0)))) | with_reducible exact memS (memS (memS (memS (memS (mem0))))) | with_reducible exact memS (memS (memS (memS (memS (memS (mem0)))))) | with_reducible exact memS (memS (memS (memS (memS (memS (memS (mem0))))))) | with_reducible exact memS (memS (memS (memS (memS (memS (memS (memS (mem0)))))))) | with_reducible exact memS (memS (memS (memS (memS (memS (memS (memS (memS (mem0))))))))) | with_reducible exact memS (memS (memS (memS (memS (memS (memS (memS (memS (memS (mem0)))))))))) | with_reducible exact memS (memS (memS (memS (memS (memS (memS (memS (memS (memS (memS (mem0))))))))))) | with_reducible exact memS (memS (memS (memS (memS (memS (memS (memS (memS (memS (memS (memS (mem0)))))))))))) | with_reducible exact memS (memS (memS (memS (memS (memS (memS (memS (memS (memS (memS (memS (memS (mem0))))))))))))))) (by omega) (fun _ => rfl)) rfl ?_; clear h a; intro a h
              first | (refine so h hO (yl_neg64 h rfl (by omega)) rfl ?_) | (refine so h hO (yl_neg h rfl) rfl ?_)
              clear h a; intro a h
              refine stepBuildAll (us := [_]) h hO rfl p0 rfl p4 rfl rfl rfl rfl rfl ?_; clear h hO a w; intro a b76 w h hO
              refine stepApp  h hO rfl rfl p5 rfl (by assumption) (by first | with_reducible exact mem0 | with_reducible exact memS (mem0) | with_reducible exact memS (memS (mem0)) | with_reducible exact memS (memS (memS (mem0))) | with_reducible exact memS (memS (memS (memS (mem0)))) | with_reducible exact memS (memS (memS (memS (memS (mem0))))) | with_reducible exact memS (memS (memS (memS (memS (memS (mem0)))))) | with_reducible exact memS (memS (memS (memS (memS (memS (memS (mem0))))))) | with_reducible exact memS (memS (memS (memS (memS (memS (memS (memS (mem0)))))))) | with_reducible exact memS (memS (memS (memS (memS (memS (memS (memS (memS (mem0))))))))) | with_reducible exact memS (memS (memS (memS (memS (memS (memS (memS (memS (memS (mem0)))))))))) | with_reducible exact memS (memS (memS (memS (memS (memS (memS (memS (memS (memS (memS (mem0))))))))))) | with_reducible exact memS (memS (memS (memS (memS (memS (memS (memS (memS (memS (memS (memS (mem0)))))))))))) | with_reducible exact memS (memS (memS (memS (memS (memS (memS (memS (memS (memS (memS (memS (memS (mem0)))))))))))))) (by rfl) (by rfl) (by rfl) (by (try simp); omega) (by intro e_; first | with_reducible exact .here | with_reducible exact .there (.here) | with_reducible exact .there (.there (.here)) | with_reducible exact .there (.there (.there (.here))) | with_reducible exact .there (.there (.there (.there (.here)))) | with_reducible exact .there (.there (.there (.there (.there (.here))))) | with_reducible exact .there (.there (.there (.there (.there (.there (.here)))))) | with_reducible exact .there (.there (.there (.there (.there (.there (.there (.here))))))) | with_reducible exact .there (.there (.there (.there (.there (.there (.there (.there (.here)))))))) | with_reducible exact .there (.there (.there (.there (.there (.there (.there (.there (.there (.here))))))))) | with_reducible exact .there (.there (.there (.there (.there (.there (.there (.there (.there (.there (.here)))))))))) | with_reducible exact .there (.there (.there (.there (.there (.there (.there (.there (.there (.there (.there (.here))))))))))) | with_reducible exact .there (.there (.there (.there (.there (.there (.there (.there (.there (.there (.there (.there (.here)))))))))))) | with_reducible exact .there (.there (.there (.there (.there (.there (.there (.there (.there (.there (.there (.there (.there (.here)))))))))))))) rfl ?_
              clear h hO a w; intro a v77 e77 w h hM77 hO
              obtain ⟨A77, c77, rfl, hc77⟩ := hM77.form
              have hr77 := hM77.rr
              refine so h hO (yl_assign h rfl) rfl ?_; clear h a; intro a h
              refine endL ?_
              refine inB_n ?_
              refine then_n ?_
              refine region ?_
              refine so h hO (yl_move h rfl) rfl ?_; clear h a; intro a h
              first | (refine so h hO (yl_sub64 h rfl rfl (by omega)) rfl ?_) | (refine so h hO (yl_sub h rfl rfl) rfl ?_)
              clear h a; intro a h
              refine so h hO (yl_assign h rfl) rfl ?_; clear h a; intro a h
              refine endL ?_
              refine then_n ?_
              refine ⟨x + 1, by omega, zs ++ [_], _, _, _, by omega, by omega, by simp; omega, hM77, h.weak (subB_cons rfl (subB_cons rfl (subB_cons rfl (subB_cons rfl (subB_nil))))), (by exact hO.sub (by repeat (first | with_reducible exact List.Sublist.refl _ | with_reducible refine List.Sublist.cons_cons _ ?_ | refine List.Sublist.cons _ ?_)))⟩
            · have hp7 := hb7
              try simp only [decide_eq_true_eq, decide_eq_false_iff_not, Bool.not_eq_true', Bool.not_eq_false', Int.not_lt, Int.not_le, ne_eq, Decidable.not_not] at hp7
              refine exit_ ?_
              refine then_x ?_
              refine then_x ?_
              refine inB_same ?_
              refine then_n ?_
              exact ⟨_, _, _, _, _, by omega, hM, hC, by omega, h.weak (subB_cons rfl (subB_cons rfl (subB_nil))), (by exact hO.sub (by repeat (first | with_reducible exact List.Sublist.refl _ | with_reducible refine List.Sublist.cons_cons _ ?_ | refine List.Sublist.cons _ ?_)))⟩
        · have hp6 := hb6
          try simp only [decide_eq_true_eq, decide_eq_false_iff_not, Bool.not_eq_true', Bool.not_eq_false', Int.not_lt, Int.not_le, ne_eq, Decidable.not_not] at hp6
          refine skip ?_
          refine then_n ?_
          exact ⟨_, _, _, _, _, by omega, hM, hC, by omega, h.weak (subB_cons rfl (subB_cons rfl (subB_nil))), (by exact hO.sub (by repeat (first | with_reducible exact List.Sublist.refl _ | with_reducible refine List.Sublist.cons_cons _ ?_ | refine List.Sublist.cons _ ?_)))⟩
      · clear h hO a w
        rintro a w ⟨xs, u, eo, ec, N, hlen, hM, hC, hN, h, hO⟩
        obtain ⟨A1, c1, rfl, hc1⟩ := hM.form
        refine seq ?_
        refine seq ?_
        refine region ?_
        refine so h hO (yl_move h rfl) rfl ?_; clear h a; intro a h
        refine callR h rfl rfl p19 (lift0 (fun M hk_ hO => pick_spec _ (N := _) hO (by assumption) (by omega)) hO (by intro e_; first | with_reducible exact .here | with_reducible exact .there (.here) | with_reducible exact .there (.there (.here)) | with_reducible exact .there (.there (.there (.here))) | with_reducible exact .there (.there (.there (.there (.here)))) | with_reducible exact .there (.there (.there (.there (.there (.here))))) | with_reducible exact .there (.there (.there (.there (.there (.there (.here)))))) | with_reducible exact .there (.there (.there (.there (.there (.there (.there (.here))))))) | with_reducible exact .there (.there (.there (.there (.there (.there (.there (.there (.here)))))))) | with_reducible exact .there (.there (.there (.there (.there (.there (.there (.there (.there (.here))))))))) | with_reducible exact .there (.there (.there (.there (.there (.there (.there (.there (.there (.there (.here)))))))))) | with_reducible exact .there (.there (.there (.there (.there (.there (.there (.there (.there (.there (.there (.here))))))))))) | with_reducible exact .there (.there (.there (.there (.there (.there (.there (.there (.there (.there (.there (.there (.here)))))))))))) | with_reducible exact .there (.there (.there (.there (.there (.there (.there (.there (.there (.there (.there (.there (.there (.here))))))))))))))) rfl ?_; clear h a hO w
        rintro _ w ⟨ec, ⟨⟨r, rfl, hr0, hr1⟩, hC⟩, hO⟩ a h
        refine endL ?_
        refine then_n ?_
        refine block ?_
        refine seq ?_
        refine region ?_
        refine so h hO (yl_eq h rfl rfl) rfl ?_; clear h a; intro a h
        refine so h hO (yl_assign h rfl) rfl ?_; clear h a; intro a h
        refine endL ?_
        refine then_n ?_
        refine cond_s h rfl (fun hb8 => ?_) (fun hb8 => ?_)
        · have hp8 := hb8
          try simp only [decide_eq_true_eq, decide_eq_false_iff_not, Bool.not_eq_true', Bool.not_eq_false', Int.not_lt, Int.not_le, ne_eq, Decidable.not_not] at hp8
          refine region ?_
          refine so h hO (yl_move h rfl) rfl ?_; clear h a; intro a h
          refine so h hO (yl_move h rfl) rfl ?_; clear h a; intro a h
          refine stepBuildAll (us := [_, _, _]) h hO rfl p0 rfl p4 rfl rfl rfl rfl rfl ?_; clear h hO a w; intro a b84 w h hO
          refine callR h rfl rfl p49 (liftC (by assumption) hO (by intro e_; first | with_reducible exact .here | with_reducible exact .there (.here) | with_reducible exact .there (.there (.here)) | with_reducible exact .there (.there (.there (.here))) | with_reducible exact .there (.there (.there (.there (.here)))) | with_reducible exact .there (.there (.there (.there (.there (.here))))) | with_reducible exact .there (.there (.there (.there (.there (.there (.here)))))) | with_reducible exact .there (.there (.there (.there (.there (.there (.there (.here))))))) | with_reducible exact .there (.there (.there (.there (.there (.there (.there (.there (.here)))))))) | with_reducible exact .there (.there (.there (.there (.there (.there (.there (.there (.there (.here))))))))) | with_reducible exact .there (.there (.there (.there (.there (.there (.there (.there (.there (.there (.here)))))))))) | with_reducible exact .there (.there (.there (.there (.there (.there (.there (.there (.there (.there (.there (.here))))))))))) | with_reducible exact .there (.there (.there (.there (.there (.there (.there (.there (.there (.there (.there (.there (.here)))))))))))) | with_reducible exact .there (.there (.there (.there (.there (.there (.there (.there (.there (.there (.there (.there (.there (.here)))))))))))))) (fun M hk_ hO hC => among_spec [32768, -32768, 4611686018427387904] hO (Rd.lit [32768, -32768, 4611686018427387904] b84 3 (by simp)) (Val.ent (hk_ _ (by intro e_; first | exact mem0 | exact memS (mem0) | exact memS (memS (mem0)) | exact memS (memS (memS (mem0))) | exact memS (memS (memS (memS (mem0)))) | exact memS (memS (memS (memS (memS (mem0))))) | exact memS (memS (memS (memS (memS (memS (mem0)))))) | exact memS (memS (memS (memS (memS (memS (memS (mem0))))))) | exact memS (memS (memS (memS (memS (memS (memS (memS (mem0)))))))) | exact memS (memS (memS (memS (memS (memS (memS (memS (memS (mem0))))))))) | exact memS (memS (memS (memS (memS (memS (memS (memS (memS (memS (mem0)))))))))) | exact memS (memS (memS (memS (memS (memS (memS (memS (memS (memS (memS (mem0))))))))))) | exact memS (memS (memS (memS (memS (memS (memS (memS (memS (memS (memS (memS (mem0)))))))))))) | exact memS (memS (memS (memS (memS (memS (memS (memS (memS (memS (memS (memS (memS (mem0)))))))))))))))) (by simp) hC (by omega))) rfl ?_; clear h a hO w
          rintro _ w ⟨ec, ⟨⟨n, hn, rfl⟩, hC⟩, hO⟩ a h
          refine stepBuildAll (us := [_]) h hO rfl p0 rfl p4 rfl rfl rfl rfl rfl ?_; clear h hO a w; intro a b86 w h hO
          refine stepApp  h hO rfl rfl p5 rfl (by assumption) (by first | with_reducible exact mem0 | with_reducible exact memS (mem0) | with_reducible exact memS (memS (mem0)) | with_reducible exact memS (memS (memS (mem0))) | with_reducible exact memS (memS (memS (memS (mem0)))) | with_reducible exact memS (memS (memS (memS (memS (mem0))))) | with_reducible exact memS (memS (memS (memS (memS (memS (mem0)))))) | with_reducible exact memS (memS (memS (memS (memS (memS (memS (mem0))))))) | with_reducible exact memS (memS (memS (memS (memS (memS (memS (memS (mem0)))))))) | with_reducible exact memS (memS (memS (memS (memS (memS (memS (memS (memS (mem0))))))))) | with_reducible exact memS (memS (memS (memS (memS (memS (memS (memS (memS (memS (mem0)))))))))) | with_reducible exact memS (memS (memS (memS (memS (memS (memS (memS (memS (memS (memS (mem0))))))))))) | with_reducible exact memS (memS (memS (memS (memS (memS (memS (memS (memS (memS (memS (memS (mem0)))))))))))) | with_reducible exact memS (memS (memS (memS (memS (memS (memS (memS (memS (memS (memS (memS (memS (mem0)))))))))))))) (by rfl) (by rfl) (by rfl) (by (try simp); omega) (by intro e_; first | with_reducible exact .here | with_reducible exact .there (.here) | with_reducible exact .there (.there (.here)) | with_reducible exact .there (.there (.there (.here))) | with_reducible exact .there (.there (.there (.there (.here)))) | with_reducible exact .there (.there (.there (.there (.there (.here))))) | with_reducible exact .there (.there (.there (.there (.there (.there (.here)))))) | with_reducible exact .there (.there (.there (.there (.there (.there (.there (.here))))))) | with_reducible exact .there (.there (.there (.there (.there (.there (.there (.there (.here)))))))) | with_reducible exact .there (.there (.there (.there (.there (.there (.there (.there (.there (.here))))))))) | with_reducible exact .there (.there (.there (.there (.there (.there (.there (.there (.there (.there (.here)))))))))) | with_reducible exact .there (.there (.there (.there (.there (.there (.there (.there (.there (.there (.there (.here))))))))))) | with_reducible exact .there (.there (.there (.there (.there (.there (.there (.there (.there (.there (.there (.there (.here)))))))))))) | with_reducible exact .there (.there (.there (.there (.there (.there (.there (.there (.there (.there (.there (.there (.there (.here)))))))))))))) rfl ?_
          clear h hO a w; intro a v87 e87 w h hM87 hO
          obtain ⟨A87, c87, rfl, hc87⟩ := hM87.form
          have hr87 := hM87.rr
          refine so h hO (yl_assign h rfl) rfl ?_; clear h a; intro a h
          refine endL ?_
          refine inB_n ?_
          refine then_n ?_
          refine seq ?_
          refine region ?_
          refine so h hO (yl_move h rfl) rfl ?_; clear h a; intro a h
          refine so h hO (yl_assign h rfl) rfl ?_; clear h a; intro a h
          refine endL ?_
          refine then_n ?_
          refine retc ?_
          refine ret1 h hO Try.results22 (.tmp rfl .nil) ?_
          refine Ret.mk ?_
          exact ⟨_, _, hM87.rd, (by exact hO.sub (by repeat (first | with_reducible exact List.Sublist.refl _ | with_reducible refine List.Sublist.cons_cons _ ?_ | refine List.Sublist.cons _ ?_)))⟩
        · have hp8 := hb8
          try simp only [decide_eq_true_eq, decide_eq_false_iff_not, Bool.not_eq_true', Bool.not_eq_false', Int.not_lt, Int.not_le, ne_eq, Decidable.not_not] at hp8
          refine seq ?_
          refine region ?_
          refine so h hO (yl_eq h rfl rfl) rfl ?_; clear h a; intro a h
          refine so h hO (yl_assign h rfl) rfl ?_; clear h a; intro a h
          refine endL ?_
          refine then_n ?_
          refine cond_s h rfl (fun hb9 => ?_) (fun hb9 => ?_)
          · have hp9 := hb9
            try simp only [decide_eq_true_eq, decide_eq_false_iff_not, Bool.not_eq_true', Bool.not_eq_false', Int.not_lt, Int.not_le, ne_eq, Decidable.not_not] at hp9
            refine block ?_
            refine loop (fun (x : Nat) a w => ∃ (xs : List Int) (u : Value) (eo : Ent), xs.length = x ∧ x ≤ 61 ∧ Mu I 3 1 xs u eo ∧ St 101 [] [(0, .pointer (some ⟨bc, 0, none⟩)), (3, u)] a ∧ OwnE w0 w (eo :: ec :: L)) (fun x => 61 - x) xs.length ?_ ?_
            · exact ⟨xs, _, _, rfl, by omega, hM, h.weak (subB_cons rfl (subB_cons rfl (subB_nil))), (by exact hO.sub (by repeat (first | with_reducible exact List.Sublist.refl _ | with_reducible refine List.Sublist.cons_cons _ ?_ | refine List.Sublist.cons _ ?_)))⟩
            · clear h a hO w
              rintro x a w ⟨xs, u, eo, hxl, hx61, hM, h, hO⟩
              obtain ⟨A1, c1, rfl, hc1⟩ := hM.form
              refine seq ?_
              refine seq ?_
              refine region ?_
              refine so h hO (yl_move h rfl) rfl ?_; clear h a; intro a h
              refine so h hO (yl_len h rfl p0) rfl ?_; clear h a; intro a h
              refine so h hO (yl_lt h rfl rfl) rfl ?_; clear h a; intro a h
              refine endL ?_
              refine then_n ?_
              refine cond_s h rfl (fun hb10 => ?_) (fun hb10 => ?_)
              · have hp10 := hb10
                try simp only [decide_eq_true_eq, decide_eq_false_iff_not, Bool.not_eq_true', Bool.not_eq_false', Int.not_lt, Int.not_le, ne_eq, Decidable.not_not] at hp10
                refine skip ?_
                refine then_n ?_
                refine block ?_
                refine region ?_
                refine so h hO (yl_move h rfl) rfl ?_; clear h a; intro a h
                refine so h hO (yl_move h rfl) rfl ?_; clear h a; intro a h
                refine so h hO (yl_len h rfl p0) rfl ?_; clear h a; intro a h
                refine so h hO (yl_rem h rfl rfl (by omega)) rfl ?_; clear h a; intro a h
                first | (refine so h hO (yl_add64 h rfl rfl (by omega)) rfl ?_) | (refine so h hO (yl_add h rfl rfl) rfl ?_)
                clear h a; intro a h
                refine stepBuildAll (us := [_]) h hO rfl p0 rfl p4 rfl rfl rfl rfl rfl ?_; clear h hO a w; intro a b98 w h hO
                refine stepApp  h hO rfl rfl p5 rfl (by assumption) (by first | with_reducible exact mem0 | with_reducible exact memS (mem0) | with_reducible exact memS (memS (mem0)) | with_reducible exact memS (memS (memS (mem0))) | with_reducible exact memS (memS (memS (memS (mem0)))) | with_reducible exact memS (memS (memS (memS (memS (mem0))))) | with_reducible exact memS (memS (memS (memS (memS (memS (mem0)))))) | with_reducible exact memS (memS (memS (memS (memS (memS (memS (mem0))))))) | with_reducible exact memS (memS (memS (memS (memS (memS (memS (memS (mem0)))))))) | with_reducible exact memS (memS (memS (memS (memS (memS (memS (memS (memS (mem0))))))))) | with_reducible exact memS (memS (memS (memS (memS (memS (memS (memS (memS (memS (mem0)))))))))) | with_reducible exact memS (memS (memS (memS (memS (memS (memS (memS (memS (memS (memS (mem0))))))))))) | with_reducible exact memS (memS (memS (memS (memS (memS (memS (memS (memS (memS (memS (memS (mem0)))))))))))) | with_reducible exact memS (memS (memS (memS (memS (memS (memS (memS (memS (memS (memS (memS (memS (mem0)))))))))))))) (by rfl) (by rfl) (by rfl) (by (try simp); omega) (by intro e_; first | with_reducible exact .here | with_reducible exact .there (.here) | with_reducible exact .there (.there (.here)) | with_reducible exact .there (.there (.there (.here))) | with_reducible exact .there (.there (.there (.there (.here)))) | with_reducible exact .there (.there (.there (.there (.there (.here))))) | with_reducible exact .there (.there (.there (.there (.there (.there (.here)))))) | with_reducible exact .there (.there (.there (.there (.there (.there (.there (.here))))))) | with_reducible exact .there (.there (.there (.there (.there (.there (.there (.there (.here)))))))) | with_reducible exact .there (.there (.there (.there (.there (.there (.there (.there (.there (.here))))))))) | with_reducible exact .there (.there (.there (.there (.there (.there (.there (.there (.there (.there (.here)))))))))) | with_reducible exact .there (.there (.there (.there (.there (.there (.there (.there (.there (.there (.there (.here))))))))))) | with_reducible exact .there (.there (.there (.there (.there (.there (.there (.there (.there (.there (.there (.there (.here)))))))))))) | with_reducible exact .there (.there (.there (.there (.there (.there (.there (.there (.there (.there (.there (.there (.there (.here)))))))))))))) rfl ?_
                clear h hO a w; intro a v99 e99 w h hM99 hO
                obtain ⟨A99, c99, rfl, hc99⟩ := hM99.form
                have hr99 := hM99.rr
                refine so h hO (yl_assign h rfl) rfl ?_; clear h a; intro a h
                refine endL ?_
                refine inB_n ?_
                refine then_n ?_
                refine ⟨x + 1, by omega, xs ++ [_], _, _, by simp; omega, by omega, hM99, h.weak (subB_cons rfl (subB_cons rfl (subB_nil))), (by exact hO.sub (by repeat (first | with_reducible exact List.Sublist.refl _ | with_reducible refine List.Sublist.cons_cons _ ?_ | refine List.Sublist.cons _ ?_)))⟩
              · have hp10 := hb10
                try simp only [decide_eq_true_eq, decide_eq_false_iff_not, Bool.not_eq_true', Bool.not_eq_false', Int.not_lt, Int.not_le, ne_eq, Decidable.not_not] at hp10
                refine exit_ ?_
                refine then_x ?_
                refine then_x ?_
                refine inB_same ?_
                refine inB_n ?_
                refine then_n ?_
                refine seq ?_
                refine region ?_
                refine so h hO (yl_move h rfl) rfl ?_; clear h a; intro a h
                refine so h hO (yl_assign h rfl) rfl ?_; clear h a; intro a h
                refine endL ?_
                refine then_n ?_
                refine retc ?_
                refine ret1 h hO Try.results22 (.tmp rfl .nil) ?_
                refine Ret.mk ?_
                exact ⟨_, _, hM.rd, (by exact hO.sub (by repeat (first | with_reducible exact List.Sublist.refl _ | with_reducible refine List.Sublist.cons_cons _ ?_ | refine List.Sublist.cons _ ?_)))⟩
          · have hp9 := hb9
            try simp only [decide_eq_true_eq, decide_eq_false_iff_not, Bool.not_eq_true', Bool.not_eq_false', Int.not_lt, Int.not_le, ne_eq, Decidable.not_not] at hp9
            refine skip ?_
            refine inB_n ?_
            refine then_n ?_
            refine seq ?_
            refine region ?_
            refine so h hO (yl_move h rfl) rfl ?_; clear h a; intro a h
            refine so h hO (yl_assign h rfl) rfl ?_; clear h a; intro a h
            refine endL ?_
            refine then_n ?_
            refine retc ?_
            refine ret1 h hO Try.results22 (.tmp rfl .nil) ?_
            refine Ret.mk ?_
            exact ⟨_, _, hM.rd, (by exact hO.sub (by repeat (first | with_reducible exact List.Sublist.refl _ | with_reducible refine List.Sublist.cons_cons _ ?_ | refine List.Sublist.cons _ ?_)))⟩
set_option maxHeartbeats 4000000 in
theorem DrawOpenAtEnd_spec (code : List Int) {v : Value} {w0 w : World} {L : List Ent} (hO : OwnE w0 w L) (hv : Rd U8 1 (extH w0) code v) (h8 : ∀ x ∈ code, 0 ≤ x ∧ x ≤ 255) : Calls Try.prog 5 ⟨[v]⟩ w (Ret (fun v w => ∃ xs e', Rd I 1 (inE e') xs v ∧ OwnE w0 w (e' :: L))) := by
  refine enter Try.func5 rfl Try.ntmps5 rfl ?_
  intro a h
  obtain ⟨A, c, rfl, hc, hr⟩ := hv
  refine seq ?_
  refine region ?_
  refine so h hO (yl_assign h rfl) rfl ?_; clear h a; intro a h
  refine endL ?_
  refine then_n ?_
  refine seq ?_
  refine region ?_
  refine so h hO (yl_move h rfl) rfl ?_; clear h a; intro a h
  refine so h hO (yl_build h rfl ⟨_, p52, .inl ⟨_, p53, rfl⟩⟩) rfl ?_; clear h a; intro a h
  refine stepBox h hO rfl rfl ?_; clear h hO a w; intro a b6 w h hO
  refine so h hO (yl_assign h rfl) rfl ?_; clear h a; intro a h
  refine endL ?_
  refine then_n ?_
  refine seq ?_
  refine region ?_
  refine so h hO (yl_move h rfl) rfl ?_; clear h a; intro a h
  refine callR h rfl rfl p54 (entries7_spec hO ⟨code, A, c, 0, 0, rfl, hc, hr, h8, by omega, by omega⟩) rfl ?_; clear h a hO w
  rintro _ w ⟨xs, e1, hx, hO⟩ a h
  refine so h hO (yl_assign h rfl) rfl ?_; clear h a; intro a h
  refine endL ?_
  refine then_n ?_
  refine retc ?_
  refine ret1 h hO Try.results5 (.tmp rfl .nil) ?_
  refine Ret.mk ?_
  exact ⟨_, _, hx, hO⟩
set_option maxHeartbeats 4000000 in
theorem vBig_spec (code : List Int) {v : Value} {H : Nat → Obj → Prop} {w0 w : World} {L : List Ent} (hO : OwnE w0 w L) (hv : Rd U8 1 H code v) : Calls Try.prog 4 ⟨[v]⟩ w (Ret (fun v w => v = .bool (decide ((code.length : Int) > 65536)) ∧ OwnE w0 w L)) := by
  refine enter Try.func4 rfl Try.ntmps4 rfl ?_
  intro a h
  obtain ⟨A, c, rfl, hc, hr⟩ := hv
  refine seq ?_
  refine region ?_
  refine so h hO (yl_assign h rfl) rfl ?_; clear h a; intro a h
  refine endL ?_
  refine then_n ?_
  refine seq ?_
  refine region ?_
  refine so h hO (yl_move h rfl) rfl ?_; clear h a; intro a h
  refine so h hO (yl_len h rfl p9) rfl ?_; clear h a; intro a h
  refine so h hO (yl_gt h rfl rfl) rfl ?_; clear h a; intro a h
  refine so h hO (yl_assign h rfl) rfl ?_; clear h a; intro a h
  refine endL ?_
  refine then_n ?_
  refine retc ?_
  refine ret1 h hO Try.results4 (.tmp rfl .nil) ?_
  refine Ret.mk ?_
  exact ⟨rfl, hO⟩
end Go.Proofs.Ytebfglbnemahiaa
